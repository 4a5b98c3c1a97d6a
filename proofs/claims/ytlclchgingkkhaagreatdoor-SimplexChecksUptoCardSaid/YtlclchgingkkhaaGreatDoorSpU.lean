/-
  Laws that the proof of this claim's statement leans on, each proved under the conditions that it states.
-/
import Derived.Test.YtlclchgingkkhaaGreatDoorSpP
set_option linter.unusedVariables false
set_option linter.unusedSimpArgs false
namespace Go.Sh
open Go Go.Lift
section
variable {h0 h : Heap} {a : Addr} {lim : Nat} {ov : Bool}
theorem MK.atb {K : Nat → Prop} {s : Sl} {ms : PL} (hm : MK K h s ms) {i : Int} {j : Nat} {k : Addr → Prop} (hij : i = (j : Int)) (hj : j < ms.length) (C : ∀ a (y : Y4), cells? h a 4 0 = some (C4 y) → y.1 = ms[j].1 → RK K h (co y) ms[j].2 → (∀ k, K k → a.block ≠ k) → k a) : idxS s i 4 k := by
  obtain ⟨ys, h1, h2⟩ := hm.row
  have hjy : j < ys.length := by rw [h2.length]; exact hj
  subst hij
  obtain ⟨a, ha, hc⟩ := h1.cells j hjy
  have := h1.len
  have hg := h2.get j hjy hj
  refine ⟨a, ha, ⟨by omega, by omega⟩, C _ ys[j] (by simpa using hc) hg.1 hg.2 fun k hk hh => ?_⟩
  refine hm.off (by rintro rfl; simp at hj) k hk ?_
  rw [af] at hh
  simp [Sl.blk, ha, hh]
theorem pH : mrg [] [] = [] := by rw [mrg]
theorem adg {c : Rat} {p : Rat × PL} {n : Nat} (s1 : szQ c ≤ n) (s2 : szQ p.1 ≤ n) (s3 : ∀ m ∈ p.2, szQ m.2 ≤ n) : szQ (scP c p).1 ≤ 2 * n + 2 ∧ ∀ m ∈ (scP c p).2, szQ m.2 ≤ 2 * n + 2 := by
  unfold scP
  split
  · exact ⟨by rw [bP]; omega, fun m hm => by simp at hm⟩
  · refine ⟨by have := pd c p.1; simp only; omega, fun m hm => ?_⟩
    simp only [scL, List.mem_map] at hm
    obtain ⟨m', hm', rfl⟩ := hm
    have := pd c m'.2; have := s3 m' hm'
    simp only; omega
theorem ack {o : Bool} {p : Rat × PL} {n : Nat} (s2 : szQ p.1 ≤ n) (s3 : ∀ m ∈ p.2, szQ m.2 ≤ n) : szQ (valP o p).1 ≤ n ∧ ∀ m ∈ (valP o p).2, szQ m.2 ≤ n := by
  unfold valP; split
  · exact ⟨by rw [bP]; omega, fun m hm => by simp at hm⟩
  · exact ⟨s2, s3⟩
theorem uL {c : Rat} {p : Rat × PL} : (scP c p).2.length ≤ p.2.length := by
  unfold scP; split
  · simp
  · simp [scL]
end
end Go.Sh

namespace Go.Sh
open Go Go.Lift
abbrev K0 : Nat → Prop := fun _ => False
structure PQ (h : Heap) (x : X4) (p : Rat × PL) : Prop where
  c : RQ h (cst x) p.1
  m : MK K0 h x.2.2.2 p.2
theorem PQ.ext {h h' : Heap} {x : X4} {p : Rat × PL} (hx : PQ h x p) (e : Ext h h') : PQ h' x p := ⟨hx.c.ext e, hx.m.ext e⟩
theorem RK.k0 {K : Nat → Prop} {h : Heap} {x : X3} {q : Rat} (hx : RK K h x q) : RK K0 h x q := hx.raise fun k hk => hk.elim
theorem MK.k0 {K : Nat → Prop} {h : Heap} {s : Sl} {ms : PL} (hx : MK K h s ms) : MK K0 h s ms := hx.raise fun k hk => hk.elim
def RawB (h : Heap) (x : X3) : Prop := ∃ xs ys, XR h x xs ys ∧ xs.length ≤ 1048576 ∧ ys.length ≤ 1048576
theorem RawB.ext {h h' : Heap} {x : X3} (hx : RawB h x) (e : Ext h h') : RawB h' x := by
  obtain ⟨xs, ys, h1, h2⟩ := hx; exact ⟨xs, ys, h1.ext e, h2⟩
theorem RawB.isQ_ext {h h' : Heap} {x : X3} (hx : RawB h x) (e : Ext h h') : isQ h' x ↔ isQ h x := by
  obtain ⟨xs, ys, h1, h2, h3⟩ := hx
  rw [h1.isQ_iff (by omega) (by omega), (h1.ext e).isQ_iff (by omega) (by omega)]
structure Raw4 (h : Heap) (x : X4) : Prop where
  c : RawB h (cst x)
  m : ∃ ys : List Y4, RS C4 4 h x.2.2.2 ys ∧ (∀ y ∈ ys, RawB h (co y)) ∧ x.2.2.2.len ≤ x.2.2.2.cap
theorem Raw4.ext {h h' : Heap} {x : X4} (hx : Raw4 h x) (e : Ext h h') : Raw4 h' x := by
  obtain ⟨h1, ys, h2, h3, h4⟩ := hx
  exact ⟨h1.ext e, ys, RS.ext h2 e, fun y hy => (h3 y hy).ext e, h4⟩
structure Rt (p : Rat × PL) : Prop where
  srt : Srt p.2
  nn : ∀ m ∈ p.2, 0 ≤ m.1
  nz : ∀ m ∈ p.2, m.2 ≠ 0
def isP (h : Heap) (x : X4) : Prop := ∃ p, PQ h x p ∧ Rt p
theorem MK.of_all {h : Heap} {s : Sl} {ys : List Y4} {ms : PL} (hr : RS C4 4 h s ys) (hc : s.len ≤ s.cap) (ha : All2 (fun y m => y.1 = m.1 ∧ RQ h (co y) m.2) ys ms) : MK K0 h s ms :=
  ⟨hc, ⟨ys, hr, ha.imp fun y m h => ⟨h.1, RK.of_rq h.2 fun k hk => hk.elim⟩⟩, fun _ k hk => hk.elim⟩
theorem lW {h0 h : Heap} {x : X4} {Q : Bool → Heap → Prop} (hx : Raw4 h0 x) (e0 : Ext h0 h) (hl : x.2.2.2.len ≤ 1048576) (C : ∀ b h', (b = true ↔ isP h0 x) → Ext h h' → Q b h') : fe x h Q := by
  obtain ⟨⟨xs, xd, hX, lx, ld⟩, ys, hr, hraw, hcap⟩ := hx
  have hlen := hr.len
  refine ae fun h1 e1 => fy (hX.ext (e0.trans e1)) (by omega) (by omega) fun b h2 hb e2 => ?_
  have hb' : b = true ↔ isQ h0 (cst x) := by rw [hb]; exact RawB.isQ_ext ⟨xs, xd, hX, lx, ld⟩ (e0.trans e1)
  have e02 := e1.trans e2
  refine ⟨fun hf => C false h2 ?_ e02, fun ht => ?_⟩
  · have : ¬ isQ h0 (cst x) := fun hq => by rw [hb'.2 hq] at hf; cases hf
    refine ⟨nofun, fun ⟨p, hp, _⟩ => absurd ⟨p.1, hp.c⟩ this⟩
  have hbt : b = true := by simpa using ht
  obtain ⟨c0, hc0⟩ := hb'.1 hbt
  refine loop.inv (fun t h' => ∃ (j : Nat) (ms : PL), t = (j : Int) ∧ j ≤ ys.length ∧ ms.length = j ∧ All2 (fun y m => y.1 = m.1 ∧ RQ h0 (co y) m.2) (ys.take j) ms ∧ Srt ms ∧ (∀ m ∈ ms, 0 ≤ m.1 ∧ m.2 ≠ 0) ∧ Ext h h') (fun t _ => ys.length - t.toNat)
    ⟨0, [], rfl, by omega, rfl, .nil, List.Pairwise.nil, fun m hm => by simp at hm, e02⟩ ?_
  rintro _ h3 ⟨j, ms, rfl, hj, hml, hall, hsrt, hms, e3⟩
  refine ⟨fun hlt => ?_, fun hge => ?_⟩
  · simp only [decide_eq_true_eq] at hlt
    have hj' : j < ys.length := by omega
    have AT : ∀ {h' : Heap} {i : Int} {kk : Addr → Prop} {n : Nat} (hn : n < ys.length), Ext h h' → i = (n : Int) → (∀ a, cells? h' a 4 0 = some (C4 ys[n]) → kk a) → idxS x.2.2.2 i 4 kk := fun {h' i kk n} hn e hi K' => by
      subst hi
      obtain ⟨a, ha, hc⟩ := (RS.ext hr (e0.trans e)).cells n hn
      exact ⟨a, ha, ⟨by omega, by omega⟩, K' _ (by simpa using hc)⟩
    refine AT hj' e3 rfl fun a1 hc1 => ⟨ys[j], hc1, ae fun h4 e4 => ?_⟩
    have e04 := e3.trans e4
    have hry := hraw ys[j] (List.getElem_mem hj')
    -- what is found out of this one
    refine seq.cut (fun t h5 => (t = false → ∃ q, RQ h0 (co ys[j]) q ∧ q ≠ 0 ∧ 0 ≤ ys[j].1 ∧ (∀ m ∈ ms, m.1 < ys[j].1)) ∧ (t = true → ¬ isP h0 x) ∧ Ext h h5) ?_ ?_
    · have bad : ∀ {p : Rat × PL}, PQ h0 x p → Rt p → ∃ (h1 : j < p.2.length), ys[j].1 = p.2[j].1 ∧ RQ h0 (co ys[j]) p.2[j].2 ∧ (∀ n (hn : n < ys.length) (h2 : n < p.2.length), ys[n].1 = p.2[n].1) := by
        intro p hp hrt
        obtain ⟨zs, hz, hza⟩ := hp.m.row
        have hzy : zs = ys := by
          apply List.ext_getElem (by rw [← hz.len, hr.len])
          intro n n1 n2
          obtain ⟨a, ha, hc⟩ := hz.cells n n1
          obtain ⟨a', ha', hc'⟩ := hr.cells n n2
          rw [ha] at ha'; cases ha'
          rw [hc] at hc'
          have := Option.some.inj hc'
          simp only [C4, ai, List.cons.injEq, Value.int.injEq, Value.bool.injEq, true_and, and_true] at this
          obtain ⟨t1, t2, t3, t4⟩ := this
          have s1 : ∀ {s t : Sl}, Sl.toV s = Sl.toV t → s = t := fun {s t} h => by
            cases s; cases t; simp only [Sl.toV, Value.slice.injEq] at h; obtain ⟨rfl, rfl, rfl⟩ := h; rfl
          exact Prod.ext t1 (Prod.ext t2 (Prod.ext (s1 t3) (s1 t4)))
        subst hzy
        have hpl := hza.length
        refine ⟨by omega, (hza.get j hj' (by omega)).1, (hza.get j hj' (by omega)).2.rq, fun n n1 n2 => (hza.get n n1 n2).1⟩
      have tail : ∀ {J : Bool → Heap → Prop}, 0 ≤ ys[j].1 → (∀ m ∈ ms, m.1 < ys[j].1) → (∀ t h5, (t = false → ∃ q, RQ h0 (co ys[j]) q ∧ q ≠ 0 ∧ 0 ≤ ys[j].1 ∧ (∀ m ∈ ms, m.1 < ys[j].1)) ∧ (t = true → ¬ isP h0 x) ∧ Ext h h5 → J t h5) →
          bp (ys[j].2.1, ys[j].2.2.1, ys[j].2.2.2) h4 fun v_3 h0u5 => iteB (!v_3) (J true h0u5) (J (((ys[j].2.2.1.len : Nat) : Int) == 0) h0u5) := by
        intro J hnn hsm k
        obtain ⟨us, ud, hU, lu, lud⟩ := hry
        refine fy (hU.ext (e0.trans e04)) (by omega) (by omega) fun b5 h5 hb5 e5 => ?_
        have hb5' : b5 = true ↔ isQ h0 (co ys[j]) := by rw [hb5]; exact RawB.isQ_ext ⟨us, ud, hU, lu, lud⟩ (e0.trans e04)
        have e05 := e04.trans e5
        refine ⟨fun hf => k _ _ ⟨nofun, fun _ ⟨p, hp, hrt⟩ => ?_, e05⟩, fun ht => ?_⟩
        · obtain ⟨h1, h2, h3, _⟩ := bad hp hrt
          have := hb5'.2 ⟨_, h3⟩
          simp [this] at hf
        · have hbt5 : b5 = true := by simpa using ht
          obtain ⟨q, hq⟩ := hb5'.1 hbt5
          have hz : ((((ys[j].2.2.1.len : Nat) : Int) == 0) = true) ↔ q.num.natAbs = 0 := by
            have := hq.num.len_zero
            rw [beq_iff_eq]
            constructor
            · intro h0; exact this.1 (by show ys[j].2.2.1.len = 0; omega)
            · intro h0; have h1 : ys[j].2.2.1.len = 0 := this.2 h0; omega
          refine k _ _ ⟨fun h0 => ⟨q, hq, fun hq0 => ?_, hnn, hsm⟩, fun h0 ⟨p, hp, hrt⟩ => ?_, e05⟩
          · subst hq0
            have := hz.2 rfl
            rw [this] at h0; cases h0
          · obtain ⟨h1, h2, h3, _⟩ := bad hp hrt
            have hqz : q.num.natAbs = 0 := hz.1 h0
            have hpz := hq.num.len_zero.2 hqz
            have hpz2 := h3.num.len_zero.1 hpz
            exact hrt.nz _ (List.getElem_mem h1) (Rat.num_eq_zero.1 (by omega))
      refine ⟨fun hneg => ⟨nofun, fun _ ⟨p, hp, hrt⟩ => ?_, e04⟩, fun hnneg => ?_⟩
      · simp only [decide_eq_true_eq] at hneg
        obtain ⟨h1, h2, h3, _⟩ := bad hp hrt
        have := hrt.nn _ (List.getElem_mem h1)
        omega
      · simp only [decide_eq_false_iff_not, Int.not_lt] at hnneg
        refine ⟨fun hj0 => ?_, fun hj0 => ?_⟩
        · simp only [gt_iff_lt, decide_eq_true_eq] at hj0
          rw [w64 (n := (j : Int) - 1) (by omega) (by omega)]
          have hj1 : j - 1 < ys.length := by omega
          refine AT hj1 e04 (by omega) fun a2 hc2 => ⟨_, dX hc2, ?_⟩
          have hm1 : j - 1 < ms.length := by omega
          have hlast := (hall.get (j - 1) (by simp; omega) hm1).1
          rw [List.getElem_take] at hlast
          refine ⟨fun hle => ⟨nofun, fun _ ⟨p, hp, hrt⟩ => ?_, e04⟩, fun hgt => tail hnneg ?_ fun t h5 H => H⟩
          · simp only [decide_eq_true_eq] at hle
            obtain ⟨h1, h2, h3, h4'⟩ := bad hp hrt
            have h5 := h4' (j - 1) hj1 (by omega)
            have := List.pairwise_iff_getElem.1 hrt.srt (j - 1) j (by omega) h1 (by omega)
            omega
          · simp only [decide_eq_false_iff_not] at hgt
            intro m hm
            obtain ⟨n, hn, rfl⟩ := List.getElem_of_mem hm
            by_cases hnj : n = j - 1
            · subst hnj; omega
            · have := List.pairwise_iff_getElem.1 hsrt n (j - 1) hn hm1 (by omega)
              omega
        · simp only [gt_iff_lt, decide_eq_false_iff_not] at hj0
          refine tail hnneg (fun m hm => ?_) fun t h5 H => H
          have : ms = [] := List.eq_nil_of_length_eq_zero (by omega)
          subst this; simp at hm
    · rintro t h5 ⟨hf, ht, e5⟩
      refine ⟨fun htt => C false h5 ⟨nofun, fun hp => absurd hp (ht htt)⟩ e5, fun htf => ?_⟩
      obtain ⟨q, hq, hq0, hnn, hsm⟩ := hf htf
      rintro _ rfl
      refine ⟨⟨j + 1, ms ++ [(ys[j].1, q)], ?_, by omega, by simp; omega, ?_, ?_, ?_, e5⟩, ?_⟩
      · rw [w64 (by omega) (by omega)]; omega
      · rw [List.take_succ_eq_append_getElem hj']
        exact hall.append (.cons ⟨rfl, hq⟩ .nil)
      · refine List.pairwise_append.2 ⟨hsrt, List.pairwise_singleton _ _, fun m hm n hn => ?_⟩
        simp only [List.mem_singleton] at hn
        subst hn
        exact hsm m hm
      · intro m hm
        rcases List.mem_append.1 hm with hm | hm
        · exact hms m hm
        · simp only [List.mem_singleton] at hm
          subst hm
          exact ⟨hnn, hq0⟩
      · rw [w64 (by omega) (by omega)]; omega
  · simp only [decide_eq_false_iff_not] at hge
    have hjl : j = ys.length := by omega
    subst hjl
    rw [List.take_length] at hall
    exact C true h3 ⟨fun _ => ⟨(c0, ms), ⟨hc0, MK.of_all hr hcap hall⟩, ⟨hsrt, fun m hm => (hms m hm).1, fun m hm => (hms m hm).2⟩⟩, fun _ => rfl⟩ e3
end Go.Sh

namespace Go.Sh
open Go Go.Lift
structure Few4 (p : Rat × PL) : Prop where
  rt : Rt p
  n : p.2.length ≤ 12
  c : szQ p.1 ≤ 6
  m : ∀ m ∈ p.2, szQ m.2 ≤ 6
def SmP (h : Heap) (x : X4) : Prop := ∃ p, PQ h x p ∧ Few4 p
theorem pg {h : Heap} {x : X3} {q : Rat} (hq : RQ h x q) (hb : bigR x = false) : szQ q ≤ 6 := by
  unfold bigR at hb
  simp only [Bool.or_eq_false_iff, decide_eq_false_iff_not] at hb
  have := hq.num.nl
  have := hq.den.nl
  unfold szQ
  omega
theorem zH {h0 h : Heap} {l : Sl} {xs : List X4} {Q : Bool → Heap → Prop} (hl : RS ah 4 h l xs) (e0 : Ext h0 h) (hx : xs.length ≤ 1048576) (hraw : ∀ x ∈ xs, Raw4 h0 x)
    (K : ∀ b h', (b = false → ∀ x ∈ xs, SmP h0 x) → Ext h h' → Q b h') : mP l h Q := by
  have hlen := hl.len
  refine loop.inv (fun t h' => ∃ i : Nat, t = (i : Int) ∧ i ≤ xs.length ∧ (∀ x ∈ xs.take i, SmP h0 x) ∧ Ext h h') (fun t _ => xs.length - t.toNat) ⟨0, rfl, by omega, fun x hx => by simp at hx, Keep.refl _ _⟩ ?_
  rintro _ h1 ⟨i, rfl, hi, hsm, e1⟩
  refine ⟨fun hlt => ?_, fun hge => ?_⟩
  · simp only [decide_eq_true_eq] at hlt
    have hi' : i < xs.length := by omega
    refine (RS.ext hl e1).ld (i := (i : Int)) (j := i) rfl hi' ?_
    have hr := hraw xs[i] (List.getElem_mem hi')
    have htk : xs.take (i + 1) = xs.take i ++ [xs[i]] := List.take_succ_eq_append_getElem hi'
    generalize xs[i] = x at *
    refine ae fun h2 e2 => ?_
    have e12 := e1.trans e2
    refine seq.cut (fun t h3 => (t = false → isP h0 x ∧ bigR (cst x) = false ∧ x.2.2.2.len ≤ 12) ∧ Ext h h3) ?_ ?_
    · refine ⟨fun _ => ⟨nofun, e12⟩, fun h12 => ?_⟩
      simp only [gt_iff_lt, decide_eq_false_iff_not] at h12
      refine abL (x := cst x) fun h3 e3 => ⟨fun _ => ⟨nofun, e12.trans e3⟩, fun hb => ?_⟩
      refine lW hr (e0.trans (e12.trans e3)) (by show x.2.2.2.len ≤ 1048576; omega) fun b h4 hb4 e4 => ⟨fun hbf => ⟨hb4.1 (by simpa using hbf), hb, by omega⟩, e12.trans (e3.trans e4)⟩
    rintro t h3 ⟨hf, e3⟩
    refine ⟨fun ht => K true h3 nofun e3, fun ht => ?_⟩
    obtain ⟨⟨p, hp, hrt⟩, hbc, hxl⟩ := hf ht
    have hml := hp.m.len
    have hbc' := pg hp.c hbc
    have e03 := e0.trans e3
    refine loop.inv (fun t h' => ∃ j : Nat, t = (j : Int) ∧ j ≤ p.2.length ∧ (∀ m ∈ p.2.take j, szQ m.2 ≤ 6) ∧ Ext h h') (fun t _ => p.2.length - t.toNat) ⟨0, rfl, by omega, fun x hx => by simp at hx, e3⟩ ?_
    rintro _ h4 ⟨j, rfl, hj, hms, e4⟩
    refine ⟨fun hlt2 => ?_, fun hge2 => ?_⟩
    · simp only [decide_eq_true_eq] at hlt2
      have hj' : j < p.2.length := by omega
      refine (hp.m.ext (e0.trans e4)).at (i := (j : Int)) (j := j) rfl hj' fun a1 y hy hv hq => ⟨y, hy, ae fun h5 e5 => ?_⟩
      refine abL (x := co y) fun h6 e6 => ⟨fun _ => K true h6 nofun (e4.trans (e5.trans e6)), fun hb => ?_⟩
      refine ⟨⟨j + 1, by rw [w64 (by omega) (by omega)]; omega, by omega, ?_, e4.trans (e5.trans e6)⟩, ?_⟩
      · rw [List.take_succ_eq_append_getElem hj']
        intro m hm
        rcases List.mem_append.1 hm with hm | hm
        · exact hms m hm
        · simp only [List.mem_singleton] at hm
          subst hm
          exact pg hq.rq hb
      · rw [w64 (by omega) (by omega)]; omega
    · simp only [decide_eq_false_iff_not] at hge2
      have hjl : j = p.2.length := by omega
      subst hjl
      rw [List.take_length] at hms
      refine ⟨⟨i + 1, by rw [w64 (by omega) (by omega)]; omega, by omega, ?_, e4⟩, ?_⟩
      · rw [htk]
        intro z hz
        rcases List.mem_append.1 hz with hz | hz
        · exact hsm z hz
        · simp only [List.mem_singleton] at hz
          subst hz
          exact ⟨p, hp, hrt, by omega, hbc', hms⟩
      · rw [w64 (by omega) (by omega)]; omega
  · simp only [decide_eq_false_iff_not] at hge
    have : i = xs.length := by omega
    subst this
    rw [List.take_length] at hsm
    exact K false h1 (fun _ => hsm) e1
theorem xJ {h : Heap} {x y : X4} {p q : Rat × PL} {Q : Bool → Heap → Prop} (hp : PQ h x p) (hq : PQ h y q) (hl : p.2.length ≤ 1048576) (hl2 : q.2.length ≤ 1048576) (K : ∀ h', Ext h h' → Q (decide (p = q)) h') : jS x y h Q := by
  have hml := hp.m.len
  have hnl := hq.m.len
  refine ae fun h1 e1 => ?_
  refine seq.cut (fun t h2 => t = !decide (p.1 = q.1 ∧ p.2.length = q.2.length) ∧ Ext h h2) ?_ ?_
  · refine gJ (hp.c.ext e1) (hq.c.ext e1) fun h2 e2 => ⟨fun hf => ⟨?_, e1.trans e2⟩, fun ht => ⟨?_, e1.trans e2⟩⟩
    · have : ¬ p.1 = q.1 := by simpa using hf
      simp [this]
    · have hc : p.1 = q.1 := by simpa using ht
      simp only [hc, true_and]
      rw [Bool.eq_iff_iff]
      simp
      omega
  · rintro t h2 ⟨rfl, e2⟩
    refine ⟨fun hf => ?_, fun ht => ?_⟩
    · have hn : ¬ (p.1 = q.1 ∧ p.2.length = q.2.length) := fun hh => by rw [decide_eq_true hh] at hf; cases hf
      have : decide (p = q) = false := decide_eq_false fun h => hn (by rw [h]; exact ⟨rfl, rfl⟩)
      rw [← this]; exact K h2 e2
    · have hy : p.1 = q.1 ∧ p.2.length = q.2.length := by simpa using ht
      refine loop.inv (fun t h' => ∃ j : Nat, t = (j : Int) ∧ j ≤ p.2.length ∧ p.2.take j = q.2.take j ∧ Ext h h') (fun t _ => p.2.length - t.toNat) ⟨0, rfl, by omega, rfl, e2⟩ ?_
      rintro _ h3 ⟨j, rfl, hj, hms, e3⟩
      refine ⟨fun hlt => ?_, fun hge => ?_⟩
      · simp only [decide_eq_true_eq] at hlt
        have hj' : j < p.2.length := by omega
        have hj2 : j < q.2.length := by omega
        refine seq.cut (fun t h4 => t = !decide (p.2[j] = q.2[j]) ∧ Ext h h4) ?_ ?_
        · refine (hp.m.ext e3).at (i := (j : Int)) (j := j) rfl hj' fun a1 y1 hy1 hv1 _ => ⟨_, dX hy1, (hq.m.ext e3).at (i := (j : Int)) (j := j) rfl hj2 fun a2 y2 hy2 hv2 _ => ⟨_, dX hy2, ?_⟩⟩
          rw [hv1, hv2]
          refine ⟨fun hne => ⟨?_, e3⟩, fun he => ?_⟩
          · have hn : p.2[j].1 ≠ q.2[j].1 := by simpa using hne
            rw [decide_eq_false fun h => hn (by rw [h])]; rfl
          · have he' : p.2[j].1 = q.2[j].1 := by simpa using he
            refine (hp.m.ext e3).at (i := (j : Int)) (j := j) rfl hj' fun a3 y3 hy3 _ hq3 => ⟨co y3, yt hy3, (hq.m.ext e3).at (i := (j : Int)) (j := j) rfl hj2 fun a4 y4 hy4 _ hq4 => ⟨co y4, yt hy4, ?_⟩⟩
            refine gJ hq3.rq hq4.rq fun h4 e4 => ⟨?_, e3.trans e4⟩
            congr 1
            rw [decide_eq_decide, Prod.ext_iff]
            exact ⟨fun h => ⟨he', h⟩, fun h => h.2⟩
        · rintro t h4 ⟨rfl, e4⟩
          refine ⟨fun hf => ?_, fun ht => ?_⟩
          · have hn : ¬ p.2[j] = q.2[j] := by simpa using hf
            have : decide (p = q) = false := decide_eq_false fun h => hn (by subst h; rfl)
            rw [← this]; exact K h4 e4
          · have he : p.2[j] = q.2[j] := by simpa using ht
            rintro _ rfl
            refine ⟨⟨j + 1, by rw [w64 (by omega) (by omega)]; omega, by omega, ?_, e4⟩, by rw [w64 (by omega) (by omega)]; omega⟩
            rw [List.take_succ_eq_append_getElem hj', List.take_succ_eq_append_getElem hj2, hms, he]
      · simp only [decide_eq_false_iff_not] at hge
        have h1 : j = p.2.length := by omega
        subst h1
        rw [List.take_length, hy.2, List.take_length] at hms
        have : decide (p = q) = true := decide_eq_true (Prod.ext hy.1 hms)
        rw [← this]; exact K h3 e3
end Go.Sh

namespace Go.Sh
open Go Go.Lift
theorem wJ {ms : PL} {v : Int} {n : Nat} (hs : ∀ m ∈ ms, szQ m.2 ≤ n) : szQ (ak ms v) ≤ n := by
  induction ms with
  | nil => rw [ak, bP]; omega
  | cons m ms ih =>
    rw [ak]; split
    · exact hs m (by simp)
    · exact ih fun m hm => hs m (List.mem_cons_of_mem _ hm)
end Go.Sh

namespace Go.Sh
open Go Go.Lift
theorem Rt.nil {c : Rat} : Rt (c, []) := ⟨List.Pairwise.nil, fun m hm => by simp at hm, fun m hm => by simp at hm⟩
theorem Rt.sc {p : Rat × PL} {c : Rat} (hp : Rt p) (hc : c ≠ 0) : Rt (c * p.1, scL c p.2) := by
  refine ⟨aad hp.srt, fun m hm => ?_, fun m hm => ?_⟩
  · simp only [scL, List.mem_map] at hm
    obtain ⟨m', hm', rfl⟩ := hm
    exact hp.nn m' hm'
  · simp only [scL, List.mem_map] at hm
    obtain ⟨m', hm', rfl⟩ := hm
    exact fun h => by
      rcases Rat.mul_eq_zero.1 h with h | h
      · exact hc h
      · exact hp.nz m' hm' h
end Go.Sh
