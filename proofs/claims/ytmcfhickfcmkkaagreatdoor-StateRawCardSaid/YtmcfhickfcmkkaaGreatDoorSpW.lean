/-
  Laws that the proof of this claim's statement leans on, each proved under the conditions that it states.
-/
import Derived.Test.YtmcfhickfcmkkaaGreatDoorSpU
import Derived.Test.YtmcfhickfcmkkaaGreatDoorFwE
set_option linter.unusedVariables false
set_option linter.unusedSimpArgs false
namespace Go.Sh
open Go Go.Lift
theorem PQ.raw {h : Heap} {x : X4} {p : Rat × PL} (hp : PQ h x p) (s1 : szQ p.1 ≤ 1000) (s2 : ∀ m ∈ p.2, szQ m.2 ≤ 1000) : Raw4 h x := by
  have rb : ∀ {x : X3} {q : Rat}, RQ h x q → szQ q ≤ 1000 → RawB h x := fun {x q} hq hs => by
    obtain ⟨xs, ys, hX, _, _, l1, l2⟩ := hq.xr
    have := eZ q; have := abu q
    exact ⟨xs, ys, hX, by omega, by omega⟩
  obtain ⟨ys, hr, ha⟩ := hp.m.row
  refine ⟨rb hp.c s1, ys, hr, fun y hy => ?_, hp.m.cap⟩
  obtain ⟨n, hn, rfl⟩ := List.getElem_of_mem hy
  have hl := ha.length
  exact rb (ha.get n hn (by omega)).2.rq (s2 _ (List.getElem_mem _))
end Go.Sh

namespace Go.Sh
open Go Go.Lift
def valL (f : Int → Rat) : PL → Rat
  | [] => 0
  | m :: ms => m.2 * f m.1 + valL f ms
theorem wX {f : Int → Rat} {l : PL} {m : Int × Rat} : valL f (l ++ [m]) = valL f l + m.2 * f m.1 := by
  induction l with
  | nil => simp [valL]; grind
  | cons x l ih => simp only [List.cons_append, valL, ih]; grind
def vP (f : Int → Rat) (p : Rat × PL) : Rat := p.1 + valL f p.2
structure RL (K : Nat → Prop) (h : Heap) (s : Sl) (rs : List Rat) : Prop where
  row : ∃ xs : List X3, RS dM 3 h s xs ∧ All2 (fun x q => RK K h x q) xs rs
  off : rs ≠ [] → ∀ k, K k → s.blk ≠ some k
section
variable {K K' : Nat → Prop} {h h' h0 : Heap} {s : Sl} {rs : List Rat}
end
end Go.Sh

namespace Go.Sh
open Go Go.Lift
end Go.Sh

namespace Go.Sh
open Go Go.Lift
theorem acE {x : X3} {h : Heap} {Q : Int → Heap → Prop} (K : ∀ s h', (s = 0 ↔ x.2.1.len = 0) → Ext h h' → Q s h') : iU x h Q := by
  refine ak fun h1 e1 => ⟨fun hl => K 0 h1 ?_ e1, fun hl => ⟨fun _ => K _ h1 ?_ e1, fun _ => K _ h1 ?_ e1⟩⟩
  · simp only [beq_iff_eq] at hl
    exact ⟨fun _ => by omega, fun _ => rfl⟩
  · simp only [beq_eq_false_iff_ne, ne_eq] at hl
    exact ⟨fun h => by omega, fun h => by omega⟩
  · simp only [beq_eq_false_iff_ne, ne_eq] at hl
    exact ⟨fun h => by omega, fun h => by omega⟩
theorem afM {h : Heap} {s : Sl} {ys zs : List Y4} (hr : RS C4 4 h s ys) (hz : RS C4 4 h s zs) : zs = ys := by
  apply List.ext_getElem (by rw [← hz.len, hr.len])
  intro n n1 n2
  obtain ⟨a, ha, hc⟩ := hz.cells n n1
  obtain ⟨a', ha', hc'⟩ := hr.cells n n2
  rw [ha] at ha'; cases ha'
  rw [hc] at hc'
  have := Option.some.inj hc'
  simp only [C4, bd, List.cons.injEq, Value.int.injEq, Value.bool.injEq, true_and, and_true] at this
  obtain ⟨t1, t2, t3, t4⟩ := this
  have s1 : ∀ {s t : Sl}, Sl.toV s = Sl.toV t → s = t := fun {s t} h => by
    cases s; cases t; simp only [Sl.toV, Value.slice.injEq] at h; obtain ⟨rfl, rfl, rfl⟩ := h; rfl
  exact Prod.ext t1 (Prod.ext t2 (Prod.ext (s1 t3) (s1 t4)))
theorem xF {h0 h : Heap} {x : X4} {Q : Bool → Heap → Prop} (ht : Tab h0) (hx : Raw4 h0 x) (e0 : Ext h0 h) (hl : x.2.2.2.len ≤ 1048576) (C : ∀ b h', (b = true ↔ isP h0 x) → Ext h h' → Q b h') : iZ x h Q := by
  obtain ⟨⟨xs, xd, hX, lx, ld⟩, ys, hr, hraw, hcap⟩ := hx
  have hlen := hr.len
  refine ak fun h1 e1 => ?_
  have bad : ∀ {j : Nat} (hj' : j < ys.length) {p : Rat × PL}, PQ h0 x p → Rt p → ∃ (h1 : j < p.2.length), ys[j].1 = p.2[j].1 ∧ RQ h0 (co ys[j]) p.2[j].2 ∧ (∀ n (hn : n < ys.length) (h2 : n < p.2.length), ys[n].1 = p.2[n].1) := by
    intro j hj' p hp hrt
    obtain ⟨zs, hz, hza⟩ := hp.m.row
    have hzy := afM hr hz
    subst hzy
    have hpl := hza.length
    exact ⟨by omega, (hza.get j hj' (by omega)).1, (hza.get j hj' (by omega)).2.rq, fun n n1 n2 => (hza.get n n1 n2).1⟩
  refine loop.inv (fun t h' => ∃ (j : Nat) (ms : PL), t.2 = (j : Int) ∧ j ≤ ys.length ∧ ms.length = j ∧ All2 (fun y m => y.1 = m.1 ∧ RQ h0 (co y) m.2) (ys.take j) ms ∧ Srt ms ∧ (∀ m ∈ ms, 0 ≤ m.1 ∧ m.2 ≠ 0 ∧ m.1 ≤ t.1) ∧ (t.1 = -1 ∨ ∃ h : j - 1 < ys.length, 0 < j ∧ t.1 = ys[j - 1].1) ∧ -1 ≤ t.1 ∧ Ext h h') (fun t _ => ys.length - t.2.toNat)
    ⟨0, [], rfl, by omega, rfl, .nil, List.Pairwise.nil, fun m hm => by simp at hm, .inl rfl, by simp, e1⟩ ?_
  rintro ⟨last, _⟩ h3 ⟨j, ms, rfl, hj, hml, hall, hsrt, hms, hlast, hl1, e3⟩
  simp only at hlast hl1 hms
  refine ⟨fun hlt => ?_, fun hge => ?_⟩
  · simp only [decide_eq_true_eq] at hlt
    have hj' : j < ys.length := by omega
    obtain ⟨a, ha, hc⟩ := (RS.ext hr (e0.trans e3)).cells j hj'
    refine ⟨a, ha, ⟨by omega, by omega⟩, ys[j], by simpa using hc, ak fun h4 e4 => ?_⟩
    have e04 := e3.trans e4
    have hry := hraw ys[j] (List.getElem_mem hj')
    refine seq.cut (fun t h5 => (t = false → ∃ q, RQ h0 (co ys[j]) q ∧ q ≠ 0 ∧ last < ys[j].1) ∧ (t = true → ¬ isP h0 x) ∧ Ext h h5) ?_ ?_
    · refine ⟨fun hle => ⟨nofun, fun _ ⟨p, hp, hrt⟩ => ?_, e04⟩, fun hgt => acE (x := co ys[j]) fun s h5 hs e5 => ?_⟩
      · simp only [decide_eq_true_eq] at hle
        obtain ⟨h1, h2, h3, h4'⟩ := bad hj' hp hrt
        have n1 := hrt.nn _ (List.getElem_mem h1)
        rcases hlast with h | ⟨h6, h7, h8⟩
        · omega
        · have h5 := h4' (j - 1) h6 (by omega)
          have := List.pairwise_iff_getElem.1 hrt.srt (j - 1) j (by omega) h1 (by omega)
          omega
      · simp only [decide_eq_false_iff_not, Int.not_le] at hgt
        have e05 := e04.trans e5
        refine ⟨fun hz => ⟨nofun, fun _ ⟨p, hp, hrt⟩ => ?_, e05⟩, fun hnz => ?_⟩
        · simp only [beq_iff_eq] at hz
          obtain ⟨h1, h2, h3, _⟩ := bad hj' hp hrt
          have := h3.num.len_zero.1 (hs.1 hz)
          exact hrt.nz _ (List.getElem_mem h1) (Rat.num_eq_zero.1 (by omega))
        · simp only [beq_eq_false_iff_ne, ne_eq] at hnz
          obtain ⟨us, ud, hU, lu, lud⟩ := hry
          refine nE (R.ext ht (e0.trans e05)) (hU.ext (e0.trans e05)) lu lud fun b5 h6 hb5 e6 => ?_
          have hb5' : b5 = true ↔ isQ h0 (co ys[j]) := by rw [hb5]; exact RawB.isQ_ext ⟨us, ud, hU, lu, lud⟩ (e0.trans e05)
          refine ⟨fun h0 => ?_, fun h0 ⟨p, hp, hrt⟩ => ?_, e05.trans e6⟩
          · obtain ⟨q, hq⟩ := hb5'.1 (by simpa using h0)
            refine ⟨q, hq, fun hq0 => hnz (hs.2 ?_), hgt⟩
            subst hq0
            exact hq.num.len_zero.2 rfl
          · obtain ⟨h1, h2, h3, _⟩ := bad hj' hp hrt
            have := hb5'.2 ⟨_, h3⟩
            simp [this] at h0
    · rintro t h5 ⟨hf, ht', e5⟩
      refine ⟨fun htt => C false h5 ⟨nofun, fun hp => absurd hp (ht' htt)⟩ e5, fun htf => ?_⟩
      obtain ⟨q, hq, hq0, hsm⟩ := hf htf
      refine ⟨⟨j + 1, ms ++ [(ys[j].1, q)], ?_, by omega, by simp; omega, ?_, ?_, ?_, .inr ⟨by simpa using hj', by omega, by simp⟩, by simp only; omega, e5⟩, ?_⟩
      · rw [w64 (by omega) (by omega)]; omega
      · rw [List.take_succ_eq_append_getElem hj']
        exact hall.append (.cons ⟨rfl, hq⟩ .nil)
      · refine List.pairwise_append.2 ⟨hsrt, List.pairwise_singleton _ _, fun m hm n hn => ?_⟩
        simp only [List.mem_singleton] at hn
        subst hn
        have := (hms m hm).2.2
        simp only; omega
      · intro m hm
        rcases List.mem_append.1 hm with hm | hm
        · have := hms m hm
          exact ⟨this.1, this.2.1, by have := this.2.2; simp only; omega⟩
        · simp only [List.mem_singleton] at hm
          subst hm
          exact ⟨by simp only; omega, hq0, Int.le_refl _⟩
      · simp only; rw [w64 (by omega) (by omega)]; omega
  · simp only [decide_eq_false_iff_not] at hge
    have hjl : j = ys.length := by omega
    subst hjl
    rw [List.take_length] at hall
    refine nE (R.ext ht (e0.trans e3)) (hX.ext (e0.trans e3)) lx ld fun b h4 hb e4 => ?_
    have hb' : b = true ↔ isQ h0 (cst x) := by rw [hb]; exact RawB.isQ_ext ⟨xs, xd, hX, lx, ld⟩ (e0.trans e3)
    refine C b h4 ⟨fun hbt => ?_, fun ⟨p, hp, _⟩ => hb'.2 ⟨p.1, hp.c⟩⟩ (e3.trans e4)
    obtain ⟨c0, hc0⟩ := hb'.1 hbt
    exact ⟨(c0, ms), ⟨hc0, MK.of_all hr hcap hall⟩, ⟨hsrt, fun m hm => (hms m hm).1, fun m hm => (hms m hm).2.1⟩⟩
end Go.Sh

namespace Go.Sh
open Go Go.Lift
end Go.Sh
