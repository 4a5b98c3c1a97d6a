/-
  Laws that the proof of this claim's statement leans on, each proved under the conditions that it states.
-/
import Derived.Test.YtmcfhickfcmkkaaGreatDoorSpW
import Derived.Test.YtmcfhickfcmkkaaGreatDoorSpE
set_option linter.unusedVariables false
set_option linter.unusedSimpArgs false


namespace Go.Sh
open Go Go.Lift
section
variable {h0 h : Heap} {a : Addr} {lim : Nat} {ov : Bool} {K : Nat → Prop}
end
end Go.Sh

namespace Go.Sh
open Go Go.Lift
abbrev S5 := Sl × Sl × Sl × Sl × Sl
abbrev E7 := Int × Bool × Sl × Sl × Bool × Sl × Sl
abbrev C6 := bw
abbrev C7 := cm
abbrev CP := cV
abbrev eD (e : E7) : X6 := (e.2.1, e.2.2.1, e.2.2.2.1, e.2.2.2.2.1, e.2.2.2.2.2.1, e.2.2.2.2.2.2)
abbrev DL := List (Rat × Rat)
abbrev Eg := Int × (Rat × Rat)
theorem len7 (e : E7) : (C7 e).length = 7 := rfl
def EQ (h : Heap) (e : E7) (m : Eg) : Prop := e.1 = m.1 ∧ DQ h (eD e) m.2
theorem EQ.ext {h h' : Heap} {e : E7} {m : Eg} (q : EQ h e m) (k : Ext h h') : EQ h' e m := ⟨q.1, q.2.ext k⟩
structure RowQ {α β : Type} (toC : α → List Value) (sz : Nat) (R : Heap → α → β → Prop) (h : Heap) (s : Sl) (ms : List β) : Prop where
  cap : s.len ≤ s.cap
  row : ∃ ys : List α, RS toC sz h s ys ∧ All2 (R h) ys ms
section
variable {α β : Type} {toC : α → List Value} {sz : Nat} {R : Heap → α → β → Prop} {h h' : Heap} {s : Sl} {ms : List β}
theorem RowQ.len (q : RowQ toC sz R h s ms) : s.len = ms.length := by obtain ⟨ys, h1, h2⟩ := q.row; rw [h1.len, h2.length]
theorem RowQ.ext (hR : ∀ (h h' : Heap) (y : α) (m : β), R h y m → Ext h h' → R h' y m) (q : RowQ toC sz R h s ms) (e : Ext h h') : RowQ toC sz R h' s ms := by
  obtain ⟨ys, h1, h2⟩ := q.row
  exact ⟨q.cap, ys, RS.ext h1 e, h2.imp fun y m h3 => hR _ _ _ _ h3 e⟩
theorem RowQ.at (q : RowQ toC sz R h s ms) {i : Int} {j : Nat} {k : Addr → Prop} (hij : i = (j : Int)) (hj : j < ms.length) (K : ∀ a y, cells? h a sz 0 = some (toC y) → R h y ms[j] → k a) : idxS s i sz k := by
  obtain ⟨ys, h1, h2⟩ := q.row
  have hjy : j < ys.length := by rw [h2.length]; exact hj
  subst hij
  obtain ⟨a, ha, hc⟩ := h1.cells j hjy
  have := h1.len
  exact ⟨a, ha, ⟨by omega, by omega⟩, K _ ys[j] (by simpa using hc) (h2.get j hjy hj)⟩
theorem RowQ.ld (q : RowQ toC sz R h s ms) {i : Int} {j : Nat} {k : α → Prop} (hij : i = (j : Int)) (hj : j < ms.length) (K : ∀ y, R h y ms[j] → k y) : idxS s i sz fun a => cg toC sz a h k :=
  q.at hij hj fun a y hc hr => ⟨y, hc, K y hr⟩
end
section
variable {α β : Type} {toC : α → List Value} {sz : Nat} {R : Heap → α → β → Prop} {h hh : Heap} {s : Sl} {ms : List β}
theorem RowQ.atE (q : RowQ toC sz R h s ms) (e : Ext h hh) {i : Int} {j : Nat} {k : Addr → Prop} (hij : i = (j : Int)) (hj : j < ms.length) (K : ∀ a y, cells? hh a sz 0 = some (toC y) → R h y ms[j] → k a) : idxS s i sz k := by
  obtain ⟨ys, h1, h2⟩ := q.row
  have hjy : j < ys.length := by rw [h2.length]; exact hj
  subst hij
  obtain ⟨a, ha, hc⟩ := h1.cells j hjy
  have := h1.len
  exact ⟨a, ha, ⟨by omega, by omega⟩, K _ ys[j] (by simpa using aO e hc) (h2.get j hjy hj)⟩
theorem RowQ.atB (q : RowQ toC sz R h s ms) (e : Ext h hh) {i : Int} {j : Nat} {k : Addr → Prop} (hij : i = (j : Int)) (hj : j < ms.length) (K : ∀ a y, cells? h a sz 0 = some (toC y) → R h y ms[j] → k a) : idxS s i sz k := by
  obtain ⟨ys, h1, h2⟩ := q.row
  have hjy : j < ys.length := by rw [h2.length]; exact hj
  subst hij
  obtain ⟨a, ha, hc⟩ := h1.cells j hjy
  have := h1.len
  exact ⟨a, ha, ⟨by omega, by omega⟩, K _ ys[j] (by simpa using hc) (h2.get j hjy hj)⟩
theorem RowQ.ldE (q : RowQ toC sz R h s ms) (e : Ext h hh) {i : Int} {j : Nat} {k : α → Prop} (hij : i = (j : Int)) (hj : j < ms.length) (K : ∀ y, R h y ms[j] → k y) : idxS s i sz fun a => cg toC sz a hh k :=
  q.atE e hij hj fun a y hc hr => ⟨y, hc, K y hr⟩
theorem MK.atE {K : Nat → Prop} {ms : PL} (hm : MK K h s ms) (e : Ext h hh) {i : Int} {j : Nat} {k : Addr → Prop} (hij : i = (j : Int)) (hj : j < ms.length) (C : ∀ a (y : Y4), cells? hh a 4 0 = some (C4 y) → y.1 = ms[j].1 → RK K h (co y) ms[j].2 → k a) : idxS s i 4 k := by
  obtain ⟨ys, h1, h2⟩ := hm.row
  have hjy : j < ys.length := by rw [h2.length]; exact hj
  subst hij
  obtain ⟨a, ha, hc⟩ := h1.cells j hjy
  have := h1.len
  have hg := h2.get j hjy hj
  exact ⟨a, ha, ⟨by omega, by omega⟩, C _ ys[j] (by simpa using aO e hc) hg.1 hg.2⟩
end
theorem DQ.ext' : ∀ (h h' : Heap) (y : X6) (m : Rat × Rat), DQ h y m → Ext h h' → DQ h' y m := fun _ _ _ _ q e => DQ.ext q e
theorem EQ.ext' : ∀ (h h' : Heap) (y : E7) (m : Eg), EQ h y m → Ext h h' → EQ h' y m := fun _ _ _ _ q e => EQ.ext q e
structure TT where
  bs : List Int
  ps : List (Rat × PL)
  vs : DL
  lo : List Eg
  up : List Eg
abbrev RJ (h : Heap) (s : Sl) (xs : List Int) : Prop := R (Value.int .i64) h s xs
def at0 (l : List Int) (i : Nat) : Int := l.getD i 0
theorem jV {xs : List Int} {j : Nat} (hj : j < xs.length) : at0 xs j = xs[j] := by
  unfold at0; rw [List.getD_eq_getElem?_getD, List.getElem?_eq_getElem hj]; rfl
theorem RJ.ld {h : Heap} {s : Sl} {xs : List Int} (hr : RJ h s xs) {i : Int} {j : Nat} {k : Int → Prop} (hij : i = (j : Int)) (hj : j < xs.length) (K : k (at0 xs j)) : idxS s i 1 fun a => Lift.load (Value.int .i64) a h k := by
  subst hij
  refine R.load hr (by omega) (by omega) ?_
  rw [jV hj] at K
  exact K
theorem RJ.ldB {h hh : Heap} {s : Sl} {xs : List Int} (hr : RJ h s xs) (e : Ext h hh) {i : Int} {j : Nat} {k : Addr → Int → Prop} (hij : i = (j : Int)) (hj : j < xs.length) (K : ∀ a, cell? h a = some (Value.int .i64 (at0 xs j)) → k a (at0 xs j)) : idxS s i 1 fun a => Lift.load (Value.int .i64) a hh (k a) := by
  subst hij
  obtain ⟨a, ha, hc⟩ := R.get hr hj
  have hl := hr.len
  rw [← jV hj] at hc
  exact ⟨a, ha, ⟨by omega, by omega⟩, _, ao e (by simpa using hc) (by simp), K _ (by simpa using hc)⟩
theorem ajH {h : Heap} {a : Addr} {n : Nat} {l : List Value} (hc : cells? h a n 0 = some l) (hn : 0 < n) : a.block < h.size := by
  have hl := cells?_length _ _ _ hc
  have := cells?_get _ _ _ hc 0 (by omega)
  have := hO this
  rwa [aj] at this
structure TQ (h : Heap) (x : S5) (t : TT) : Prop where
  bas : RJ h x.1 t.bs
  rows : RowQ CP 4 PQ h x.2.1 t.ps
  vals : RowQ C6 6 DQ h x.2.2.1 t.vs
  lo : RowQ C7 7 EQ h x.2.2.2.1 t.lo
  up : RowQ C7 7 EQ h x.2.2.2.2 t.up
structure TSz (t : TT) (L B : Nat) : Prop where
  rt : ∀ p ∈ t.ps, Rt p
  pl : ∀ p ∈ t.ps, p.2.length ≤ L
  pc : ∀ p ∈ t.ps, szQ p.1 ≤ B
  pm : ∀ p ∈ t.ps, ∀ m ∈ p.2, szQ m.2 ≤ B
  v : ∀ v ∈ t.vs, szD v ≤ B
  lo : ∀ e ∈ t.lo, szD e.2 ≤ B
  up : ∀ e ∈ t.up, szD e.2 ≤ B
  nb : t.bs.length ≤ 1000
  np : t.ps.length ≤ 1000
  nv : t.vs.length ≤ 1000
  nl : t.lo.length ≤ 1000
  nu : t.up.length ≤ 1000
def rowI : List Int → Int → Int
  | [], _ => -1
  | b :: bs, v => if b = v then 0 else if rowI bs v < 0 then -1 else rowI bs v + 1
theorem aay (bs : List Int) (v : Int) : (rowI bs v = -1 ∧ ∀ j, j < bs.length → at0 bs j ≠ v) ∨ ∃ i, i < bs.length ∧ rowI bs v = (i : Int) ∧ at0 bs i = v ∧ ∀ j, j < i → at0 bs j ≠ v := by
  induction bs with
  | nil => exact .inl ⟨rfl, fun j hj => by simp at hj⟩
  | cons b bs ih =>
    unfold rowI
    by_cases e : b = v
    · rw [if_pos e]; exact .inr ⟨0, by simp, rfl, by simp [at0, e], fun j hj => by omega⟩
    · rw [if_neg e]
      rcases ih with ⟨h1, h2⟩ | ⟨i, h1, h2, h3, h4⟩
      · rw [h1, if_pos (by decide)]
        refine .inl ⟨rfl, fun j hj => ?_⟩
        cases j with
        | zero => simpa [at0] using e
        | succ j => have := h2 j (by simpa using hj); simpa [at0] using this
      · rw [h2, if_neg (by omega)]
        refine .inr ⟨i + 1, by simpa using h1, by omega, by simpa [at0] using h3, fun j hj => ?_⟩
        cases j with
        | zero => simpa [at0] using e
        | succ j => have := h4 j (by omega); simpa [at0] using this
theorem ajq {bs : List Int} {v : Int} {i : Nat} (hi : i < bs.length) (h : at0 bs i = v) (hn : ∀ j, j < i → at0 bs j ≠ v) : rowI bs v = (i : Int) := by
  rcases aay bs v with ⟨_, h2⟩ | ⟨k, h1, h2, h3, h4⟩
  · exact absurd h (h2 i hi)
  · rcases Nat.lt_trichotomy i k with g | g | g
    · exact absurd h (h4 i g)
    · rw [h2, g]
    · exact absurd h3 (hn k g)
theorem aiJ {bs : List Int} {v : Int} (hn : ∀ j, j < bs.length → at0 bs j ≠ v) : rowI bs v = -1 := by
  rcases aay bs v with ⟨h1, _⟩ | ⟨k, h1, _, h3, _⟩
  · exact h1
  · exact absurd h3 (hn k h1)
theorem ajO {s : Sl} {bs : List Int} {v : Int} {h : Heap} {Q : Int → Heap → Prop} (hr : RJ h s bs) (hl : bs.length ≤ 1048576) (K : Q (rowI bs v) h) : cB s v h Q := by
  have hlen := hr.len
  refine loop.inv (fun (s0 : Int) hh => hh = h ∧ ∃ i : Nat, s0 = (i : Int) ∧ i ≤ bs.length ∧ ∀ j, j < i → at0 bs j ≠ v) (fun s0 _ => bs.length - s0.toNat) ⟨rfl, 0, rfl, by omega, fun j hj => by omega⟩ ?_
  rintro _ hh ⟨rfl, i, rfl, hi, hall⟩
  rw [hlen]
  refine ⟨fun hlt => ?_, fun hge => ?_⟩
  · simp only [decide_eq_true_eq] at hlt
    have hi' : i < bs.length := by omega
    refine RJ.ld hr (j := i) rfl hi' ⟨fun he => ?_, fun hne => ?_⟩
    · have he : v = at0 bs i := by simpa using he
      rw [ajq hi' he.symm hall] at K; exact K
    · have hne : v ≠ at0 bs i := by simpa using hne
      rw [w64 (by omega) (by omega)]
      refine ⟨⟨rfl, i + 1, by omega, by omega, fun j hj => ?_⟩, by omega⟩
      by_cases g : j = i
      · subst g; exact fun e => hne e.symm
      · exact hall j (by omega)
  · simp only [decide_eq_false_iff_not] at hge
    rw [aiJ fun j hj => hall j (by omega)] at K; exact K
theorem adp {x : S5} {bs : List Int} {v : Int} {h : Heap} {Q : Int → Heap → Prop} (hr : RJ h x.1 bs) (hl : bs.length ≤ 1048576) (K : ∀ h', Ext h h' → Q (rowI bs v) h') : nD x v h Q :=
  ak fun h1 e1 => ajO (R.ext hr e1) hl (K h1 e1)
def amO {α : Type} (toC : α → List Value) (sz : Nat) (f : α → Heap → (Bool → Heap → Prop) → Prop) (s : Sl) (h : Heap) (Q : Bool → Heap → Prop) : Prop :=
  loop (fun (s0u1 : Int) h0 (K0 : Int → Heap → Prop) =>
   iteB (decide (s0u1 < ((s.len : Nat) : Int))) (
    idxS s s0u1 sz fun a =>
    cg toC sz a h0 fun v =>
    f v h0 fun v_1 h0u1 =>
    iteB v_1 (
     Q (decide (s0u1 ≥ 0)) h0u1
    ) (
     K0 (IntKind.wrap .i64 (s0u1 + 1)) h0u1
    )
   ) (
    Q (decide ((-1 : Int) ≥ 0)) h0
   )
  ) 0 h
theorem tP {α β : Type} {toC : α → List Value} {sz : Nat} {R : Heap → α → β → Prop} {P : β → Prop} {f : α → Heap → (Bool → Heap → Prop) → Prop} {s : Sl} {ms : List β} {h : Heap} {Q : Bool → Heap → Prop}
    (hR : ∀ (h h' : Heap) (y : α) (m : β), R h y m → Ext h h' → R h' y m)
    (hf : ∀ {h' : Heap} {y : α} {m : β} {Q : Bool → Heap → Prop}, Ext h h' → m ∈ ms → R h' y m → (∀ b h2, (b = true ↔ P m) → Ext h' h2 → Q b h2) → f y h' Q)
    (q : RowQ toC sz R h s ms) (hl : ms.length ≤ 1048576) (K : ∀ b h', (b = true ↔ ∃ m ∈ ms, P m) → Ext h h' → Q b h') : amO toC sz f s h Q := by
  have l1 := q.len
  refine loop.inv (fun t h' => ∃ j : Nat, t = (j : Int) ∧ j ≤ ms.length ∧ (∀ m ∈ ms.take j, ¬ P m) ∧ Ext h h') (fun t _ => ms.length - t.toNat) ⟨0, rfl, by omega, fun m hm => by simp at hm, Keep.refl _ _⟩ ?_
  rintro _ h3 ⟨j, rfl, hj, hms, e3⟩
  rw [l1]
  refine ⟨fun hlt => ?_, fun hge => ?_⟩
  · simp only [decide_eq_true_eq] at hlt
    have hj' : j < ms.length := by omega
    have hmem := List.getElem_mem hj'
    have htk := List.take_succ_eq_append_getElem hj'
    refine (q.ext hR e3).ld (j := j) rfl hj' fun y hy => ?_
    refine hf e3 hmem hy fun b h4 hb e4 => ⟨fun hbt => ?_, fun hbf => ?_⟩
    · have e : decide ((j : Int) ≥ 0) = true := decide_eq_true (by omega)
      rw [e]
      exact K true h4 ⟨fun _ => ⟨_, hmem, hb.1 hbt⟩, fun _ => rfl⟩ (e3.trans e4)
    · rw [w64 (by omega) (by omega)]
      refine ⟨⟨j + 1, by omega, by omega, ?_, e3.trans e4⟩, by omega⟩
      rw [htk]
      intro m hm
      rcases List.mem_append.1 hm with hm | hm
      · exact hms m hm
      · rw [List.mem_singleton] at hm; subst hm
        exact fun hp => by rw [hb.2 hp] at hbf; cases hbf
  · simp only [decide_eq_false_iff_not] at hge
    have h1 : j = ms.length := by omega
    subst h1
    rw [List.take_length] at hms
    refine K _ h3 ⟨fun h => by simp at h, fun ⟨m, hm, hp⟩ => absurd hp (hms m hm)⟩ e3
end Go.Sh
