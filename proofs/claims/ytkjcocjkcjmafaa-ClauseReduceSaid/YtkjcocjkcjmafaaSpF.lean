/-
  Laws that the proof of this claim's statement leans on, each proved under the conditions that it states.
-/
import Derived.Test.YtkjcocjkcjmafaaSpC
set_option linter.unusedVariables false
set_option linter.unusedSimpArgs false
namespace Go.Sh
open Go Go.Lift
theorem loop_end {σ : Type} {body : σ → Heap → (σ → Heap → Prop) → Prop} {s : σ} {h : Heap} (H : ∀ K, body s h K) : loop body s h := by
  refine loop.inv (fun s' h' => s' = s ∧ h' = h) (fun _ _ => 0) ⟨rfl, rfl⟩ ?_
  intro s' h' hh
  rw [hh.1, hh.2]
  exact H _
theorem iteF {b : Bool} {A B : Prop} (hb : b = false) (H : B) : iteB b A B := by subst hb; exact ⟨nofun, fun _ => H⟩
theorem iteT {b : Bool} {A B : Prop} (hb : b = true) (H : A) : iteB b A B := by subst hb; exact ⟨fun _ => H, nofun⟩
def cmpI (x y : Int) : Int := if x < y then -1 else if x > y then 1 else 0
theorem cmpI_neg (x y : Int) : decide (cmpI x y < 0) = decide (x < y) := by
  unfold cmpI
  split
  · simp [*]
  · split <;> simp [*]
def CmpOk (c : Addr) (D : Option Nat) (U : Int → Int) (ok : Int → Prop) (h : Heap) : Prop :=
  ∀ h', Keep D h h' → ∀ a b (Q : Int → Heap → Prop), ok a → ok b → Q (cmpI (U a) (U b)) h' → clause_idle_c1 a b c h' Q
theorem CmpOk.keep {c : Addr} {D : Option Nat} {U : Int → Int} {ok : Int → Prop} {h h' : Heap} (q : CmpOk c D U ok h) (k : Keep D h h') : CmpOk c D U ok h' := fun h2 k2 => q h2 (k.trans k2)
theorem CmpOk.run {c : Addr} {D : Option Nat} {U : Int → Int} {ok : Int → Prop} {h : Heap} (q : CmpOk c D U ok h) {a b : Int} {Q : Int → Heap → Prop} (ha : ok a) (hb : ok b) (K : Q (cmpI (U a) (U b)) h) : clause_idle_c1 a b c h Q := q h (Keep.refl _ _) a b Q ha hb K
def lexU (U : Int → Int) (a b : Int) : Prop := U a < U b ∨ U a = U b ∧ a < b
theorem lexU.trans {U : Int → Int} {a b c : Int} (h : lexU U a b) (k : lexU U b c) : lexU U a c := by unfold lexU at *; omega
theorem set_mid {α : Type} (A B : List α) (u x : α) {n : Nat} (hn : n = A.length) : (A ++ u :: B).set n x = A ++ x :: B := by subst hn; simp [List.set_append]
theorem at_mid (A B : List Int) (u : Int) {n : Nat} (hn : n = A.length) : at0 (A ++ u :: B) n = u := by subst hn; simp [at0, List.getD_eq_getElem?_getD]
section
variable {h : Heap} {data : Sl} {xs : List Int}
theorem Own.sti (ho : Own toI 0 h data xs) {i : Int} {j : Nat} {y : Int} {k : Heap → Prop} (hij : i = (j : Int)) (hj : j < xs.length) (K : ∀ h', Own toI 0 h' data (xs.set j y) → Keep data.blk h h' → k h') : idxS data i 1 fun a => Lift.store a (toI y) h k := by
  subst hij
  refine ho.r.idx (by omega) (by omega) fun a ha _ => ?_
  simp only [Int.toNat_natCast]
  exact ho.store hj ha y fun h' o' k' _ => K h' o' k'
theorem Own.swp (ho : Own toI 0 h data xs) {i1 i2 : Int} {j1 j2 : Nat} {k : Heap → Prop} (h1 : i1 = (j1 : Int)) (h2 : i2 = (j2 : Int)) (b1 : j1 < xs.length) (b2 : j2 < xs.length)
    (K : ∀ h', Own toI 0 h' data ((xs.set j2 (at0 xs j1)).set j1 (at0 xs j2)) → Keep data.blk h h' → k h') :
    idxS data i1 1 fun a => Lift.load toI a h fun v => idxS data i2 1 fun a' => Lift.load toI a' h fun v1 => idxS data i2 1 fun a3 => Lift.store a3 (toI v) h fun h2 => idxS data i1 1 fun a4 => Lift.store a4 (toI v1) h2 fun h3 => k h3 := by
  refine RJ.ld ho.r h1 b1 (RJ.ld ho.r h2 b2 ?_)
  exact Own.sti ho h2 b2 fun h2' o2 k2 => Own.sti o2 h1 (by simpa using b1) fun h3 o3 k3 => K h3 o3 (k2.trans k3)
theorem Own.swp1 {A B : List Int} {u v : Int} (ho : Own toI 0 h data (A ++ u :: v :: B)) {i1 i2 : Int} {k : Heap → Prop} (h1 : i1 = (A.length : Int)) (h2 : i2 = (A.length : Int) + 1)
    (K : ∀ h', Own toI 0 h' data (A ++ v :: u :: B) → Keep data.blk h h' → k h') :
    idxS data i1 1 fun a => Lift.load toI a h fun v => idxS data i2 1 fun a' => Lift.load toI a' h fun v1 => idxS data i2 1 fun a3 => Lift.store a3 (toI v) h fun h2 => idxS data i1 1 fun a4 => Lift.store a4 (toI v1) h2 fun h3 => k h3 := by
  refine Own.swp ho (j1 := A.length) (j2 := A.length + 1) h1 (by omega) (by simp) (by simp) fun h' o' k' => K h' ?_ k'
  have e1 : at0 (A ++ u :: v :: B) A.length = u := at_mid A (v :: B) u rfl
  have e2 : at0 (A ++ u :: v :: B) (A.length + 1) = v := by
    rw [show A ++ u :: v :: B = (A ++ [u]) ++ v :: B by simp]
    exact at_mid (A ++ [u]) B v (by simp)
  rw [e1, e2, show A ++ u :: v :: B = (A ++ [u]) ++ v :: B by simp, set_mid (A ++ [u]) B v u (by simp), show (A ++ [u]) ++ u :: B = A ++ u :: (u :: B) by simp, set_mid A (u :: B) u v rfl] at o'
  exact o'
theorem Own.swp2 {A B : List Int} {u v : Int} (ho : Own toI 0 h data (A ++ u :: v :: B)) {i1 i2 : Int} {k : Heap → Prop} (h1 : i1 = (A.length : Int) + 1) (h2 : i2 = (A.length : Int))
    (K : ∀ h', Own toI 0 h' data (A ++ v :: u :: B) → Keep data.blk h h' → k h') :
    idxS data i1 1 fun a => Lift.load toI a h fun v => idxS data i2 1 fun a' => Lift.load toI a' h fun v1 => idxS data i2 1 fun a3 => Lift.store a3 (toI v) h fun h2 => idxS data i1 1 fun a4 => Lift.store a4 (toI v1) h2 fun h3 => k h3 := by
  refine Own.swp ho (j1 := A.length + 1) (j2 := A.length) (by omega) h2 (by simp) (by simp) fun h' o' k' => K h' ?_ k'
  have e1 : at0 (A ++ u :: v :: B) A.length = u := at_mid A (v :: B) u rfl
  have e2 : at0 (A ++ u :: v :: B) (A.length + 1) = v := by
    rw [show A ++ u :: v :: B = (A ++ [u]) ++ v :: B by simp]
    exact at_mid (A ++ [u]) B v (by simp)
  rw [e1, e2, set_mid A (v :: B) u v rfl, show A ++ v :: v :: B = (A ++ [v]) ++ v :: B by simp, set_mid (A ++ [v]) B v u (by simp), show (A ++ [v]) ++ u :: B = A ++ v :: u :: B by simp] at o'
  exact o'
end
variable {c : Addr} {data : Sl} {U : Int → Int} {ok : Int → Prop} {h : Heap}
theorem insSort_spec {P M S : List Int} {a b : Int} {Q : Unit → Heap → Prop} (ho : Own toI 0 h data (P ++ M ++ S)) (hc : CmpOk c data.blk U ok h) (hok : ∀ x ∈ M, ok x) (hM : M.Pairwise (· < ·)) (hl : (P ++ M ++ S).length ≤ 1000) (ha : a = (P.length : Int)) (hb : b = (P.length : Int) + M.length)
    (K : ∀ M' h', M'.Perm M → M'.Pairwise (lexU U) → Own toI 0 h' data (P ++ M' ++ S) → Keep data.blk h h' → Q () h') : slices_insertionSortCmpFunc_int__clause_idle_c1 data a b c h Q := by
  subst ha hb
  simp only [List.length_append] at hl
  rintro _ rfl
  rw [w64 (by omega) (by omega)]
  by_cases h0 : M = []
  · subst h0
    refine loop_end fun K0 => ?_
    refine iteF (by simp; omega) ?_
    exact K [] h (List.Perm.refl _) .nil ho (Keep.refl _ _)
  obtain ⟨x0, M0, rfl⟩ : ∃ x r, M = x :: r := by cases M with | nil => exact absurd rfl h0 | cons x r => exact ⟨x, r, rfl⟩
  refine loop.inv (fun t h' => ∃ (A B D : List Int), x0 :: M0 = D ++ B ∧ A.Perm D ∧ t = (P.length : Int) + A.length ∧ 0 < A.length ∧ A.Pairwise (lexU U) ∧ Own toI 0 h' data (P ++ (A ++ B) ++ S) ∧ Keep data.blk h h') (fun t _ => P.length + (x0 :: M0).length - t.toNat)
    ⟨[x0], M0, [x0], rfl, List.Perm.refl _, by simp, by simp, by simp, ho, Keep.refl _ _⟩ ?_
  rintro t h1 ⟨A, B, D, hD, hp, rfl, hA0, hA, o1, k1⟩
  have hlen := congrArg List.length hD
  have hpl := hp.length_eq
  simp only [List.length_append] at hlen
  refine ⟨fun hlt => ?_, fun hge => ?_⟩
  · have hlt := of_decide_eq_true hlt
    obtain ⟨v, B, rfl⟩ : ∃ v r, B = v :: r := by cases B with | nil => simp at hlen hlt; omega | cons v r => exact ⟨v, r, rfl⟩
    have hok' : ∀ x, x ∈ A ∨ x = v → ok x := by
      rintro x (hx | rfl)
      · exact hok x (by rw [hD]; exact List.mem_append_left _ (hp.mem_iff.1 hx))
      · exact hok x (by rw [hD]; simp)
    have hpos : ∀ x ∈ A, x < v := by
      intro x hx
      rw [hD, List.pairwise_append] at hM
      exact hM.2.2 x (hp.mem_iff.1 hx) v (by simp)
    refine loop.inv (fun t h' => ∃ (A1 C : List Int), A = A1 ++ C ∧ t = (P.length : Int) + A1.length ∧ (∀ x ∈ C, lexU U v x) ∧ Own toI 0 h' data (P ++ A1 ++ v :: (C ++ B ++ S)) ∧ Keep data.blk h h') (fun t _ => t.toNat)
      ⟨A, [], by simp, rfl, by simp, by simpa using o1, k1⟩ ?_
    rintro t h2 ⟨A1, C, rfl, rfl, hC, o2, k2⟩
    simp only [List.length_append] at hlt hpl hlen
    have done : ¬ (∃ A2 u, A1 = A2 ++ [u] ∧ U v < U u) → ((IntKind.wrap .i64 ((P.length : Int) + ((A1 ++ C).length : Nat) + 1) = (P.length : Int) + ((A1 ++ v :: C).length : Nat)) ∧ (A1 ++ v :: C).Pairwise (lexU U) ∧ (A1 ++ v :: C).Perm (D ++ [v])) := by
      intro hn
      refine ⟨by rw [w64 (by omega) (by simp; omega)]; simp; omega, ?_, ?_⟩
      · rw [List.pairwise_append] at hA ⊢
        refine ⟨hA.1, List.pairwise_cons.2 ⟨hC, hA.2.1⟩, fun x hx y hy => ?_⟩
        have hxv : lexU U x v := by
          rcases List.eq_nil_or_concat A1 with rfl | ⟨A2, u, rfl⟩
          · simp at hx
          · have huv : lexU U u v := by
              have h1 : ¬ U v < U u := fun hh => hn ⟨A2, u, by simp, hh⟩
              have h2 := hpos u (by simp)
              unfold lexU; omega
            rw [List.concat_eq_append, List.mem_append] at hx
            rcases hx with hx | hx
            · have h3 := hA.1
              rw [List.concat_eq_append, List.pairwise_append] at h3
              exact (h3.2.2 x hx u (by simp)).trans huv
            · simp at hx; subst hx; exact huv
        rcases List.mem_cons.1 hy with rfl | hy
        · exact hxv
        · exact hA.2.2 x hx y hy
      · refine List.perm_middle.trans ?_
        refine ((hp.cons v).trans ?_)
        exact (List.perm_append_singleton v D).symm
    have fin : ¬ (∃ A2 u, A1 = A2 ++ [u] ∧ U v < U u) → (∃ (A' B' D' : List Int), x0 :: M0 = D' ++ B' ∧ A'.Perm D' ∧ IntKind.wrap .i64 ((P.length : Int) + ((A1 ++ C).length : Nat) + 1) = (P.length : Int) + A'.length ∧ 0 < A'.length ∧ A'.Pairwise (lexU U) ∧ Own toI 0 h2 data (P ++ (A' ++ B') ++ S) ∧ Keep data.blk h h2) ∧
        P.length + (x0 :: M0).length - (IntKind.wrap .i64 ((P.length : Int) + ((A1 ++ C).length : Nat) + 1)).toNat < P.length + (x0 :: M0).length - ((P.length : Int) + ((A1 ++ C).length : Nat)).toNat := by
      intro hn
      obtain ⟨d1, d2, d3⟩ := done hn
      refine ⟨⟨A1 ++ v :: C, B, D ++ [v], by rw [hD]; simp, d3, d1, by simp; omega, d2, by simpa using o2, k2⟩, ?_⟩
      rw [d1]
      simp only [List.length_append, List.length_cons] at *
      omega
    have l2 : (P ++ A1 ++ v :: (C ++ B ++ S)).length ≤ 1000 := by simp at hl hlen ⊢; omega
    simp only [List.length_append, List.length_cons] at l2
    refine seq.cut (fun (b : Bool) h' => h' = h2 ∧ (b = true ↔ ∃ A2 u, A1 = A2 ++ [u] ∧ U v < U u)) ?_ ?_
    · refine ⟨fun g => ?_, fun g => ?_⟩
      · have g := of_decide_eq_true g
        obtain ⟨A2, u, rfl⟩ : ∃ A2 u, A1 = A2 ++ [u] := by
          rcases List.eq_nil_or_concat A1 with rfl | ⟨A2, u, rfl⟩
          · simp at g
          · exact ⟨A2, u, by simp⟩
        have e1 : at0 (P ++ (A2 ++ [u]) ++ v :: (C ++ B ++ S)) (P ++ (A2 ++ [u])).length = v := at_mid _ _ v rfl
        have e2 : at0 (P ++ (A2 ++ [u]) ++ v :: (C ++ B ++ S)) (P ++ A2).length = u := by
          rw [show P ++ (A2 ++ [u]) ++ v :: (C ++ B ++ S) = (P ++ A2) ++ u :: (v :: (C ++ B ++ S)) by simp]
          exact at_mid _ _ u rfl
        refine RJ.ld o2.r (j := (P ++ (A2 ++ [u])).length) (by simp) (by simp) ?_
        rw [e1, w64 (by simp; omega) (by simp at l2 ⊢; omega)]
        refine RJ.ld o2.r (j := (P ++ A2).length) (by simp <;> omega) (by simp <;> omega) ?_
        rw [e2]
        refine (hc.keep k2).run (hok' v (.inr rfl)) (hok' u (.inl (by simp))) ⟨rfl, ?_⟩
        rw [cmpI_neg, decide_eq_true_eq]
        exact ⟨fun h => ⟨A2, u, rfl, h⟩, fun ⟨A3, u3, h3, h4⟩ => by
          have := List.append_inj' h3 rfl
          simp at this
          rw [this.2]; exact h4⟩
      · have g := of_decide_eq_false g
        have : A1 = [] := List.eq_nil_of_length_eq_zero (by omega)
        subst this
        exact ⟨rfl, by simp⟩
    rintro b h' ⟨rfl, hb⟩
    refine ⟨fun g => ?_, fun g => ?_⟩
    · obtain ⟨A2, u, rfl, huv⟩ := hb.1 g
      simp only [List.length_append, List.length_cons, List.length_nil] at l2 ⊢
      have o2' : Own toI 0 h' data ((P ++ A2) ++ u :: v :: (C ++ B ++ S)) := by simpa using o2
      rw [w64 (by omega) (by omega)]
      refine Own.swp1 o2' (by simp; omega) (by simp; omega) fun h3 o3 k3 => ?_
      rintro _ rfl
      exact ⟨⟨A2, u :: C, by simp, by omega, fun x hx => by
        rcases List.mem_cons.1 hx with rfl | hx
        · exact .inl huv
        · exact hC x hx, by simpa using o3, k2.trans k3⟩, by omega⟩
    · rintro _ rfl
      exact fin fun hh => by rw [hb.2 hh] at g; cases g
  · have hge := of_decide_eq_false hge
    have hB : B = [] := List.eq_nil_of_length_eq_zero (by simp at hge hlen; omega)
    subst hB
    rw [List.append_nil] at hD o1
    subst hD
    exact K A h1 hp hA o1 k1
end Go.Sh

namespace Go.Sh
open Go Go.Lift
variable {c : Addr} {data : Sl} {U : Int → Int} {ok : Int → Prop} {h : Heap}
theorem swapR_spec {P A M B S : List Int} {a b n : Int} {Q : Unit → Heap → Prop} (ho : Own toI 0 h data (P ++ A ++ M ++ B ++ S)) (hab : A.length = B.length) (hl : (P ++ A ++ M ++ B ++ S).length ≤ 1000) (ha : a = (P.length : Int)) (hb : b = (P.length : Int) + A.length + M.length) (hn : n = (A.length : Int))
    (K : ∀ h', Own toI 0 h' data (P ++ B ++ M ++ A ++ S) → Keep data.blk h h' → Q () h') : slices_swapRangeCmpFunc_int__clause_idle_c1 data a b n c h Q := by
  subst ha hb hn
  simp only [List.length_append] at hl
  refine loop.inv (fun t h' => ∃ (A1 A2 B1 B2 : List Int), A = A1 ++ A2 ∧ B = B1 ++ B2 ∧ A1.length = B1.length ∧ t = (A1.length : Int) ∧ Own toI 0 h' data (P ++ (B1 ++ A2) ++ M ++ (A1 ++ B2) ++ S) ∧ Keep data.blk h h') (fun t _ => A.length - t.toNat)
    ⟨[], A, [], B, rfl, rfl, rfl, rfl, by simpa using ho, Keep.refl _ _⟩ ?_
  rintro t h1 ⟨A1, A2, B1, B2, rfl, rfl, hl1, rfl, o1, k1⟩
  simp only [List.length_append] at hl hab ⊢
  refine ⟨fun hlt => ?_, fun hge => ?_⟩
  · have hlt := of_decide_eq_true hlt
    obtain ⟨u, A2, rfl⟩ : ∃ v r, A2 = v :: r := by cases A2 with | nil => simp at hlt | cons v r => exact ⟨v, r, rfl⟩
    obtain ⟨v, B2, rfl⟩ : ∃ v r, B2 = v :: r := by cases B2 with | nil => simp at hab; omega | cons v r => exact ⟨v, r, rfl⟩
    simp only [List.length_cons] at hl hab ⊢
    rw [w64 (by omega) (by omega), w64 (by omega) (by omega)]
    have e0 : P ++ (B1 ++ u :: A2) ++ M ++ (A1 ++ v :: B2) ++ S = (P ++ B1) ++ u :: (A2 ++ M ++ A1 ++ v :: (B2 ++ S)) := by simp
    have e1 : (P ++ B1) ++ u :: (A2 ++ M ++ A1 ++ v :: (B2 ++ S)) = (P ++ B1 ++ u :: (A2 ++ M ++ A1)) ++ v :: (B2 ++ S) := by simp
    refine Own.swp o1 (j1 := (P ++ B1 ++ u :: (A2 ++ M ++ A1)).length) (j2 := (P ++ B1).length) (by simp <;> omega) (by simp <;> omega) (by simp <;> omega) (by simp <;> omega) fun h2 o2 k2 => ?_
    rw [e0, at_mid _ _ u rfl, e1, at_mid _ _ v rfl, ← e1, set_mid _ _ u v rfl, show (P ++ B1) ++ v :: (A2 ++ M ++ A1 ++ v :: (B2 ++ S)) = (P ++ B1 ++ v :: (A2 ++ M ++ A1)) ++ v :: (B2 ++ S) by simp, set_mid _ _ v u (by simp)] at o2
    rintro _ rfl
    rw [w64 (by omega) (by omega)]
    exact ⟨⟨A1 ++ [u], A2, B1 ++ [v], B2, by simp, by simp, by simp [hl1], by simp, by simpa using o2, k1.trans k2⟩, by omega⟩
  · have hge := of_decide_eq_false hge
    have hA : A2 = [] := List.eq_nil_of_length_eq_zero (by omega)
    subst hA
    have hB : B2 = [] := List.eq_nil_of_length_eq_zero (by simp at hab; omega)
    subst hB
    exact K h1 (by simpa using o1) k1
theorem rotate_spec {P A B S : List Int} {a m b : Int} {Q : Unit → Heap → Prop} (ho : Own toI 0 h data (P ++ A ++ B ++ S)) (hA : A ≠ []) (hB : B ≠ []) (hl : (P ++ A ++ B ++ S).length ≤ 1000) (ha : a = (P.length : Int)) (hm : m = (P.length : Int) + A.length) (hb : b = (P.length : Int) + A.length + B.length)
    (K : ∀ h', Own toI 0 h' data (P ++ B ++ A ++ S) → Keep data.blk h h' → Q () h') : slices_rotateCmpFunc_int__clause_idle_c1 data a m b c h Q := by
  subst ha hm hb
  simp only [List.length_append] at hl
  rintro _ rfl
  rintro _ rfl
  rw [w64 (by omega) (by omega), w64 (by omega) (by omega)]
  have lA : 0 < A.length := List.length_pos_iff.2 hA
  have lB : 0 < B.length := List.length_pos_iff.2 hB
  refine loop.inv (fun t h' => ∃ (X A' B' Y : List Int), X ++ B' ++ A' ++ Y = B ++ A ∧ X.length + A'.length = A.length ∧ 0 < A'.length ∧ 0 < B'.length ∧ t = ((A'.length : Int), (B'.length : Int)) ∧ Own toI 0 h' data (P ++ X ++ A' ++ B' ++ Y ++ S) ∧ Keep data.blk h h') (fun t _ => (t.1 + t.2).toNat)
    ⟨[], A, B, [], by simp, by simp, lA, lB, by ext <;> simp <;> omega, by simpa using ho, Keep.refl _ _⟩ ?_
  rintro _ h1 ⟨X, A', B', Y, hT, hX, hA', hB', rfl, o1, k1⟩
  have hlen := congrArg List.length hT
  simp only [List.length_append] at hlen
  dsimp only
  refine ⟨fun hne => ?_, fun he => ?_⟩
  · refine ⟨fun hgt => ?_, fun hle => ?_⟩
    · have hgt := of_decide_eq_true hgt
      have hs : A' = A'.take B'.length ++ A'.drop B'.length := (List.take_append_drop _ _).symm
      have ht : (A'.take B'.length).length = B'.length := by rw [List.length_take]; omega
      have hd : (A'.drop B'.length).length = A'.length - B'.length := List.length_drop
      generalize A'.take B'.length = A1 at *
      generalize A'.drop B'.length = A2 at *
      subst hs
      simp only [List.length_append] at hgt hA' hX hlen hd ⊢
      rw [w64 (by omega) (by omega)]
      refine swapR_spec (P := P ++ X) (A := A1) (M := A2) (B := B') (S := Y ++ S) (by simpa using o1) (by omega) (by simp; omega) (by simp; omega) (by simp; omega) (by omega) fun h2 o2 k2 => ?_
      rintro _ rfl
      rw [w64 (by omega) (by omega)]
      refine ⟨⟨X ++ B', A2, A1, Y, by rw [← hT]; simp, by simp; omega, by omega, by omega, by ext <;> simp <;> omega, by simpa using o2, k1.trans k2⟩, by omega⟩
    · have hle := of_decide_eq_false hle
      have hne : A'.length ≠ B'.length := by
        intro e; rw [e] at hne; simp at hne
      have hs : B' = B'.take (B'.length - A'.length) ++ B'.drop (B'.length - A'.length) := (List.take_append_drop _ _).symm
      have ht : (B'.take (B'.length - A'.length)).length = B'.length - A'.length := by rw [List.length_take]; omega
      have hd : (B'.drop (B'.length - A'.length)).length = A'.length := by rw [List.length_drop]; omega
      generalize B'.take (B'.length - A'.length) = B1 at *
      generalize B'.drop (B'.length - A'.length) = B2 at *
      subst hs
      simp only [List.length_append] at hle hB' hne hlen ht ⊢
      rw [w64 (by omega) (by omega), w64 (n := (P.length : Int) + A.length + _) (by omega) (by omega), w64 (by omega) (by omega)]
      refine swapR_spec (P := P ++ X) (A := A') (M := B1) (B := B2) (S := Y ++ S) (by simpa using o1) (by omega) (by simp; omega) (by simp; omega) (by simp; omega) (by omega) fun h2 o2 k2 => ?_
      rintro _ rfl
      rw [w64 (by omega) (by omega)]
      refine ⟨⟨X, B2, B1, A' ++ Y, by rw [← hT]; simp, by omega, by omega, by omega, by ext <;> simp <;> omega, by simpa using o2, k1.trans k2⟩, by omega⟩
  · have he : A'.length = B'.length := by have : (A'.length : Int) = B'.length := by simpa using he
                                          omega
    rw [w64 (by omega) (by omega)]
    refine swapR_spec (P := P ++ X) (A := A') (M := []) (B := B') (S := Y ++ S) (by simpa using o1) (by omega) (by simp; omega) (by simp; omega) (by simp; omega) (by omega) fun h2 o2 k2 => K h2 ?_ (k1.trans k2)
    have : P ++ B ++ A ++ S = P ++ X ++ B' ++ [] ++ A' ++ (Y ++ S) := by
      rw [show P ++ B ++ A ++ S = P ++ (B ++ A) ++ S by simp, ← hT]; simp
    rw [this]; exact o2
end Go.Sh

namespace Go.Sh
open Go Go.Lift
theorem half_eq {x : Int} (h0 : 0 ≤ x) (h1 : x ≤ 4000) : IntKind.wrap .i64 (Int.fdiv (IntKind.wrap .u64 (IntKind.wrap .i64 x)) (2 ^ (min (Int.toNat 1) (IntKind.bits .u64)))) = x / 2 := by
  rw [w64 (n := x) (by omega) (by omega), wu64m]
  have e : (2 : Int) ^ (min (Int.toNat 1) (IntKind.bits .u64)) = 2 := by decide
  rw [e, Int.fdiv_eq_ediv_of_nonneg _ (by decide)]
  rw [w64 (by omega) (by omega)]
  omega
theorem at_appL {X Y : List Int} {n : Nat} (h : n < X.length) : at0 (X ++ Y) n = at0 X n := by simp [at0, List.getD_eq_getElem?_getD, List.getElem?_append_left h]
theorem at_appR {X Y : List Int} {n : Nat} (h : X.length ≤ n) : at0 (X ++ Y) n = at0 Y (n - X.length) := by simp [at0, List.getD_eq_getElem?_getD, List.getElem?_append_right h]
theorem pair_at {R : Int → Int → Prop} {X : List Int} (hX : X.Pairwise R) {i j : Nat} (hij : i < j) (hj : j < X.length) : R (at0 X i) (at0 X j) := by
  rw [at_get (by omega), at_get hj]
  exact List.pairwise_iff_getElem.1 hX i j (by omega) hj hij
theorem take_at {X : List Int} {i : Nat} {x : Int} (h : x ∈ X.take i) : ∃ k, k < i ∧ k < X.length ∧ at0 X k = x := by
  obtain ⟨k, hk, e⟩ := List.mem_iff_getElem.1 h
  rw [List.length_take] at hk
  refine ⟨k, by omega, by omega, ?_⟩
  rw [at_get (by omega), ← e]; simp
theorem drop_at {X : List Int} {i : Nat} {x : Int} (h : x ∈ X.drop i) : ∃ k, i ≤ k ∧ k < X.length ∧ at0 X k = x := by
  obtain ⟨k, hk, e⟩ := List.mem_iff_getElem.1 h
  rw [List.length_drop] at hk
  refine ⟨i + k, by omega, by omega, ?_⟩
  rw [at_get (by omega), ← e]; simp
theorem mem_at0 {X : List Int} {k : Nat} (h : k < X.length) : at0 X k ∈ X := by rw [at_get h]; exact List.getElem_mem h
variable {U : Int → Int}
theorem take_lex {X : List Int} {i : Nat} {y : Int} (hX : X.Pairwise (lexU U)) (hi : i ≤ X.length) (hb : i = 0 ∨ lexU U (at0 X (i - 1)) y) : ∀ x ∈ X.take i, lexU U x y := by
  intro x hx
  obtain ⟨k, hk, hk2, rfl⟩ := take_at hx
  rcases hb with rfl | hb
  · omega
  · by_cases e : k = i - 1
    · rw [e]; exact hb
    · exact (pair_at hX (by omega : k < i - 1) (by omega)).trans hb
theorem drop_lex {X : List Int} {i : Nat} {y : Int} (hX : X.Pairwise (lexU U)) (hb : i = X.length ∨ lexU U y (at0 X i)) : ∀ x ∈ X.drop i, lexU U y x := by
  intro x hx
  obtain ⟨k, hk, hk2, rfl⟩ := drop_at hx
  rcases hb with rfl | hb
  · omega
  · by_cases e : k = i
    · rw [e]; exact hb
    · exact hb.trans (pair_at hX (by omega : i < k) hk2)
theorem cross_lex {X Y : List Int} {i j : Nat} (hX : X.Pairwise (lexU U)) (hY : Y.Pairwise (lexU U)) (hi : i ≤ X.length) (hb : i = 0 ∨ j = Y.length ∨ lexU U (at0 X (i - 1)) (at0 Y j)) : ∀ x ∈ X.take i, ∀ y ∈ Y.drop j, lexU U x y := by
  intro x hx y hy
  rcases hb with h | h | h
  · subst h; simp at hx
  · subst h; simp at hy
  · exact drop_lex hY (.inr (take_lex hX hi (.inr h) x hx)) y hy
theorem merge_math {A B C1 C2 : List Int} {s t : Nat} (hA : A.Pairwise (lexU U)) (hB : B.Pairwise (lexU U)) (hs : s ≤ A.length) (ht : t ≤ B.length) (h1 : s = 0 ∨ t = B.length ∨ lexU U (at0 A (s - 1)) (at0 B t)) (h2 : t = 0 ∨ s = A.length ∨ lexU U (at0 B (t - 1)) (at0 A s))
    (p1 : C1.Perm (A.take s ++ B.take t)) (p2 : C2.Perm (A.drop s ++ B.drop t)) (w1 : C1.Pairwise (lexU U)) (w2 : C2.Pairwise (lexU U)) : (C1 ++ C2).Perm (A ++ B) ∧ (C1 ++ C2).Pairwise (lexU U) := by
  have x1 := cross_lex hA hB hs h1
  have x2 := cross_lex hB hA ht h2
  have eA := hA; have eB := hB
  rw [← List.take_append_drop s A, List.pairwise_append] at eA
  rw [← List.take_append_drop t B, List.pairwise_append] at eB
  refine ⟨?_, ?_⟩
  · refine (p1.append p2).trans ?_
    have h3 : (A.take s ++ B.take t ++ (A.drop s ++ B.drop t)).Perm (A.take s ++ A.drop s ++ (B.take t ++ B.drop t)) := by
      simp only [List.append_assoc]
      refine List.Perm.append_left _ ?_
      rw [← List.append_assoc, ← List.append_assoc]
      exact List.Perm.append_right _ List.perm_append_comm
    rwa [List.take_append_drop, List.take_append_drop] at h3
  · rw [List.pairwise_append]
    refine ⟨w1, w2, fun x hx y hy => ?_⟩
    have hx := p1.mem_iff.1 hx
    have hy := p2.mem_iff.1 hy
    rcases List.mem_append.1 hx with hx | hx <;> rcases List.mem_append.1 hy with hy | hy
    · exact eA.2.2 x hx y hy
    · exact x1 x hx y hy
    · exact x2 x hx y hy
    · exact eB.2.2 x hx y hy
end Go.Sh

namespace Go.Sh
open Go Go.Lift
theorem at_A {P A B S : List Int} {k : Nat} (h : k < A.length) {n : Nat} (hn : n = P.length + k) : at0 (P ++ A ++ B ++ S) n = at0 A k := by
  subst hn
  rw [at_appL (by simp; omega), at_appL (by simp; omega), at_appR (by omega), show P.length + k - P.length = k by omega]
theorem at_B {P A B S : List Int} {k : Nat} (h : k < B.length) {n : Nat} (hn : n = P.length + A.length + k) : at0 (P ++ A ++ B ++ S) n = at0 B k := by
  subst hn
  rw [at_appL (by simp; omega), at_appR (by simp), List.length_append, show P.length + A.length + k - (P.length + A.length) = k by omega]
variable {c : Addr} {data : Sl} {U : Int → Int} {ok : Int → Prop}
theorem right_loop {h : Heap} {P B1 B2 : List Int} {u a e : Int} {Q : Unit → Heap → Prop} (ho : Own toI 0 h data (P ++ u :: B1 ++ B2)) (hl : (P ++ u :: B1 ++ B2).length ≤ 1000) (ha : a = (P.length : Int)) (he : e = (P.length : Int) + B1.length)
    (K : ∀ h', Own toI 0 h' data (P ++ B1 ++ u :: B2) → Keep data.blk h h' → Q () h') :
    loop (fun (s0u1 : Int) h0u3 (K0u1 : Int → Heap → Prop) =>
        iteB (decide (s0u1 < e)) (
         idxS data (IntKind.wrap .i64 (s0u1 + 1)) 1 fun a_3 =>
         Lift.load (Value.int .i64) a_3 h0u3 fun v_3 =>
         idxS data s0u1 1 fun a_4 =>
         Lift.load (Value.int .i64) a_4 h0u3 fun v_4 =>
         idxS data s0u1 1 fun a_5 =>
         Lift.store a_5 (Value.int .i64 v_3) h0u3 fun h0u4 =>
         idxS data (IntKind.wrap .i64 (s0u1 + 1)) 1 fun a_6 =>
         Lift.store a_6 (Value.int .i64 v_4) h0u4 fun h0u5 =>
         Let (IntKind.wrap .i64 (s0u1 + 1) : Int) fun k =>
         K0u1 k h0u5
        ) (
         Q () h0u3
        )
       ) a h := by
  subst ha he
  simp only [List.length_append, List.length_cons] at hl
  refine loop.inv (fun t h' => ∃ (X Y : List Int), B1 = X ++ Y ∧ t = (P.length : Int) + X.length ∧ Own toI 0 h' data (P ++ X ++ u :: (Y ++ B2)) ∧ Keep data.blk h h') (fun t _ => P.length + B1.length - t.toNat) ⟨[], B1, rfl, by simp, by simpa using ho, Keep.refl _ _⟩ ?_
  rintro t h1 ⟨X, Y, rfl, rfl, o1, k1⟩
  simp only [List.length_append] at hl ⊢
  refine ⟨fun hlt => ?_, fun hge => ?_⟩
  · have hlt := of_decide_eq_true hlt
    obtain ⟨v, Y, rfl⟩ : ∃ v r, Y = v :: r := by cases Y with | nil => simp at hlt | cons v r => exact ⟨v, r, rfl⟩
    simp only [List.length_cons] at hl ⊢
    rw [w64 (by omega) (by omega)]
    refine Own.swp2 (A := P ++ X) (u := u) (v := v) (B := Y ++ B2) (by simpa using o1) (by simp <;> omega) (by simp <;> omega) fun h2 o2 k2 => ?_
    rintro _ rfl
    exact ⟨⟨X ++ [v], Y, by simp, by simp; omega, by simpa using o2, k1.trans k2⟩, by omega⟩
  · have hge := of_decide_eq_false hge
    have hY : Y = [] := List.eq_nil_of_length_eq_zero (by omega)
    subst hY
    exact K h1 (by simpa using o1) k1
theorem left_loop {h : Heap} {P A1 A2 S : List Int} {v b e : Int} {Q : Unit → Heap → Prop} (ho : Own toI 0 h data (P ++ A1 ++ A2 ++ v :: S)) (hl : (P ++ A1 ++ A2 ++ v :: S).length ≤ 1000) (hb : b = (P.length : Int) + A1.length + A2.length) (he : e = (P.length : Int) + A1.length)
    (K : ∀ h', Own toI 0 h' data (P ++ A1 ++ v :: A2 ++ S) → Keep data.blk h h' → Q () h') :
    loop (fun (s0u3 : Int) h0u9 (K0u3 : Int → Heap → Prop) =>
         iteB (decide (s0u3 > e)) (
          idxS data (IntKind.wrap .i64 (s0u3 - 1)) 1 fun a_9 =>
          Lift.load (Value.int .i64) a_9 h0u9 fun v_8 =>
          idxS data s0u3 1 fun a_10 =>
          Lift.load (Value.int .i64) a_10 h0u9 fun v_9 =>
          idxS data s0u3 1 fun a_11 =>
          Lift.store a_11 (Value.int .i64 v_8) h0u9 fun h0u10 =>
          idxS data (IntKind.wrap .i64 (s0u3 - 1)) 1 fun a_12 =>
          Lift.store a_12 (Value.int .i64 v_9) h0u10 fun h0u11 =>
          Let (IntKind.wrap .i64 (s0u3 - 1) : Int) fun k_1 =>
          K0u3 k_1 h0u11
         ) (
          Q () h0u9
         )
        ) b h := by
  subst hb he
  simp only [List.length_append, List.length_cons] at hl
  refine loop.inv (fun t h' => ∃ (X Y : List Int), A2 = X ++ Y ∧ t = (P.length : Int) + A1.length + X.length ∧ Own toI 0 h' data (P ++ A1 ++ X ++ v :: (Y ++ S)) ∧ Keep data.blk h h') (fun t _ => t.toNat) ⟨A2, [], by simp, rfl, by simpa using ho, Keep.refl _ _⟩ ?_
  rintro t h1 ⟨X, Y, rfl, rfl, o1, k1⟩
  simp only [List.length_append] at hl ⊢
  refine ⟨fun hlt => ?_, fun hge => ?_⟩
  · have hlt := of_decide_eq_true hlt
    obtain ⟨X, u, rfl⟩ : ∃ X' u, X = X' ++ [u] := by
      rcases List.eq_nil_or_concat X with rfl | ⟨X', u, rfl⟩
      · simp at hlt
      · exact ⟨X', u, by simp⟩
    simp only [List.length_append, List.length_cons, List.length_nil] at hl hlt ⊢
    rw [w64 (by omega) (by omega)]
    refine Own.swp1 (A := P ++ A1 ++ X) (u := u) (v := v) (B := Y ++ S) (by simpa using o1) (by simp <;> omega) (by simp <;> omega) fun h2 o2 k2 => ?_
    rintro _ rfl
    exact ⟨⟨X, u :: Y, by simp, by omega, by simpa using o2, k1.trans k2⟩, by omega⟩
  · have hge := of_decide_eq_false hge
    have hX : X = [] := List.eq_nil_of_length_eq_zero (by omega)
    subst hX
    exact K h1 (by simpa using o1) k1
theorem sym_spec : ∀ (rk : Nat) {h : Heap} {P A B S : List Int} {a m b : Int} {Q : Unit → Heap → Prop}, A.length + B.length ≤ rk → A ≠ [] → B ≠ [] → Own toI 0 h data (P ++ A ++ B ++ S) → CmpOk c data.blk U ok h → (∀ x, x ∈ A ∨ x ∈ B → ok x) → A.Pairwise (lexU U) → B.Pairwise (lexU U) → (∀ x ∈ A, ∀ y ∈ B, x < y) → (P ++ A ++ B ++ S).length ≤ 1000 →
    a = (P.length : Int) → m = (P.length : Int) + A.length → b = (P.length : Int) + A.length + B.length → (∀ C h', C.Perm (A ++ B) → C.Pairwise (lexU U) → Own toI 0 h' data (P ++ C ++ S) → Keep data.blk h h' → Q () h') → slices_symMergeCmpFunc_int__clause_idle_c1uR rk data a m b c h Q
  | 0, h, P, A, B, S, a, m, b, Q, hrk, hA, _, _, _, _, _, _, _, _, _, _, _, _ => by
    have := List.length_pos_iff.2 hA
    omega
  | rk + 1, h, P, A, B, S, a, m, b, Q, hrk, hA, hB, ho, hc, hok, sA, sB, hx, hl, ha, hm, hb, K => by
    subst ha hm hb
    have lA := List.length_pos_iff.2 hA
    have lB := List.length_pos_iff.2 hB
    have hl' := hl
    simp only [List.length_append] at hl
    have okA : ∀ k, k < A.length → ok (at0 A k) := fun k hk => hok _ (.inl (mem_at0 hk))
    have okB : ∀ k, k < B.length → ok (at0 B k) := fun k hk => hok _ (.inr (mem_at0 hk))
    refine ⟨fun g => ?_, fun g => ?_⟩
    · rw [w64 (by omega) (by omega)] at g
      have g : A.length = 1 := by have : (P.length : Int) + A.length - P.length = 1 := by simpa using g
                                  omega
      obtain ⟨u, rfl⟩ : ∃ u, A = [u] := List.length_eq_one_iff.1 g
      refine loop.inv (fun t h' => ∃ (i j : Nat), t = ((P.length : Int) + 1 + i, (P.length : Int) + 1 + j) ∧ i ≤ j ∧ j ≤ B.length ∧ (i = 0 ∨ U (at0 B (i - 1)) < U u) ∧ (j = B.length ∨ ¬ U (at0 B j) < U u) ∧ h' = h) (fun t _ => (t.2 - t.1).toNat)
        ⟨0, B.length, by ext <;> simp, by omega, by omega, .inl rfl, .inl rfl, rfl⟩ ?_
      rintro _ h1 ⟨i, j, rfl, hij, hj, hi1, hj1, rfl⟩
      dsimp only
      refine ⟨fun hlt => ?_, fun hge => ?_⟩
      · have hlt := of_decide_eq_true hlt
        obtain ⟨k, hk, hk1, hk2⟩ : ∃ k : Nat, ((P.length : Int) + 1 + i + ((P.length : Int) + 1 + j)) / 2 = (P.length : Int) + 1 + k ∧ i ≤ k ∧ k < j := ⟨(i + j) / 2, by omega, by omega, by omega⟩
        rintro _ rfl
        rw [half_eq (by omega) (by omega), hk]
        refine RJ.ld ho.r (j := P.length + 1 + k) (by omega) (by simp; omega) ?_
        refine RJ.ld ho.r (j := P.length) (by omega) (by simp) ?_
        rw [at_B (k := k) (by omega) (by simp), at_A (k := 0) (by simp) (by simp)]
        refine hc.run (okB k (by omega)) (okA 0 (by simp)) ?_
        rw [cmpI_neg, show at0 [u] 0 = u from rfl]
        refine ⟨fun hu => ?_, fun hu => ?_⟩
        · have hu := of_decide_eq_true hu
          rintro _ rfl
          rw [w64 (by omega) (by omega)]
          exact ⟨⟨k + 1, j, by ext <;> simp <;> omega, by omega, hj, .inr (by simpa using hu), hj1, rfl⟩, by omega⟩
        · have hu := of_decide_eq_false hu
          exact ⟨⟨i, k, rfl, by omega, by omega, hi1, .inr hu, rfl⟩, by omega⟩
      · have hge := of_decide_eq_false hge
        have hij' : i = j := by omega
        subst hij'
        have hs : B = B.take i ++ B.drop i := (List.take_append_drop _ _).symm
        have hlt : (B.take i).length = i := by rw [List.length_take]; omega
        have t1 : ∀ x ∈ B.take i, lexU U x u := take_lex sB hj (hi1.imp id fun h => .inl h)
        have t2 : ∀ x ∈ B.drop i, lexU U u x := drop_lex sB (by
          rcases hj1 with h | h
          · exact .inl h
          · by_cases e : i = B.length
            · exact .inl e
            · refine .inr ?_
              have := hx u (by simp) (at0 B i) (mem_at0 (by omega))
              unfold lexU; omega)
        rw [w64 (by omega) (by omega)]
        refine right_loop (P := P) (u := u) (B1 := B.take i) (B2 := B.drop i ++ S) (by simpa [show B.take i ++ (B.drop i ++ S) = B ++ S by rw [← List.append_assoc, List.take_append_drop]] using ho) (by simp; omega) rfl (by omega) fun h2 o2 k2 => K (B.take i ++ u :: B.drop i) h2 ?_ ?_ (by simpa using o2) k2
        · refine List.perm_middle.trans ?_
          rw [List.take_append_drop]
          exact List.Perm.refl _
        · rw [hs, List.pairwise_append] at sB
          rw [List.pairwise_append]
          refine ⟨sB.1, List.pairwise_cons.2 ⟨t2, sB.2.1⟩, fun x hx1 y hy1 => ?_⟩
          rcases List.mem_cons.1 hy1 with rfl | hy1
          · exact t1 x hx1
          · exact sB.2.2 x hx1 y hy1
    have g0 : A.length ≠ 1 := by
      rw [w64 (by omega) (by omega)] at g
      have : ¬ (P.length : Int) + A.length - P.length = 1 := by simpa using g
      omega
    clear g
    refine ⟨fun g => ?_, fun g => ?_⟩
    · rw [w64 (by omega) (by omega)] at g
      have g : B.length = 1 := by have : (P.length : Int) + A.length + B.length - (P.length + A.length) = 1 := by simpa using g
                                  omega
      obtain ⟨v, rfl⟩ : ∃ u, B = [u] := List.length_eq_one_iff.1 g
      refine loop.inv (fun t h' => ∃ (i j : Nat), t = ((P.length : Int) + i, (P.length : Int) + j) ∧ i ≤ j ∧ j ≤ A.length ∧ (i = 0 ∨ ¬ U v < U (at0 A (i - 1))) ∧ (j = A.length ∨ U v < U (at0 A j)) ∧ h' = h) (fun t _ => (t.2 - t.1).toNat)
        ⟨0, A.length, by ext <;> simp, by omega, by omega, .inl rfl, .inl rfl, rfl⟩ ?_
      rintro _ h1 ⟨i, j, rfl, hij, hj, hi1, hj1, rfl⟩
      dsimp only
      refine ⟨fun hlt => ?_, fun hge => ?_⟩
      · have hlt := of_decide_eq_true hlt
        obtain ⟨k, hk, hk1, hk2⟩ : ∃ k : Nat, ((P.length : Int) + i + ((P.length : Int) + j)) / 2 = (P.length : Int) + k ∧ i ≤ k ∧ k < j := ⟨(i + j) / 2, by omega, by omega, by omega⟩
        rintro _ rfl
        rw [half_eq (by omega) (by omega), hk]
        refine RJ.ld ho.r (j := P.length + A.length) (by omega) (by simp) ?_
        refine RJ.ld ho.r (j := P.length + k) (by omega) (by simp; omega) ?_
        rw [at_B (k := 0) (by simp) (by simp), at_A (k := k) (by omega) rfl]
        refine hc.run (okB 0 (by simp)) (okA k (by omega)) ?_
        rw [cmpI_neg, show at0 [v] 0 = v from rfl]
        refine ⟨fun hu => ?_, fun hu => ?_⟩
        · have hu : ¬ U v < U (at0 A k) := by simpa using hu
          rintro _ rfl
          rw [w64 (by omega) (by omega)]
          exact ⟨⟨k + 1, j, by ext <;> simp <;> omega, by omega, hj, .inr (by simpa using hu), hj1, rfl⟩, by omega⟩
        · have hu : U v < U (at0 A k) := by simpa using hu
          exact ⟨⟨i, k, rfl, by omega, by omega, hi1, .inr hu, rfl⟩, by omega⟩
      · have hge := of_decide_eq_false hge
        have hij' : i = j := by omega
        subst hij'
        have hs : A = A.take i ++ A.drop i := (List.take_append_drop _ _).symm
        have hlt : (A.take i).length = i := by rw [List.length_take]; omega
        have hld : (A.drop i).length = A.length - i := List.length_drop
        have t2 : ∀ x ∈ A.drop i, lexU U v x := drop_lex sA (hj1.imp id fun h => .inl h)
        have t1 : ∀ x ∈ A.take i, lexU U x v := take_lex sA hj (by
          rcases hi1 with h | h
          · exact .inl h
          · by_cases e : i = 0
            · exact .inl e
            · refine .inr ?_
              have := hx (at0 A (i - 1)) (mem_at0 (by omega)) v (by simp)
              unfold lexU; omega)
        refine left_loop (P := P) (v := v) (A1 := A.take i) (A2 := A.drop i) (S := S) (by simpa [show A.take i ++ (A.drop i ++ v :: S) = A ++ v :: S by rw [← List.append_assoc, List.take_append_drop]] using ho) (by simp; omega) (by omega) (by omega) fun h2 o2 k2 => K (A.take i ++ v :: A.drop i) h2 ?_ ?_ (by simpa using o2) k2
        · refine List.perm_middle.trans ?_
          rw [List.take_append_drop]
          exact (List.perm_append_singleton v A).symm
        · rw [hs, List.pairwise_append] at sA
          rw [List.pairwise_append]
          refine ⟨sA.1, List.pairwise_cons.2 ⟨t2, sA.2.1⟩, fun x hx1 y hy1 => ?_⟩
          rcases List.mem_cons.1 hy1 with rfl | hy1
          · exact t1 x hx1
          · exact sA.2.2 x hx1 y hy1
    have g1 : B.length ≠ 1 := by
      rw [w64 (by omega) (by omega)] at g
      have : ¬ (P.length : Int) + A.length + B.length - (P.length + A.length) = 1 := by simpa using g
      omega
    clear g
    obtain ⟨H, hH⟩ : ∃ H : Nat, H = (A.length + B.length) / 2 := ⟨_, rfl⟩
    rintro mid hmid
    rw [half_eq (by omega) (by omega)] at hmid
    have hmid : mid = (P.length : Int) + H := by omega
    subst hmid
    rintro n hn
    rw [w64 (by omega) (by omega)] at hn
    obtain ⟨s0, hs0⟩ : ∃ s0 : Nat, s0 = if H < A.length then H - B.length else 0 := ⟨_, rfl⟩
    obtain ⟨r0, hr0⟩ : ∃ r0 : Nat, r0 = if H < A.length then H else A.length := ⟨_, rfl⟩
    have hsr : s0 ≤ r0 ∧ r0 ≤ A.length ∧ r0 ≤ H ∧ H - s0 ≤ B.length := by
      rw [hs0, hr0]; split <;> omega
    have hs1 : s0 = 0 ∨ H - s0 = B.length := by
      rw [hs0]; split
      · right; omega
      · left; rfl
    have hr1 : r0 = H ∨ r0 = A.length := by rw [hr0]; split <;> simp
    refine seq.cut (fun (t : Int × Int) h' => t = ((P.length : Int) + s0, (P.length : Int) + r0) ∧ h' = h) ?_ ?_
    · refine ⟨fun g => ?_, fun g => ?_⟩
      · have g := of_decide_eq_true g
        rintro st hst
        rw [w64 (by omega) (by omega)] at hst
        rw [if_pos (by omega)] at hs0 hr0
        refine ⟨?_, rfl⟩
        ext
        · dsimp only; omega
        · dsimp only; omega
      · have g := of_decide_eq_false g
        rw [if_neg (by omega)] at hs0 hr0
        refine ⟨?_, rfl⟩
        ext
        · dsimp only; omega
        · dsimp only; omega
    rintro _ h5 ⟨rfl, rfl⟩
    rintro pp hpp
    rw [w64 (by omega) (by omega)] at hpp
    refine loop.inv (fun t h' => ∃ (i j : Nat), t = ((P.length : Int) + i, (P.length : Int) + j) ∧ s0 ≤ i ∧ i ≤ j ∧ j ≤ r0 ∧ (i = s0 ∨ ¬ U (at0 B (H - i)) < U (at0 A (i - 1))) ∧ (j = r0 ∨ U (at0 B (H - 1 - j)) < U (at0 A j)) ∧ h' = h5) (fun t _ => (t.2 - t.1).toNat)
      ⟨s0, r0, rfl, by omega, by omega, by omega, .inl rfl, .inl rfl, rfl⟩ ?_
    rintro _ h1 ⟨i, j, rfl, hsi, hij, hj, hi1, hj1, rfl⟩
    dsimp only
    refine ⟨fun hlt => ?_, fun hge => ?_⟩
    · have hlt := of_decide_eq_true hlt
      obtain ⟨k, hk, hk1, hk2⟩ : ∃ k : Nat, ((P.length : Int) + i + ((P.length : Int) + j)) / 2 = (P.length : Int) + k ∧ i ≤ k ∧ k < j := ⟨(i + j) / 2, by omega, by omega, by omega⟩
      rintro _ rfl
      rw [half_eq (by omega) (by omega), hk, w64 (by omega) (by omega)]
      refine RJ.ld ho.r (j := P.length + A.length + (H - 1 - k)) (by omega) (by simp; omega) ?_
      refine RJ.ld ho.r (j := P.length + k) (by omega) (by simp; omega) ?_
      rw [at_B (k := H - 1 - k) (by omega) rfl, at_A (k := k) (by omega) rfl]
      refine hc.run (okB _ (by omega)) (okA k (by omega)) ?_
      rw [cmpI_neg]
      refine ⟨fun hu => ?_, fun hu => ?_⟩
      · have hu : ¬ U (at0 B (H - 1 - k)) < U (at0 A k) := by simpa using hu
        rintro _ rfl
        rw [w64 (by omega) (by omega)]
        exact ⟨⟨k + 1, j, by ext <;> simp <;> omega, by omega, by omega, hj, .inr (by rw [show H - (k + 1) = H - 1 - k by omega, Nat.add_sub_cancel]; exact hu), hj1, rfl⟩, by omega⟩
      · have hu : U (at0 B (H - 1 - k)) < U (at0 A k) := by simpa using hu
        exact ⟨⟨i, k, rfl, by omega, by omega, by omega, hi1, .inr hu, rfl⟩, by omega⟩
    have hge := of_decide_eq_false hge
    have hij' : i = j := by omega
    subst hij'
    rintro e he
    rw [w64 (by omega) (by omega)] at he
    have he : e = (P.length : Int) + A.length + (H - i : Nat) := by omega
    subst he hn hpp
    have lt1 : (A.take i).length = i := by rw [List.length_take]; omega
    have ld1 : (A.drop i).length = A.length - i := List.length_drop
    have lt2 : (B.take (H - i)).length = H - i := by rw [List.length_take]; omega
    have ld2 : (B.drop (H - i)).length = B.length - (H - i) := List.length_drop
    have M : ∀ C1 C2 : List Int, C1.Perm (A.take i ++ B.take (H - i)) → C2.Perm (A.drop i ++ B.drop (H - i)) → C1.Pairwise (lexU U) → C2.Pairwise (lexU U) → (C1 ++ C2).Perm (A ++ B) ∧ (C1 ++ C2).Pairwise (lexU U) := by
      intro C1 C2 p1 p2 w1 w2
      refine merge_math sA sB (by omega) (by omega) ?_ ?_ p1 p2 w1 w2
      · by_cases e1 : i = 0
        · exact .inl e1
        · by_cases e2 : H - i = B.length
          · exact .inr (.inl e2)
          · rcases hi1 with h | h
            · subst h; omega
            · have := hx (at0 A (i - 1)) (mem_at0 (by omega)) (at0 B (H - i)) (mem_at0 (by omega))
              refine .inr (.inr ?_); unfold lexU; omega
      · by_cases e1 : H - i = 0
        · exact .inl e1
        · by_cases e2 : i = A.length
          · exact .inr (.inl e2)
          · rcases hj1 with h | h
            · subst h; omega
            · rw [show H - 1 - i = H - i - 1 by omega] at h
              exact .inr (.inr (.inl h))
    have tA : A = A.take i ++ A.drop i := (List.take_append_drop _ _).symm
    have tB : B = B.take (H - i) ++ B.drop (H - i) := (List.take_append_drop _ _).symm
    have sA' := sA; have sB' := sB
    rw [tA, List.pairwise_append] at sA'
    rw [tB, List.pairwise_append] at sB'
    have okT : ∀ x, x ∈ A.take i ∨ x ∈ B.take (H - i) → ok x := fun x hx => hok x (hx.imp List.mem_of_mem_take List.mem_of_mem_take)
    have okD : ∀ x, x ∈ A.drop i ∨ x ∈ B.drop (H - i) → ok x := fun x hx => hok x (hx.imp List.mem_of_mem_drop List.mem_of_mem_drop)
    have xT : ∀ x ∈ A.take i, ∀ y ∈ B.take (H - i), x < y := fun x h1 y h2 => hx x (List.mem_of_mem_take h1) y (List.mem_of_mem_take h2)
    have xD : ∀ x ∈ A.drop i, ∀ y ∈ B.drop (H - i), x < y := fun x h1 y h2 => hx x (List.mem_of_mem_drop h1) y (List.mem_of_mem_drop h2)
    have ho' : Own toI 0 h1 data (P ++ A.take i ++ A.drop i ++ B.take (H - i) ++ (B.drop (H - i) ++ S)) := by
      have : P ++ A.take i ++ A.drop i ++ B.take (H - i) ++ (B.drop (H - i) ++ S) = P ++ A ++ B ++ S := by
        rw [List.append_assoc P, ← tA, ← List.append_assoc, List.append_assoc (P ++ A), ← tB]
      rw [this]; exact ho
    generalize A.take i = A1 at *
    generalize A.drop i = A2 at *
    generalize B.take (H - i) = B1 at *
    generalize B.drop (H - i) = B2 at *
    refine seq.cut (fun _ h' => Own toI 0 h' data (P ++ A1 ++ B1 ++ A2 ++ (B2 ++ S)) ∧ Keep data.blk h1 h') ?_ ?_
    · refine seq.cut (fun (b : Bool) h' => h' = h1 ∧ (b = true ↔ i < A.length ∧ i < H)) ?_ ?_
      · refine ⟨fun g => ⟨rfl, ?_⟩, fun g => ⟨rfl, ?_⟩⟩
        · have g := of_decide_eq_true g
          rw [decide_eq_true_eq]; omega
        · have g := of_decide_eq_false g
          simp only [Bool.false_eq_true, false_iff]; omega
      rintro b h' ⟨rfl, hb⟩
      refine ⟨fun g => ?_, fun g => ?_⟩
      · have g := hb.1 g
        refine rotate_spec (P := P ++ A1) (A := A2) (B := B1) (S := B2 ++ S) ho' (fun e => by rw [e] at ld1; simp at ld1; omega) (fun e => by rw [e] at lt2; simp at lt2; omega) (by simp; omega) (by simp; omega) (by simp; omega) (by simp; omega) fun h2 o2 k2 => ⟨by simpa using o2, k2⟩
      · have g : ¬ (i < A.length ∧ i < H) := fun hh => by rw [hb.2 hh] at g; cases g
        refine ⟨?_, Keep.refl _ _⟩
        by_cases e : i < A.length
        · have : B1 = [] := List.eq_nil_of_length_eq_zero (by omega)
          subst this
          simpa using ho'
        · have : A2 = [] := List.eq_nil_of_length_eq_zero (by omega)
          subst this
          simpa using ho'
    rintro _ h2 ⟨o2, k2⟩
    refine seq.cut (fun _ h' => ∃ C1, C1.Perm (A1 ++ B1) ∧ C1.Pairwise (lexU U) ∧ Own toI 0 h' data (P ++ C1 ++ A2 ++ B2 ++ S) ∧ Keep data.blk h1 h') ?_ ?_
    · refine seq.cut (fun (b : Bool) h' => h' = h2 ∧ (b = true ↔ 0 < i ∧ i < H)) ?_ ?_
      · refine ⟨fun g => ⟨rfl, ?_⟩, fun g => ⟨rfl, ?_⟩⟩
        · have g := of_decide_eq_true g
          rw [decide_eq_true_eq]; omega
        · have g := of_decide_eq_false g
          simp only [Bool.false_eq_true, false_iff]; omega
      rintro b h' ⟨rfl, hb⟩
      refine ⟨fun g => ?_, fun g => ?_⟩
      · have g := hb.1 g
        refine sym_spec rk (P := P) (A := A1) (B := B1) (S := A2 ++ (B2 ++ S)) (by omega) (fun e => by rw [e] at lt1; simp at lt1; omega) (fun e => by rw [e] at lt2; simp at lt2; omega) (by simpa using o2) (hc.keep k2) okT sA'.1 sB'.1 xT (by simp; omega) rfl (by omega) (by omega) fun C h3 p3 w3 o3 k3 => ⟨C, p3, w3, by simpa using o3, k2.trans k3⟩
      · have g : ¬ (0 < i ∧ i < H) := fun hh => by rw [hb.2 hh] at g; cases g
        refine ⟨A1 ++ B1, List.Perm.refl _, ?_, by simpa using o2, k2⟩
        by_cases e : 0 < i
        · have : B1 = [] := List.eq_nil_of_length_eq_zero (by omega)
          subst this
          simpa using sA'.1
        · have : A1 = [] := List.eq_nil_of_length_eq_zero (by omega)
          subst this
          exact sB'.1
    rintro _ h3 ⟨C1, p3, w3, o3, k3⟩
    have lC1 := p3.length_eq
    rw [List.length_append] at lC1
    refine seq.cut (fun (b : Bool) h' => h' = h3 ∧ (b = true ↔ i < A.length ∧ H - i < B.length)) ?_ ?_
    · refine ⟨fun g => ⟨rfl, ?_⟩, fun g => ⟨rfl, ?_⟩⟩
      · have g := of_decide_eq_true g
        rw [decide_eq_true_eq]; omega
      · have g := of_decide_eq_false g
        simp only [Bool.false_eq_true, false_iff]; omega
    rintro b h' ⟨rfl, hb⟩
    refine ⟨fun g => ?_, fun g => ?_⟩
    · have g := hb.1 g
      refine sym_spec rk (P := P ++ C1) (A := A2) (B := B2) (S := S) (by omega) (fun e => by rw [e] at ld1; simp at ld1; omega) (fun e => by rw [e] at ld2; simp at ld2; omega) o3 (hc.keep k3) okD sA'.2.1 sB'.2.1 xD (by simp; omega) (by simp; omega) (by simp; omega) (by simp; omega) fun C h4 p4 w4 o4 k4 => ?_
      obtain ⟨m1, m2⟩ := M C1 C p3 p4 w3 w4
      exact K _ h4 m1 m2 (by simpa using o4) (k3.trans k4)
    · have g : ¬ (i < A.length ∧ H - i < B.length) := fun hh => by rw [hb.2 hh] at g; cases g
      have w4 : (A2 ++ B2).Pairwise (lexU U) := by
        by_cases e : i < A.length
        · have : B2 = [] := List.eq_nil_of_length_eq_zero (by omega)
          subst this
          simpa using sA'.2.1
        · have : A2 = [] := List.eq_nil_of_length_eq_zero (by omega)
          subst this
          exact sB'.2.1
      obtain ⟨m1, m2⟩ := M C1 (A2 ++ B2) p3 (List.Perm.refl _) w3 w4
      exact K _ h' m1 m2 (by simpa using o3) k3
end Go.Sh

namespace Go.Sh
open Go Go.Lift
variable {c : Addr} {data : Sl} {U : Int → Int} {ok : Int → Prop} {h : Heap} {xs : List Int}
theorem stable_spec {n : Int} {Q : Unit → Heap → Prop} (ho : Own toI 0 h data xs) (hc : CmpOk c data.blk U ok h) (hok : ∀ x ∈ xs, ok x) (hM : xs.Pairwise (· < ·)) (hl : xs.length ≤ 39) (hn : n = (xs.length : Int))
    (K : ∀ ys h', ys.Perm xs → ys.Pairwise (lexU U) → Own toI 0 h' data ys → Keep data.blk h h' → Q () h') : slices_stableCmpFunc_int__clause_idle_c1 data n c h Q := by
  subst hn
  have hs : xs = xs.take 20 ++ xs.drop 20 := (List.take_append_drop _ _).symm
  have lt1 : (xs.take 20).length = min 20 xs.length := List.length_take
  have ld1 : (xs.drop 20).length = xs.length - 20 := List.length_drop
  have hM' := hM
  rw [hs, List.pairwise_append] at hM'
  refine loop.inv (fun (t : Int × Int) h' => (t = (0, 20) ∧ h' = h) ∨ (t = (20, 40) ∧ 20 ≤ xs.length ∧ ∃ A, A.Perm (xs.take 20) ∧ A.Pairwise (lexU U) ∧ Own toI 0 h' data (A ++ xs.drop 20) ∧ Keep data.blk h h')) (fun t _ => (40 - t.1).toNat) (.inl ⟨rfl, rfl⟩) ?_
  rintro t h1 (⟨ht, hh⟩ | ⟨ht, h20, A, pA, wA, o1, k1⟩)
  · rw [ht, hh]
    refine ⟨fun g => ?_, fun g => ?_⟩
    · have g := of_decide_eq_true g
      refine insSort_spec (P := []) (M := xs.take 20) (S := xs.drop 20) (by rw [List.nil_append, ← hs]; exact ho) hc (fun x hx => hok x (List.mem_of_mem_take hx)) hM'.1 (by simp; omega) rfl (by simp; omega) fun A h2 pA wA o2 k2 => ?_
      rintro _ rfl
      exact ⟨.inr ⟨rfl, by omega, A, pA, wA, by simpa using o2, k2⟩, by decide⟩
    · have g := of_decide_eq_false g
      refine insSort_spec (P := []) (M := xs) (S := []) (by simpa using ho) hc hok hM (by simp; omega) rfl (by simp) fun A h2 pA wA o2 k2 => ?_
      refine loop_end fun K0 => iteF (by simp; omega) ?_
      exact K A h2 pA wA (by simpa using o2) k2
  · rw [ht]
    have lA := pA.length_eq
    refine ⟨fun g => ?_, fun g => ?_⟩
    · have g := of_decide_eq_true g
      omega
    · refine insSort_spec (P := A) (M := xs.drop 20) (S := []) (by simpa using o1) (hc.keep k1) (fun x hx => hok x (List.mem_of_mem_drop hx)) hM'.2.1 (by simp; omega) (by omega) (by omega) fun B h2 pB wB o2 k2 => ?_
      have lB := pB.length_eq
      have k02 := k1.trans k2
      have pAB : (A ++ B).Perm xs := by
        have := pA.append pB
        rwa [List.take_append_drop] at this
      refine loop.inv (fun (t : Int) h' => (t = 20 ∧ h' = h2) ∨ (t = 40 ∧ ∃ ys, ys.Perm xs ∧ ys.Pairwise (lexU U) ∧ Own toI 0 h' data ys ∧ Keep data.blk h h')) (fun t _ => (40 - t).toNat) (.inl ⟨rfl, rfl⟩) ?_
      rintro t h3 (⟨ht, hh⟩ | ⟨ht, ys, p3, w3, o3, k3⟩)
      · rw [ht, hh]
        refine ⟨fun g => ?_, fun g => ?_⟩
        · have g := of_decide_eq_true g
          rintro _ rfl
          refine loop_end fun K0 => iteF (by simp [w64]; omega) ?_
          refine seq.cut (fun _ h' => ∃ ys, ys.Perm xs ∧ ys.Pairwise (lexU U) ∧ Own toI 0 h' data ys ∧ Keep data.blk h h') ?_ ?_
          · rintro _ rfl
            dsimp only
            rw [w64 (by omega) (by omega)]
            refine iteT (by simp; omega) ?_
            refine ⟨A.length + B.length, sym_spec _ (P := []) (A := A) (B := B) (S := []) (Nat.le_refl _) (fun e => by rw [e] at lA; simp at lA; omega) (fun e => by rw [e] at lB; simp at lB; omega) (by simpa using o2) (hc.keep k02)
              (fun x hx => hok x (pAB.mem_iff.1 (List.mem_append.2 hx))) wA wB (fun x hx y hy => hM'.2.2 x (pA.mem_iff.1 hx) y (pB.mem_iff.1 hy)) (by simp; omega) rfl (by simp; omega) (by simp; omega) fun C h4 p4 w4 o4 k4 => ⟨C, p4.trans pAB, w4, by simpa using o4, k02.trans k4⟩⟩
          rintro _ h4 hh
          rintro _ rfl
          rw [w64 (by omega) (by omega)]
          exact ⟨.inr ⟨rfl, hh⟩, by decide⟩
        · have g := of_decide_eq_false g
          have : B = [] := List.eq_nil_of_length_eq_zero (by omega)
          subst this
          exact K _ _ pAB (by simpa using wA) (by simpa using o2) k02
      · rw [ht]
        refine ⟨fun g => ?_, fun g => K ys h3 p3 w3 o3 k3⟩
        have g := of_decide_eq_true g
        omega
theorem sortS_spec {Q : Unit → Heap → Prop} (ho : Own toI 0 h data xs) (hc : CmpOk c data.blk U ok h) (hok : ∀ x ∈ xs, ok x) (hM : xs.Pairwise (· < ·)) (hl : xs.length ≤ 39)
    (K : ∀ ys h', ys.Perm xs → ys.Pairwise (lexU U) → Own toI 0 h' data ys → Keep data.blk h h' → Q () h') : slices_SortStableFunc_int_int__clause_idle_c1 data c h Q :=
  stable_spec ho hc hok hM hl (by rw [ho.r.len]) K
end Go.Sh

namespace Go.Sh
open Go Go.Lift Go.Cla
variable {h h' : Heap} {p : Addr} {x : Nm → Sl} {vs : Nm → List Value} {S : SS} {n : Nat}
def lrn (S : SS) (k : Nat) : List Int := ((List.range k).filter (fun j => (S.cl j).learned)).map (fun j : Nat => (j : Int))
theorem lrn_succ (S : SS) (k : Nat) : lrn S (k + 1) = if (S.cl k).learned then lrn S k ++ [(k : Int)] else lrn S k := by
  unfold lrn
  rw [List.range_succ, List.filter_append, List.map_append]
  by_cases hb : (S.cl k).learned = true
  · simp [hb]
  · simp [hb]
theorem lrn_mem {S : SS} {k : Nat} {y : Int} (h : y ∈ lrn S k) : 0 ≤ y ∧ y < (k : Int) ∧ (S.cl y.toNat).learned = true := by
  unfold lrn at h
  obtain ⟨j, hj, rfl⟩ := List.mem_map.1 h
  obtain ⟨h1, h2⟩ := List.mem_filter.1 hj
  have := List.mem_range.1 h1
  exact ⟨by omega, by omega, by simpa using h2⟩
theorem lrn_pair (S : SS) : ∀ k, (lrn S k).Pairwise (· < ·)
  | 0 => .nil
  | k + 1 => by
    rw [lrn_succ]
    split
    · rw [List.pairwise_append]
      exact ⟨lrn_pair S k, by simp, fun a ha b hb => by
        have := lrn_mem ha
        simp at hb; omega⟩
    · exact lrn_pair S k
theorem lrn_len (S : SS) : ∀ k, (lrn S k).length ≤ k
  | 0 => Nat.le_refl _
  | k + 1 => by
    have := lrn_len S k
    rw [lrn_succ]
    split
    · rw [List.length_append, List.length_singleton]; omega
    · omega
theorem lrn_mem_iff {S : SS} {k j : Nat} (hj : j < k) : (j : Int) ∈ lrn S k ↔ (S.cl j).learned = true := by
  unfold lrn
  simp only [List.mem_map, List.mem_filter, List.mem_range]
  constructor
  · rintro ⟨a, ⟨_, h2⟩, h3⟩
    have : a = j := by omega
    subst this; exact h2
  · intro h
    exact ⟨j, ⟨hj, h⟩, rfl⟩
def useI (S : SS) (a : Int) : Int := (S.cl a.toNat).use
theorem compare_spec {a b : Int} {Q : Int → Heap → Prop} (K : Q (cmpI a b) h) : cmp_Compare_int a b h Q := by
  unfold cmpI at K
  refine ⟨fun g => absurd g (by simp), fun _ => ⟨fun g => absurd g (by simp), fun _ => ⟨fun g => ?_, fun g => ?_⟩⟩⟩
  · rw [if_pos (of_decide_eq_true g)] at K; exact K
  · rw [if_neg (of_decide_eq_false g)] at K
    refine ⟨fun g => ?_, fun g => ?_⟩
    · rw [if_pos (of_decide_eq_true g)] at K; exact K
    · rw [if_neg (of_decide_eq_false g)] at K; exact K
theorem SM.cmpOk (q : SM h p x vs S) {c0 : Addr} {D : Option Nat} (hc0 : cell? h c0 = some (Value.pointer (some p))) (hcD : D ≠ some c0.block) (hpD : D ≠ some p.block) (hxD : ∀ i b, (x i).blk = some b → D ≠ some b) : CmpOk c0 D (useI S) (fun a => 0 ≤ a ∧ a < (S.cls.length : Int)) h := by
  intro h' k a b Q ha hb K
  have q' : SM h' p x vs S := ⟨q.ns.keep k (fun i b hb => (hxD i b hb).symm), q.spot, q.root.keep k hpD.symm, q.pn, q.enc⟩
  have c' := cell_keep k hc0 hcD.symm
  refine ⟨_, c', q'.ld0 (q'.clsAt (j := a.toNat) (by omega) (by omega) fun a2 _ _ _ h2 => ⟨_, h2, _, c', q'.ld0 (q'.clsAt (j := b.toNat) (by omega) (by omega) fun a4 _ _ _ h4 => ⟨_, h4, compare_spec K⟩)⟩)⟩
theorem SM.clsLd (q : SM h p x vs S) {i : Int} {j : Nat} {k : Sl × Bool × Int → Prop} (hi : i = (j : Int)) (hj : j < S.cls.length) (K : k (x (.c j), (S.cl j).learned, (S.cl j).use)) : idxS (x .cls) i 3 fun a => loadS C_sl_bool_i64 3 a h k :=
  q.clsAt hi hj fun a _ h0 h1 h2 => ⟨_, by
    have := cells?_mk (h := h) (a := a.add (j * 3)) (C_sl_bool_i64 (x (.c j), (S.cl j).learned, (S.cl j).use)) 0 (fun m hm => by
      have hm : m < 3 := hm
      rw [Nat.zero_add]
      match m, hm with
      | 0, _ => exact h0
      | 1, _ => exact h1
      | 2, _ => exact h2)
    exact this, K⟩
def most0 (m : Int) : Int := if 0 > m then 0 else m
theorem idle_spec {most : Int} {Q : Option Nat → Heap → Prop} (q : SM h p x vs S) (hn : S.cls.length ≤ 1000) (hl : (lrn S S.cls.length).length ≤ 39)
    (K0 : ((lrn S S.cls.length).length : Int) ≤ most0 most → ∀ mp h', MPg Value.bool h' mp (fun _ => none) → Ext h h' → h.size ≤ mp → Q (some mp) h')
    (K1 : most0 most < ((lrn S S.cls.length).length : Int) → ∀ mp (ys : List Int) h', ys.Perm (lrn S S.cls.length) → ys.Pairwise (lexU (useI S)) → MPg Value.bool h' mp (fun k => if k ∈ ys.take ((lrn S S.cls.length).length - (most0 most).toNat / 2) then some true else none) → Ext h h' → h.size ≤ mp → Q (some mp) h') : clause_idle (some p) most h Q := by
  intro T
  have e0 : Ext h (h.push (.cells [Value.pointer (some p)].toArray T (0, 0))) := Ext.push _ _
  have hc : cell? (h.push (.cells [Value.pointer (some p)].toArray T (0, 0))) ⟨h.size, 0, none⟩ = some (Value.pointer (some p)) := by unfold cell?; simp
  have z0 : (h.push (.cells [Value.pointer (some p)].toArray T (0, 0)) : Heap).size = h.size + 1 := by simp
  generalize (h.push (.cells [Value.pointer (some p)].toArray T (0, 0)) : Heap) = h0 at *
  have q0 := q.ext e0
  have hp := q.plt
  refine ⟨_, hc, q0.ld0 ?_⟩
  refine loop.inv (fun (t : Sl × Int) h1 => ∃ k : Nat, t.2 = (k : Int) ∧ k ≤ S.cls.length ∧ Own toI h0.size h1 t.1 (lrn S k) ∧ Ext h0 h1) (fun t _ => S.cls.length - t.2.toNat) ⟨0, rfl, by omega, Own.nil, Keep.refl _ _⟩ ?_
  rintro ⟨s, _⟩ h1 ⟨k, rfl, hk, o1, e1⟩
  have q1 := q0.ext e1
  dsimp only at o1 ⊢
  have ll := lrn_len S k
  have se1 := e1.size
  refine ⟨fun hlt => ?_, fun hge => ?_⟩
  · have hlt := of_decide_eq_true hlt
    rw [q.clsLen] at hlt
    refine seq.cut (fun (s' : Sl) h2 => Own toI h0.size h2 s' (lrn S (k + 1)) ∧ Ext h0 h2) ?_ ?_
    · refine q1.clsLd (j := k) rfl (by omega) (mem_ext fun h2 e2 => ?_)
      have se2 := e2.size
      rw [lrn_succ]
      refine ⟨fun hb => ?_, fun hb => ?_⟩
      · dsimp only at hb
        rw [if_pos hb]
        refine newJ fun h3 hr e3 z3 => ?_
        refine ((o1.ext e2).ext e3).append (by omega) hr one_toI (by simp; omega) fun s' h4 o4 k4 _ => ⟨o4, ?_⟩
        have e03 := e1.trans (e2.trans e3)
        cases hbk : s.blk with
        | none => rw [hbk] at k4; exact e03.trans k4
        | some b => rw [hbk] at k4; exact e03.fresh (o1.lt hbk).1 k4
      · dsimp only at hb
        rw [if_neg (by simp [hb])]
        exact ⟨o1.ext e2, e1.trans e2⟩
    rintro s' h2 ⟨o2, e2⟩
    rw [w64 (by omega) (by omega)]
    exact ⟨⟨k + 1, by simp, by omega, o2, e2⟩, by omega⟩
  have hge := of_decide_eq_false hge
  rw [q.clsLen] at hge
  have hk' : k = S.cls.length := by omega
  subst hk'
  have osl := o1.r.len
  refine MPg.new (toV := Value.bool) fun h2 m2 e2 z2 => ?_
  have o2 := o1.ext e2
  have e12 := e1.trans e2
  have e02 := e0.trans e12
  have q2 := q.ext e02
  generalize hL : lrn S S.cls.length = L at *
  rintro most1 hm1
  have hm1 : most1 = most0 most := hm1
  refine ⟨fun g => ?_, fun g => ?_⟩
  · have g := of_decide_eq_true g
    rw [osl, hm1] at g
    exact K0 (by omega) _ h2 m2 e02 (by omega)
  have g := of_decide_eq_false g
  rw [osl, hm1] at g
  have hc2 := cell_keep e12 hc (by simp)
  have hm0 : 0 ≤ most0 most := by unfold most0; split <;> omega
  have bs : ∀ b, s.blk = some b → h0.size ≤ b ∧ b < h1.size := fun b hb => o1.lt hb
  have nD : ∀ b, b < h0.size → s.blk ≠ some b := fun b hb e => by have := bs b e; omega
  refine sortS_spec (o2.mono (Nat.zero_le _)) (q2.cmpOk hc2 (nD _ (by show h.size < h0.size; omega)) (nD _ (by omega)) (fun i b hb => nD b (by have := q.ns.lt hb; omega))) (fun y hy => by rw [← hL] at hy; have := lrn_mem hy; omega) (by rw [← hL]; exact lrn_pair S _) hl fun ys h3 pys wys o3 k3 => ?_
  have ly := pys.length_eq
  have e13 : Ext h0 h3 := by
    cases hbk : s.blk with
    | none => rw [hbk] at k3; exact e12.trans k3
    | some b => rw [hbk] at k3; exact e12.fresh (bs b hbk).1 k3
  have m3 := m2.keep k3 fun e => by have := bs _ e.symm; omega
  have ed : Int.tdiv (most0 most) 2 = ((most0 most).toNat / 2 : Nat) := by
    rw [Int.tdiv_eq_ediv_of_nonneg hm0]; omega
  rw [hm1, ed, osl, w64 (n := (((most0 most).toNat / 2 : Nat) : Int)) (by omega) (by omega), w64 (by omega) (by omega)]
  have hcut : ((L.length : Int) - ((most0 most).toNat / 2 : Nat)) = ((L.length - (most0 most).toNat / 2 : Nat) : Int) := by omega
  rw [hcut]
  refine o3.r.take (by omega) (by omega) fun s' r4 hsb _ _ => ?_
  rw [Int.toNat_natCast] at r4
  generalize L.length - (most0 most).toNat / 2 = G at *
  have rl := r4.len
  have tl : (ys.take G).length ≤ ys.length := by rw [List.length_take]; omega
  refine loop.inv (fun (t : Int) h4 => ∃ j : Nat, t = (j : Int) ∧ j ≤ (ys.take G).length ∧ MPg Value.bool h4 h1.size (fun k => if k ∈ (ys.take G).take j then some true else none) ∧ Keep (some h1.size) h3 h4) (fun t _ => (ys.take G).length - t.toNat)
    ⟨0, rfl, by omega, m3.same (by simp), Keep.refl _ _⟩ ?_
  rintro t h4 ⟨j, rfl, hj, m4, k4⟩
  have r4' : RJ h4 s' (ys.take G) := by
    refine r4.keep k4 fun a ha e => ?_
    have : s.blk = some a.block := by rw [← hsb]; unfold Sl.blk; rw [ha]; rfl
    have := bs _ this
    have e := Option.some.inj e
    omega
  refine ⟨fun hlt => ?_, fun hge => ?_⟩
  · have hlt := of_decide_eq_true hlt
    refine RJ.ld r4' (j := j) rfl (by omega) ?_
    refine m4.set fun h5 m5 k5 _ => ?_
    rw [w64 (by omega) (by omega)]
    refine ⟨⟨j + 1, by omega, by omega, m5.same fun k => ?_, k4.trans k5⟩, by omega⟩
    rw [List.take_succ_eq_append_getElem (by omega), at_get (by omega)]
    by_cases e : k = (ys.take G)[j]
    · rw [if_pos e, if_pos (by rw [e]; simp)]
    · rw [if_neg e]
      have : (k ∈ (ys.take G).take j ++ [(ys.take G)[j]]) ↔ k ∈ (ys.take G).take j := by simp only [List.mem_append, List.mem_singleton, e, or_false]
      by_cases hm : k ∈ (ys.take G).take j
      · rw [if_pos hm, if_pos (this.2 hm)]
      · rw [if_neg hm, if_neg (fun h => hm (this.1 h))]
  · have hge := of_decide_eq_false hge
    have : j = (ys.take G).length := by omega
    subst this
    rw [List.take_length] at m4
    refine K1 (by omega) h1.size ys h4 pys wys m4 ?_ (by omega)
    exact (e0.trans e13).fresh (by omega) k4
end Go.Sh
