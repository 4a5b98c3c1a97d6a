/-
  Laws that the proof of this claim's statement leans on, each proved under the conditions that it states.
-/
import Derived.Test.YtmcfhickfcmkkaaGreatDoorSpS
set_option linter.unusedVariables false
set_option linter.unusedSimpArgs false
namespace Go.Sh
open Go Go.Lift
structure RS {α : Type} (toC : α → List Value) (sz : Nat) (h : Heap) (s : Sl) (xs : List α) : Prop where
  len : s.len = xs.length
  cells : ∀ i (hi : i < xs.length), ∃ a, s.a = some a ∧ cells? h (a.add (i * sz)) sz 0 = some (toC xs[i])
theorem aO {h h' : Heap} (e : Ext h h') {a : Addr} : ∀ {n i : Nat} {l : List Value}, cells? h a n i = some l → cells? h' a n i = some l := by
  intro n
  induction n with
  | zero => intro i l h; simpa [cells?] using h
  | succ n ih =>
    intro i l h
    simp only [cells?] at h ⊢
    split at h
    · rename_i v r h1 h2
      simp only [Option.some.injEq] at h; subst h
      rw [ao e h1 (by simp), ih h2]
    · cases h
theorem RS.ext {α : Type} {toC : α → List Value} {sz : Nat} {h h' : Heap} {s : Sl} {xs : List α} (hr : RS toC sz h s xs) (e : Ext h h') : RS toC sz h' s xs :=
  ⟨hr.len, fun i hi => by obtain ⟨a, ha, hc⟩ := hr.cells i hi; exact ⟨a, ha, aO e hc⟩⟩
theorem ahH {h : Heap} {cs : List Value} {T : Nat} {n : Nat} : ∀ {m i : Nat}, i + m = n → n ≤ cs.length → cells? (h.push (.cells cs.toArray T (0, 0))) ⟨h.size, 0, none⟩ m i = some ((cs.take n).drop i) := by
  intro m
  induction m with
  | zero => intro i hi hn; simp only [cells?]; rw [List.drop_eq_nil_of_le]; simp; omega
  | succ m ih =>
    intro i hi hn
    have hlt : i < cs.length := by omega
    simp only [cells?]
    rw [cO, ih (i := i + 1) (by omega) hn]
    have h1 : cs.toArray[i]? = some cs[i] := by simp [hlt]
    rw [h1]
    have hlt2 : i < (cs.take n).length := by simp; omega
    rw [List.drop_eq_getElem_cons hlt2]
    simp
theorem fd (q : Rat) (n : Int) (d : Nat) (h1 : q.num = n) (h2 : q.den = d) : q.num = n ∧ q.den = d := ⟨h1, h2⟩
end Go.Sh

namespace Go.Sh
open Go Go.Lift
theorem aaL (q : Rat) : val' false q = q := rfl
end Go.Sh

namespace Go.Sh
open Go Go.Lift
theorem m9 (n : Int) : ((n : Rat)).num = n := Rat.num_intCast n
theorem afx (n : Int) : ((n : Rat)).den = 1 := Rat.den_intCast n
theorem ah5 (n : Int) : dn (n : Rat) = 0 := by unfold dn; rw [afx]; rfl
theorem al5 {n : Nat} (h : n < 18446744073709551616) : nl n ≤ 2 := by rw [tf]; exact h
theorem alL {n : Int} (h : n.natAbs < 18446744073709551616) : szQ (n : Rat) ≤ 2 := by
  unfold szQ
  rw [ah5, m9, nF]
  have := al5 h
  omega
theorem OfQ {n : Int} {h : Heap} {Q : (Bool × Sl × Sl) → Heap → Prop} (h1 : -9223372036854775808 ≤ n) (h2 : n ≤ 9223372036854775807) (K : ∀ r h', RQ h' r (n : Rat) → Fr h r → Ext h h' → Q r h') : ti n h Q := by
  refine ak fun h3 e3 => ?_
  rintro _ rfl
  refine seq.cut (fun t h4 => t = (n.natAbs : Int) ∧ h4 = h3) ?_ ?_
  · refine ⟨fun hn => ?_, fun hn => ?_⟩
    · simp only [decide_eq_true_eq] at hn
      rintro _ rfl
      refine ⟨?_, rfl⟩
      rw [aeG, aeG]; omega
    · simp only [decide_eq_false_iff_not] at hn
      exact ⟨by rw [wu64 (by omega) (by omega)]; omega, rfl⟩
  · rintro t h4 ⟨rfl, rfl⟩
    refine abV (m := n.natAbs) rfl (by omega) fun r h5 hr e5 hf => ?_
    refine K _ h5 ⟨?_, ?_, ?_⟩ ⟨fun b hb => ?_, fun b hb => (by cases hb)⟩ (e3.trans e5)
    · rw [m9]; exact hr
    · rw [ah5]; exact NN.nil
    · rw [m9]
    · have := (hf b hb).1; have := e3.size; omega
def NVF (a : Nat) (h : Heap) (s : Sl) (n : Nat) : Prop := ∃ xs, RI .u32 h s xs ∧ Lim 4294967296 xs ∧ val 4294967296 xs = n ∧ xs.length ≤ 1048576 ∧ (s.blk = some a → xs = [])
end Go.Sh

namespace Go.Sh
open Go Go.Lift
theorem cG {v : Value} {h : Heap} {k : Addr → Heap → Prop} (K : ∀ a h', cell? h' a = some v → a.block = h.size → a.spot = none → frozen? h' a = false → Ext h h' → h'.size = h.size + 1 → k a h') : new [v] h k := by
  intro T
  refine K _ _ ?_ rfl rfl ?_ (Ext.push _ _) (by simp)
  · unfold cell?; simp
  · unfold frozen?; simp
end Go.Sh

namespace Go.Sh
open Go Go.Lift
end Go.Sh

namespace Go.Sh
open Go Go.Lift
theorem acy {h : Heap} {x y : Bool × Sl × Sl} {p q : Rat} {Q : Int → Heap → Prop} (hx : RQ h x p) (hy : RQ h y q) (hsz : szQ p + szQ q ≤ 3000) (h0 : 0 < h.size)
    (K : ∀ h', Ext h h' → Q (cmpR p q) h') : j6 x y h Q :=
  adI hx hy hsz h0 fun h' e => by rw [alh]; exact K h' e
structure BV (h0 : Heap) (c a : Addr) (lim : Nat) (h : Heap) : Prop where
  tab : Tab h0
  var : cell? h c = some (.pointer (some a))
  ne : c.block ≠ a.block
  bench : Bench h a lim false
  ext : Ext h0 h
  old : h0.size ≤ a.block
section
variable {h0 h : Heap} {c a : Addr} {lim : Nat} {x y : Bool × Sl × Sl} {p q : Rat} {Q : (Bool × Sl × Sl) → Heap → Prop}
end
end Go.Sh
