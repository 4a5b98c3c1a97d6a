/-
  Laws that the proof of this claim's statement leans on, each proved under the conditions that it states.
-/
import Derived.Test.YtafkahjfbiamlaaDoorSpL
import Derived.Test.YtafkahjfbiamlaaDoorFwF
set_option linter.unusedVariables false
set_option linter.unusedSimpArgs false
namespace Go.Sh
open Go Go.Lift

/-! ### Numbers with a delta -/
abbrev X3 := Bool × Sl × Sl
abbrev X6 := Bool × Sl × Sl × Bool × Sl × Sl
abbrev dA (x : X6) : X3 := (x.1, x.2.1, x.2.2.1)
abbrev dB (x : X6) : X3 := (x.2.2.2.1, x.2.2.2.2.1, x.2.2.2.2.2)
abbrev d0 : X6 := (false, Sl.nil, Sl.nil, false, Sl.nil, Sl.nil)
structure DQ (h : Heap) (x : X6) (p : Rat × Rat) : Prop where
  a : RQ h (dA x) p.1
  b : RQ h (dB x) p.2
structure DF (k : Nat) (h : Heap) (x : X6) (p : Rat × Rat) : Prop where
  a : RF k h (dA x) p.1
  b : RF k h (dB x) p.2
structure DD (h : Heap) (x : X6) (p : Rat × Rat) : Prop where
  a : RD h (dA x) p.1
  b : RD h (dB x) p.2
section
variable {h h' : Heap} {x : X6} {p : Rat × Rat} {k : Nat}
theorem DQ.ext (hx : DQ h x p) (e : Ext h h') : DQ h' x p := ⟨hx.a.ext e, hx.b.ext e⟩
theorem DF.ext (hx : DF k h x p) (e : Ext h h') : DF k h' x p := ⟨hx.a.ext e, hx.b.ext e⟩
theorem DD.ext (hx : DD h x p) (e : Ext h h') : DD h' x p := ⟨hx.a.ext e, hx.b.ext e⟩
theorem DF.keep (hx : DF k h x p) (e : Keep (some k) h h') : DF k h' x p := ⟨hx.a.keep e, hx.b.keep e⟩
theorem DQ.zero : DQ h d0 (0, 0) := ⟨RQ.zero, RQ.zero⟩
theorem DF.zero : DF k h d0 (0, 0) := ⟨RF.zero, RF.zero⟩
end
def szD (p : Rat × Rat) : Nat := max (szQ p.1) (szQ p.2)
section
variable {a : Addr} {lim : Nat} {ov : Bool} {h : Heap}
variable {x y : X6} {p q : Rat × Rat} {Q : X6 → Heap → Prop}
end

section
variable {h : Heap} {x y : X6} {p q : Rat × Rat}
theorem SameE_spec {Q : Bool → Heap → Prop} (hx : DQ h x p) (hy : DQ h y q) (K : ∀ h', Ext h h' → Q (decide (p = q)) h') : ref03uSame x y h Q := by
  have key : (p = q) ↔ p.1 = q.1 ∧ p.2 = q.2 := Prod.ext_iff
  refine mem_ext fun h1 e1 => seq.cut (fun t h2 => t = decide (p = q) ∧ Ext h1 h2) ?_ ?_
  · refine SameQ_spec (hx.ext e1).a (hy.ext e1).a fun h2 e2 => ⟨fun hs => ?_, fun hs => ?_⟩
    · simp only [decide_eq_true_eq] at hs
      refine SameQ_spec ((hx.ext e1).ext e2).b ((hy.ext e1).ext e2).b fun h3 e3 => ⟨?_, e2.trans e3⟩
      rw [decide_eq_decide, key]; exact ⟨fun h => ⟨hs, h⟩, fun h => h.2⟩
    · simp only [decide_eq_false_iff_not] at hs
      refine ⟨?_, e2⟩
      symm; rw [decide_eq_false_iff_not, key]; exact fun h => hs h.1
  · rintro t h2 ⟨rfl, e2⟩
    exact K h2 (e1.trans e2)

end
end Go.Sh

namespace Go.Sh
open Go Go.Lift

def Raw3 (h : Heap) (x : X3) : Prop := ∃ xs ys, XR h x xs ys
def Raw6 (h : Heap) (x : X6) : Prop := Raw3 h (dA x) ∧ Raw3 h (dB x)
theorem Raw3.nil {h : Heap} : Raw3 h (false, Sl.nil, Sl.nil) := ⟨[], [], R.nil, Lim.nil, R.nil, Lim.nil⟩
abbrev RR6 := RS C_bool_sl_sl_bool_sl_sl 6
/-- A right one, of few limbs. -/
def Sm (h : Heap) (x : X6) : Prop := ∃ p, DQ h x p ∧ szD p ≤ 6
theorem Odd_spec {h0 h : Heap} {l : Sl} {xs : List X6} {Q : Bool → Heap → Prop} (hl : RR6 h l xs) (e0 : Ext h0 h) (hx : xs.length ≤ 2200000) (hraw : ∀ x ∈ xs, Raw6 h0 x)
    (K : ∀ b h', (b = false → ∀ x ∈ xs, Sm h0 x) → Ext h h' → Q b h') : law03uOdd l h Q := by
  have hlen := hl.len
  refine loop.inv (fun t h' => ∃ i : Nat, t = (i : Int) ∧ i ≤ xs.length ∧ (∀ x ∈ xs.take i, Sm h0 x) ∧ Ext h h') (fun t _ => xs.length - t.toNat) ⟨0, rfl, by omega, fun x hx => by simp at hx, Keep.refl _ _⟩ ?_
  rintro t h1 ⟨i, rfl, hi, hall, e1⟩
  refine ⟨fun hlt => ?_, fun hge => ?_⟩
  · simp only [decide_eq_true_eq] at hlt
    have hi' : i < xs.length := by omega
    refine RS.ld (hl.ext e1) (j := i) rfl hi' (mem_ext fun h2 e2 => ?_)
    obtain ⟨⟨xa, xb, hA⟩, ⟨ya, yb, hB⟩⟩ := hraw _ (List.getElem_mem hi')
    generalize hxi : xs[i] = x at *
    have e02 := e0.trans (e1.trans e2)
    refine seq.cut (fun t h3 => (t = false → Sm h0 x) ∧ Ext h2 h3) ?_ ?_
    · refine great2Q (x := dA x) (y := dB x) fun h3 e3 => ⟨fun _ => ⟨nofun, e3⟩, fun hb => ?_⟩
      simp only [Bool.or_eq_false_iff] at hb
      refine mem_ext fun h4 e4 => ?_
      have e24 := e3.trans e4
      refine seq.cut (fun t h5 => (t = true → Sm h0 x) ∧ Ext h2 h5) ?_ ?_
      · refine right6 hA hb.1 (e02.trans e24) fun b h5 hb5 e5 => ⟨fun hbt => ?_, fun _ => ⟨nofun, e24.trans e5⟩⟩
        refine right6 hB hb.2 (e02.trans (e24.trans e5)) fun b' h6 hb6 e6 => ⟨fun hbt' => ?_, e24.trans (e5.trans e6)⟩
        obtain ⟨p, hp, sp⟩ := hb5 hbt
        obtain ⟨q, hq, sq⟩ := hb6 hbt'
        exact ⟨(p, q), ⟨hp, hq⟩, by unfold szD; simp only; omega⟩
      · rintro t h5 ⟨ht, e5⟩
        exact ⟨fun hf => ht (by simpa using hf), e5⟩
    · rintro t h3 ⟨ht, e3⟩
      have e13 := e1.trans (e2.trans e3)
      refine ⟨fun _ => K true h3 nofun e13, fun hf => ?_⟩
      rw [w64 (by omega) (by omega)]
      refine ⟨⟨i + 1, rfl, by omega, ?_, e13⟩, by omega⟩
      intro z hz
      rw [List.take_succ_eq_append_getElem hi', hxi] at hz
      rcases List.mem_append.1 hz with hz | hz
      · exact hall z hz
      · rw [List.mem_singleton.1 hz]; exact ht hf
  · simp only [decide_eq_false_iff_not] at hge
    rw [List.take_of_length_le (by omega)] at hall
    exact K false h1 (fun _ => hall) e1

end Go.Sh

namespace Go.Sh
open Go Go.Lift
abbrev shQ : Shape := .cat (.cat .bool (.cat (.slice (.int .u32)) .nil)) (.cat (.slice (.int .u32)) .nil)
abbrev shD : Shape := .cat shQ (.cat shQ .nil)
def RawN (h : Heap) (s : Sl) : Prop := ∃ xs, RI .u32 h s xs ∧ Lim 4294967296 xs
theorem is_n {h : Heap} {cs : List Value} (H : (Shape.slice (.int .u32)).Is h cs) : ∃ s : Sl, cs = [Sl.toV s] ∧ RawN h s := by
  obtain ⟨s, xs, h1, h2, h3⟩ := is_u32 H
  exact ⟨s, h1, xs, h2, h3⟩
theorem is_q {h : Heap} {cs : List Value} (H : shQ.Is h cs) : ∃ x : X3, cs = C_bool_sl_sl x ∧ Raw3 h x := by
  obtain ⟨l, r, rfl, ⟨l1, r1, rfl, ⟨b, rfl⟩, l2, r2, rfl, h2, rfl⟩, l3, r3, rfl, h3, rfl⟩ := H
  obtain ⟨s, xs, rfl, h4, h5⟩ := is_u32 h2
  obtain ⟨t, ys, rfl, h6, h7⟩ := is_u32 h3
  exact ⟨(b, s, t), rfl, xs, ys, h4, h5, h6, h7⟩
theorem is_d {h : Heap} {cs : List Value} (H : shD.Is h cs) : ∃ x : X6, cs = C_bool_sl_sl_bool_sl_sl x ∧ Raw6 h x := by
  obtain ⟨l, r, rfl, h1, l2, r2, rfl, h2, rfl⟩ := H
  obtain ⟨x, rfl, h3⟩ := is_q h1
  obtain ⟨y, rfl, h4⟩ := is_q h2
  exact ⟨(x.1, x.2.1, x.2.2, y.1, y.2.1, y.2.2), rfl, h3, h4⟩
end Go.Sh
