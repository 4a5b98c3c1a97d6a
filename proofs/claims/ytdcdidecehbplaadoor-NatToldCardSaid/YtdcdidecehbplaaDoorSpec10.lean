/- Laws that the proof of this claim's statement leans on, each proved under the conditions that it states. -/
import Derived.Test.YtdcdidecehbplaaDoorSpec9
set_option linter.unusedVariables false
set_option linter.unusedSimpArgs false
namespace Go.Sh
open Go Go.Lift

theorem bytes_beq (s : ByteArray) : (s.toList == s.toList) = true := by simp

theorem speaks_spec {h : Heap} {Q : Bool → Heap → Prop} (K : ∀ h', Ext h h' → Q true h') : law01uspeaks h Q := by
  unfold law01uspeaks
  refine New_spec fun a h1 hb1 hab he1 => ?_
  have nv01 : ∀ {h : Heap} {s : Sl}, RI .u32 h s [0, 1] → NV h s 4294967296 := fun hr => ⟨_, hr, by intro z hz; simp at hz; omega, by simp [val], by simp⟩
  refine newN (kd := .u32) (ms := [0, 1]) rfl fun h2 ho2 he2 hs2 => ?_
  refine newN (kd := .u32) (ms := [0, 1]) rfl fun h3 ho3 he3 hs3 => ?_
  refine Mul_spec ((hb1.ext he2).ext he3) (nv01 (ho2.r.ext he3)) (nv01 ho3.r) (by simp) (by simp) fun r h4 hb4 hk4 hf4 ht4 hr4 => ?_
  have hd : decide (max (Int.toNat 2) 1 < nl (4294967296 * 4294967296)) = true := by
    have : ¬ nl (4294967296 * 4294967296) ≤ 2 := by rw [nl_le_iff]; decide
    simp only [decide_eq_true_eq]
    have : max (Int.toNat 2) 1 = 2 := rfl
    omega
  rw [hd] at hb4 hf4 ht4
  have hr := ht4 rfl
  subst hr
  have hext : Ext h h4 := (he1.trans (he2.trans he3)).fresh (by omega) hk4
  refine seq.dup (Over_spec hb4 ⟨fun _ => ⟨fun _ => ?_, fun hc => absurd hc (by decide)⟩, nofun⟩)
  refine Of_spec (m := 4294967296) rfl (by decide) fun v h5 hv he5 _ => ?_
  have hnl : nl 4294967296 ≤ 2 := nl_le_iff.2 (by decide)
  refine Text_spec hv.nv (by rw [hv.nl]; omega) fun h6 ds hl hn hval he6 => ?_
  have hds : ds = [6, 9, 2, 7, 6, 9, 4, 9, 2, 4] := val_inj (b := 10) (by decide) hl (by intro z hz; simp at hz; omega) hn (by simp [Nrm]) (by rw [hval]; rfl)
  subst hds
  have : (bytesOf (strDig [6, 9, 2, 7, 6, 9, 4, 9, 2, 4])) = ByteArray.mk #[52, 50, 57, 52, 57, 54, 55, 50, 57, 54] := rfl
  rw [this, bytes_beq]
  exact K _ ((hext.trans he5).trans he6)

theorem great_spec {l : Sl} {ls : List Sl} {h : Heap} {Q : Bool → Heap → Prop} (hr : R Sl.toV h l ls) (hl : ls.length ≤ 1048576) (K : Q (ls.any fun s => decide (12 < s.len)) h) : law01ugreat l h Q := by
  unfold law01ugreat
  have ll := hr.len
  refine loop.inv (fun s h' => h' = h ∧ ∃ i : Nat, s = (i : Int) ∧ i ≤ ls.length ∧ (ls.take i).any (fun s => decide (12 < s.len)) = false) (fun s _ => ls.length - s.toNat) ⟨rfl, 0, rfl, by omega, rfl⟩ ?_
  rintro s h' ⟨rfl, i, rfl, hi, ht⟩
  refine ⟨fun hlt => ?_, fun hge => ?_⟩
  · simp only [decide_eq_true_eq] at hlt
    have h1 : i < ls.length := by omega
    refine hr.load (by omega) (by omega) ?_
    simp only [Int.toNat_natCast]
    refine ⟨fun hg => ?_, fun hg => ?_⟩
    · have : (ls.any fun s => decide (12 < s.len)) = true := List.any_eq_true.2 ⟨ls[i], List.getElem_mem h1, by simp at hg ⊢; omega⟩
      rw [this] at K; exact K
    · rw [w64 (by omega) (by omega)]
      have hg' : ¬ 12 < ls[i].len := by simp only [gt_iff_lt, decide_eq_false_iff_not] at hg; omega
      refine ⟨⟨trivial, i + 1, by omega, by omega, ?_⟩, by omega⟩
      rw [List.take_succ_eq_append_getElem h1, List.any_append, ht]
      simp; omega
  · simp only [decide_eq_false_iff_not] at hge
    rw [List.take_of_length_le (by omega)] at ht
    rw [ht] at K; exact K

/-- append of one thing that has just been made. -/
theorem app1v {α : Type} {toV : α → Value} {bytes B : Nat} {y : α} {h : Heap} {s : Sl} {xs : List α} {k : Sl → Heap → Prop} (ho : Own toV B h s xs) (hone : ∀ x : α, one (toV x) = true) (hB : B ≤ h.size) (hb : (xs.length + 1) * bytes ≤ 2 ^ 46)
    (K : ∀ s' h', Own toV B h' s' (xs ++ [y]) → Keep s.blk h h' → k s' h') : new [toV y] h fun a h1 => appendS 1 bytes s (⟨some a, 1, 1⟩ : Sl) h1 k := by
  intro T
  have hn : Own toV h.size (h.push (.cells [toV y].toArray T (0, 0))) ⟨some ⟨h.size, 0, none⟩, 1, 1⟩ [y] := Own.new (toV := toV) (ys := [y]) (cs := [toV y]) rfl
  refine (ho.ext (Ext.push _ _)).append (by have := (Ext.push h (.cells [toV y].toArray T (0, 0))).size; omega) hn.r hone (by simpa using hb) fun s' h' ho' hk _ => K s' h' ho' ((Keep.of_ext (Ext.push _ _)).trans hk)
theorem Keep.ownv {α : Type} {toV : α → Value} {B : Nat} {h0 h h' : Heap} {s : Sl} {xs : List α} (he : Ext h0 h) (ho : Own toV B h s xs) (hB : h0.size ≤ B) (hk : Keep s.blk h h') : Ext h0 h' := by
  cases hb : s.blk with
  | none => rw [hb] at hk; exact he.trans hk
  | some b =>
    rw [hb] at hk
    exact he.fresh (by have := (ho.lt hb).1; omega) hk

theorem last_ld {x : Sl} {xs : List Nat} {h : Heap} {K : Bool → Heap → Prop} (hx : RI .u32 h x xs) (hl : xs.length ≤ 1048576) (K1 : K false h) : 
    nat_Right x h fun v_11 h0u12 =>
        iteB (((x.len : Nat) : Int) == 0) (
         K (!(v_11 == true)) h0u12
        ) (
         idxS x (IntKind.wrap .i64 (((x.len : Nat) : Int) - 1)) 1 fun a_3 =>
         Lift.load (Value.int .u32) a_3 h0u12 fun v_12 =>
         K (!(v_11 == (v_12 != 0))) h0u12
        ) := by
  have lx := hx.len
  refine Right_spec hx hl ⟨fun h0 => ?_, fun h0 => ?_⟩
  · simp only [beq_iff_eq] at h0
    have : xs = [] := List.eq_nil_of_length_eq_zero (by omega)
    subst this
    exact K1
  · simp only [beq_eq_false_iff_ne, ne_eq] at h0
    rw [w64 (by omega) (by omega)]
    refine RI.ld hx (j := xs.length - 1) (by omega) (by omega) ?_
    have h1 : xs.getLast? = some (xs[xs.length - 1]'(by omega)) := by
      rw [List.getLast?_eq_getElem?, List.getElem?_eq_getElem (by omega)]
    rw [h1]
    generalize xs[xs.length - 1]'(by omega) = z
    have : (!((some z != some 0) == (((z : Nat) : Int) != 0))) = false := by
      by_cases hz : z = 0
      · subst hz; rfl
      · have h2 : (some z != some 0) = true := by simpa using hz
        have h3 : (((z : Nat) : Int) != 0) = true := by simpa using hz
        rw [h2, h3]; rfl
    rw [this]; exact K1

end Go.Sh
