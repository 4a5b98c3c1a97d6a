/-
  Laws that the proof of this claim's statement leans on, each proved under the conditions that it states.
-/
import Derived.Test.YtdcdidecehbplaaDoorSpR
set_option linter.unusedVariables false
set_option linter.unusedSimpArgs false
namespace Go.Sh
open Go Go.Lift

/-! ### Digits of a number, and its text -/
def dg (n : Nat) : List Nat := if h : n = 0 then [] else n % 10 :: dg (n / 10)
termination_by n
decreasing_by omega
theorem dg_zero : dg 0 = [] := by rw [dg]; simp
theorem dg_pos {n : Nat} (h : n ≠ 0) : dg n = n % 10 :: dg (n / 10) := by rw [dg]; simp [h]
theorem dg_spec (n : Nat) : Lim 10 (dg n) ∧ Nrm (dg n) ∧ val 10 (dg n) = n := by
  induction n using Nat.strongRecOn with
  | _ n ih =>
    by_cases h : n = 0
    · subst h; rw [dg_zero]; exact ⟨Lim.nil, Nrm.nil, rfl⟩
    · obtain ⟨h1, h2, h3⟩ := ih (n / 10) (by omega)
      rw [dg_pos h]
      refine ⟨?_, ?_, ?_⟩
      · intro z hz
        rcases List.mem_cons.1 hz with rfl | hz
        · omega
        · exact h1 z hz
      · unfold Nrm at h2 ⊢
        cases hd : dg (n / 10) with
        | nil =>
          rw [hd] at h3
          simp [val] at h3
          simp; omega
        | cons a l => rw [hd] at h2; rw [List.getLast?_cons_cons]; exact h2
      · simp only [val, h3]; omega
theorem dg_eq {ds : List Nat} {n : Nat} (h1 : Lim 10 ds) (h2 : Nrm ds) (h3 : val 10 ds = n) : ds = dg n := by
  obtain ⟨k1, k2, k3⟩ := dg_spec n
  exact val_inj (b := 10) (by decide) h1 k1 h2 k2 (by rw [h3, k3])
/-- A number's text. -/
def tN (n : Nat) : ByteArray := bytesOf (strDig (dg n))
theorem bytesOf_size (l : List Int) : (bytesOf l).size = l.length := by
  have : ∀ (l : List Int) (b : ByteArray), (l.foldl (fun r n => r.push (UInt8.ofNat n.toNat)) b).size = b.size + l.length := by
    intro l
    induction l with
    | nil => intro b; simp
    | cons x l ih => intro b; simp only [List.foldl_cons, ih, List.length_cons, ByteArray.size_push]; omega
  unfold bytesOf
  rw [this]; simp
theorem tN_size {n k : Nat} (h : nl n ≤ k) : (tN n).size ≤ 10 * k + 1 := by
  unfold tN
  rw [bytesOf_size]
  obtain ⟨h1, h2, h3⟩ := dg_spec n
  have : (dg n).length ≤ 10 * k := len_le_of_val (b := 10) (by decide) h2 (by rw [h3]; exact pow_bound h)
  unfold strDig
  split
  · simp
  · simp; omega

theorem TextN_spec {x : Sl} {n : Nat} {h : Heap} {Q : ByteArray → Heap → Prop} (hx : NN h x n) (hn : nl n ≤ 30000) (K : ∀ h', Ext h h' → Q (tN n) h') : nat_Text x h Q :=
  Text_spec hx.nv (by rw [hx.nl]; exact hn) fun h' ds h1 h2 h3 e => by
    have := dg_eq h1 h2 h3
    subst this
    exact K h' e
theorem TextD_spec {x : Sl} {n : Nat} {h : Heap} {Q : ByteArray → Heap → Prop} (hx : DN h x n) (hn : nl n ≤ 30000) (K : ∀ h', Ext h h' → Q (tN n) h') : ref01uText x h Q := by
  have hl := hx.len_nl hn
  obtain ⟨xs, x1, x2, x3, x4⟩ := hx
  have lx := x1.len
  refine Text10uspec x1 x2 (by omega) fun h' e => ?_
  have := dg_eq x2 x3 x4
  subst this
  exact K h' e

def tQ (q : Rat) : ByteArray := (if q.num < 0 then ByteArray.mk #[45] ++ tN q.num.natAbs else tN q.num.natAbs) ++ (if q.den = 1 then ByteArray.empty else ByteArray.mk #[47] ++ tN q.den)
def tM (q : Rat) : ByteArray :=
  let s := tN q.num.natAbs ++ ByteArray.mk #[46, 48]
  let s := if q.den = 1 then s else ByteArray.mk #[40, 47, 32] ++ s ++ ByteArray.mk #[32] ++ tN q.den ++ ByteArray.mk #[46, 48, 41]
  if q.num < 0 then ByteArray.mk #[40, 45, 32] ++ s ++ ByteArray.mk #[41] else s
theorem append_empty (a : ByteArray) : a ++ ByteArray.empty = a := by simp

section
variable {h : Heap} {x : Bool × Sl × Sl} {q : Rat} {Q : ByteArray → Heap → Prop}
theorem dn_pos (hx : RQ h x q) : (((x.2.2.len : Nat) : Int) > 0) ↔ q.den ≠ 1 := by
  have := hx.den.len_zero
  unfold dn at this
  constructor
  · intro h1 h2; rw [if_pos h2] at this; have := this.2 rfl; omega
  · intro h1; rw [if_neg h1] at this
    have : x.2.2.len ≠ 0 := fun h => q.den_nz (this.1 h)
    omega
theorem TextQ_spec (hx : RQ h x q) (hs : szQ q ≤ 20000) (K : ∀ h', Ext h h' → Q (tQ q) h') : ratio_Text x h Q := by
  have n1 := nl_num_le q; have n3 := nl_den_le q
  have t1 := tN_size n1; have t2 := tN_size n3
  refine mem_ext fun h1 e1 => TextN_spec (hx.num.ext e1) (by omega) fun h2 e2 => ?_
  have e12 := e1.trans e2
  refine seq.cut (fun t h3 => t = (if q.num < 0 then ByteArray.mk #[45] ++ tN q.num.natAbs else tN q.num.natAbs) ∧ h3 = h2) ?_ ?_
  · rw [hx.neg]
    refine ⟨fun hn => ?_, fun hn => ?_⟩
    · simp only [decide_eq_true_eq] at hn
      refine ⟨?_, ?_⟩
      · have : (ByteArray.mk #[45]).size = 1 := rfl
        omega
      · rintro _ rfl; exact ⟨by rw [if_pos hn], rfl⟩
    · simp only [decide_eq_false_iff_not] at hn
      exact ⟨by rw [if_neg hn], rfl⟩
  · rintro t h3 ⟨rfl, rfl⟩
    refine seq.cut (fun t h4 => t = tQ q ∧ Ext h3 h4) ?_ ?_
    · have hsz : (if q.num < 0 then ByteArray.mk #[45] ++ tN q.num.natAbs else tN q.num.natAbs).size ≤ 10 * szQ q + 2 := by
        split
        · rw [ByteArray.size_append]; have : (ByteArray.mk #[45]).size = 1 := rfl; omega
        · omega
      refine ⟨fun hn => ?_, fun hn => ?_⟩
      · simp only [decide_eq_true_eq] at hn
        have hd := (dn_pos hx).1 hn
        have hden : dn q = q.den := by unfold dn; rw [if_neg hd]
        have D := hx.den.ext e12
        rw [hden] at D
        refine TextN_spec D (by omega) fun h4 e4 => ?_
        have s1 : (ByteArray.mk #[47]).size = 1 := rfl
        refine ⟨by omega, ?_, ?_⟩
        · rw [ByteArray.size_append (a := ByteArray.mk #[47])]; omega
        · rintro _ rfl
          refine ⟨?_, e4⟩
          unfold tQ; rw [if_neg hd]
      · simp only [decide_eq_false_iff_not] at hn
        have hd : q.den = 1 := Classical.byContradiction fun h => hn ((dn_pos hx).2 h)
        refine ⟨?_, Keep.refl _ _⟩
        unfold tQ; rw [if_pos hd, append_empty]
    · rintro t h4 ⟨rfl, e4⟩
      exact K h4 (e12.trans e4)

theorem TextDQ_spec (hx : RD h x q) (hs : szQ q ≤ 2000) (K : ∀ h', Ext h h' → Q (tQ q) h') : ref02uText x h Q := by
  have n1 := nl_num_le q; have n3 := nl_den_le q
  have t1 := tN_size n1; have t2 := tN_size n3
  refine mem_ext fun h1 e1 => TextD_spec (hx.num.ext e1) (by omega) fun h2 e2 => ?_
  have e12 := e1.trans e2
  refine seq.cut (fun t h3 => t = (if q.num < 0 then ByteArray.mk #[45] ++ tN q.num.natAbs else tN q.num.natAbs) ∧ h3 = h2) ?_ ?_
  · rw [hx.neg]
    refine ⟨fun hn => ?_, fun hn => ?_⟩
    · simp only [decide_eq_true_eq] at hn
      refine ⟨?_, ?_⟩
      · have : (ByteArray.mk #[45]).size = 1 := rfl
        omega
      · rintro _ rfl; exact ⟨by rw [if_pos hn], rfl⟩
    · simp only [decide_eq_false_iff_not] at hn
      exact ⟨by rw [if_neg hn], rfl⟩
  · rintro t h3 ⟨rfl, rfl⟩
    have hsz : (if q.num < 0 then ByteArray.mk #[45] ++ tN q.num.natAbs else tN q.num.natAbs).size ≤ 10 * szQ q + 2 := by
      split
      · rw [ByteArray.size_append]; have : (ByteArray.mk #[45]).size = 1 := rfl; omega
      · omega
    have D := hx.den.ext e12
    have ld := D.len_nl n3
    refine seq.cut (fun t h4 => t = tQ q ∧ Ext h3 h4) ?_ ?_
    · refine seq.cut (fun b h4 => b = decide (q.den ≠ 1) ∧ h4 = h3) ?_ ?_
      · exact isOneD (K := fun b h4 => b = decide (q.den ≠ 1) ∧ h4 = h3) D (by omega) ⟨rfl, rfl⟩
      · rintro b h4 ⟨rfl, rfl⟩
        have s1 : (ByteArray.mk #[47]).size = 1 := rfl
        refine ⟨fun hd => ?_, fun hd => ?_⟩
        · simp only [decide_eq_true_eq] at hd
          refine ⟨by omega, TextD_spec D (by omega) fun h5 e5 => ⟨?_, ?_⟩⟩
          · rw [ByteArray.size_append]; omega
          · rintro _ rfl
            refine ⟨?_, e5⟩
            unfold tQ; rw [if_neg hd, ByteArray.append_assoc]
        · simp only [decide_eq_false_iff_not, Classical.not_not] at hd
          refine ⟨?_, Keep.refl _ _⟩
          unfold tQ; rw [if_pos hd, append_empty]
    · rintro t h4 ⟨rfl, e4⟩
      exact K h4 (e12.trans e4)

theorem TermQ_spec (hx : RQ h x q) (hs : szQ q ≤ 20000) (K : ∀ h', Ext h h' → Q (tM q) h') : ratio_Term x h Q := by
  have n1 := nl_num_le q; have n3 := nl_den_le q
  have t1 := tN_size n1; have t2 := tN_size n3
  have s0 : (ByteArray.mk #[46, 48]).size = 2 := rfl
  have s1 : (ByteArray.mk #[40, 47, 32]).size = 3 := rfl
  have s2 : (ByteArray.mk #[32]).size = 1 := rfl
  have s3 : (ByteArray.mk #[46, 48, 41]).size = 3 := rfl
  have s4 : (ByteArray.mk #[40, 45, 32]).size = 3 := rfl
  have s5 : (ByteArray.mk #[41]).size = 1 := rfl
  refine mem_ext fun h1 e1 => TextN_spec (hx.num.ext e1) (by omega) fun h2 e2 => ?_
  have e12 := e1.trans e2
  refine ⟨by omega, ?_⟩
  intro s hs0
  have hss : s.size = (tN q.num.natAbs).size + 2 := by rw [hs0, ByteArray.size_append, s0]
  refine seq.cut (fun t h3 => t = (if q.den = 1 then s else ByteArray.mk #[40, 47, 32] ++ s ++ ByteArray.mk #[32] ++ tN q.den ++ ByteArray.mk #[46, 48, 41]) ∧ Ext h2 h3) ?_ ?_
  · refine ⟨fun hn => ?_, fun hn => ?_⟩
    · simp only [decide_eq_true_eq] at hn
      have hd := (dn_pos hx).1 hn
      have hden : dn q = q.den := by unfold dn; rw [if_neg hd]
      have D := hx.den.ext e12
      rw [hden] at D
      refine ⟨by omega, by rw [ByteArray.size_append]; omega, TextN_spec D (by omega) fun h4 e4 => ⟨?_, ?_, ?_⟩⟩
      · simp only [ByteArray.size_append]; omega
      · simp only [ByteArray.size_append]; omega
      · rintro _ rfl
        exact ⟨by rw [if_neg hd], e4⟩
    · simp only [decide_eq_false_iff_not] at hn
      have hd : q.den = 1 := Classical.byContradiction fun h => hn ((dn_pos hx).2 h)
      exact ⟨by rw [if_pos hd], Keep.refl _ _⟩
  · rintro t h3 ⟨ht, e3⟩
    have hts : t.size ≤ 20 * szQ q + 30 := by
      rw [ht]; split
      · omega
      · simp only [ByteArray.size_append]; omega
    have fin : tM q = if q.num < 0 then ByteArray.mk #[40, 45, 32] ++ t ++ ByteArray.mk #[41] else t := by
      unfold tM; rw [ht, hs0]
    refine seq.cut (fun u h4 => u = tM q ∧ h4 = h3) ?_ ?_
    · rw [hx.neg, fin]
      refine ⟨fun hn => ?_, fun hn => ?_⟩
      · simp only [decide_eq_true_eq] at hn
        refine ⟨by omega, by rw [ByteArray.size_append]; omega, ?_⟩
        rintro _ rfl
        exact ⟨by rw [if_pos hn], rfl⟩
      · simp only [decide_eq_false_iff_not] at hn
        exact ⟨by rw [if_neg hn], rfl⟩
    · rintro u h4 ⟨rfl, rfl⟩
      exact K _ (e12.trans e3)
end

/-! ### Texts that are cut -/
theorem cs_append (a b : ByteArray) : cs (a ++ b) = cs a ++ cs b := by
  unfold cs; rw [ByteArray.data_append]; simp
theorem cs_extract (a : ByteArray) (i j : Nat) : cs (a.extract i j) = ((cs a).drop i).take (j - i) := by
  unfold cs
  rw [ByteArray.data_extract, Array.toList_extract, List.extract_eq_take_drop, List.map_take, List.map_drop]
theorem cs_empty : cs ByteArray.empty = [] := rfl
theorem size0uiff (s : ByteArray) : s.size = 0 ↔ cs s = [] := by
  rw [← cs_len s]; exact List.length_eq_zero_iff
theorem toList_beq (a b : ByteArray) : (a.toList == b.toList) = decide (cs a = cs b) := by
  rw [Bool.eq_iff_iff]
  simp only [beq_iff_eq, decide_eq_true_eq]
  rw [Lib.toList_data, Lib.toList_data]
  unfold cs
  constructor
  · intro h; rw [h]
  · intro h
    have inj : ∀ (l m : List UInt8), l.map (·.toNat) = m.map (·.toNat) → l = m := by
      intro l
      induction l with
      | nil => intro m h; cases m <;> simp_all
      | cons x l ih =>
        intro m h
        cases m with
        | nil => simp at h
        | cons y m =>
          simp only [List.map_cons, List.cons.injEq] at h
          rw [ih m h.2, UInt8.toNat_inj.1 h.1]
    exact inj _ _ h
theorem idx_first (l : List UInt8) (c : UInt8) : (Lib.indexByte l c = -1 ∧ ∀ x ∈ l, x ≠ c) ∨ ∃ p : Nat, Lib.indexByte l c = (p : Int) ∧ l[p]? = some c ∧ ∀ x ∈ l.take p, x ≠ c := by
  induction l with
  | nil => exact .inl ⟨rfl, fun x hx => by cases hx⟩
  | cons b l ih =>
    unfold Lib.indexByte
    by_cases hb : b = c
    · subst hb
      exact .inr ⟨0, by simp, by simp, fun x hx => by simp at hx⟩
    · rw [if_neg (by simpa using hb)]
      rcases ih with ⟨h1, h2⟩ | ⟨p, h1, h2, h3⟩
      · left
        rw [if_pos (by simp [h1])]
        exact ⟨rfl, fun x hx => by rcases List.mem_cons.1 hx with rfl | hx; exact hb; exact h2 x hx⟩
      · right
        refine ⟨p + 1, ?_, by simpa using h2, fun x hx => ?_⟩
        · rw [if_neg (by rw [h1]; simp), h1]; simp
        · rw [List.take_succ_cons] at hx
          rcases List.mem_cons.1 hx with rfl | hx
          · exact hb
          · exact h3 x hx

theorem cs_get {s : ByteArray} {i : Nat} {n : Nat} (h : (cs s)[i]? = some n) : ∃ b, s.data[i]? = some b ∧ b.toNat = n := by
  unfold cs at h
  rw [List.getElem?_map] at h
  cases hb : s.data.toList[i]? with
  | none => rw [hb] at h; cases h
  | some b =>
    rw [hb] at h
    simp only [Option.map_some, Option.some.injEq] at h
    exact ⟨b, by simpa using hb, h⟩
theorem slTo {s : ByteArray} {i : Int} {p : Nat} {k : ByteArray → Prop} (hi : i = (p : Int)) (hp : p ≤ s.size) (K : ∀ u, cs u = (cs s).take p → k u) : sliceStr s none (some i) k := by
  subst hi
  refine ⟨⟨by simp, by simp; omega⟩, ⟨by simp, by simp⟩, K _ ?_⟩
  rw [cs_extract]; simp
theorem slFrom {s : ByteArray} {i : Int} {p : Nat} {k : ByteArray → Prop} (hi : i = (p : Int)) (hp : p ≤ s.size) (K : ∀ u, cs u = (cs s).drop p → k u) : sliceStr s (some i) none k := by
  subst hi
  refine ⟨⟨by simp, by simp⟩, ⟨by simp, by simp; omega⟩, K _ ?_⟩
  rw [cs_extract]
  simp only [Option.getD_some, Option.getD_none, Int.toNat_natCast]
  apply List.take_of_length_le
  rw [List.length_drop, cs_len]
  exact Nat.le_refl _

/-- Where the first point stands in a text. -/
theorem cut_spec {s : ByteArray} {h : Heap} {Q : (ByteArray × ByteArray × Bool) → Heap → Prop} (hs : s.size < 1000000)
    (K1 : (∀ x ∈ cs s, x ≠ 46) → Q (s, ByteArray.mk #[], false) h)
    (K2 : ∀ (p : Nat) (u v : ByteArray), (cs s)[p]? = some 46 → (∀ x ∈ (cs s).take p, x ≠ 46) → cs u = (cs s).take p → cs v = (cs s).drop (p + 1) → Q (u, v, true) h) : strings_Cut s (ByteArray.mk #[46]) h Q := by
  unfold strings_Cut
  rintro _ rfl _ rfl
  unfold internal_stringslite_Cut
  rintro _ rfl _ rfl
  have s1 : (ByteArray.mk #[46]).size = 1 := rfl
  have hlen := cs_len s
  -- what comes behind the place
  have rest : ∀ p : Nat, (cs s)[p]? = some 46 → (∀ x ∈ (cs s).take p, x ≠ 46) → iteB (decide ((p : Int) ≥ 0)) (
       sliceStr s none (some (p : Int)) fun v_1 =>
       sliceStr s (some (IntKind.wrap .i64 ((p : Int) + (((ByteArray.mk #[46]).size : Nat) : Int)))) none fun v_2 =>
       Q (v_1, v_2, true) h) (Let ((ByteArray.mk #[]) : ByteArray) fun after_1 => Q (s, after_1, false) h) := by
    intro p hp hpre
    have hlt : p < (cs s).length := (List.getElem?_eq_some_iff.1 hp).1
    refine ⟨fun _ => ?_, fun hn => ?_⟩
    · refine slTo rfl (by omega) fun u hu => slFrom (p := p + 1) (by rw [s1, w64 (by omega) (by omega)]; omega) (by omega) fun v hv => K2 p u v hp hpre hu hv
    · simp only [ge_iff_le, decide_eq_false_iff_not] at hn; omega
  unfold internal_stringslite_Index
  rintro n rfl
  rw [s1]
  refine seq.cut (fun t h' => t = decide (cs s = [46]) ∧ h' = h) ?_ ?_
  · refine ⟨fun h0 => by simp at h0, fun _ => ⟨?_, rfl⟩⟩
    rw [toList_beq]
    have : cs (ByteArray.mk #[46]) = [46] := rfl
    rw [this, decide_eq_decide]
    exact ⟨fun h => h.symm, fun h => h.symm⟩
  rintro t h' ⟨rfl, rfl⟩
  refine ⟨fun he => ?_, fun _ => ?_⟩
  · simp only [decide_eq_true_eq] at he
    exact rest 0 (by rw [he]; rfl) (by intro x hx; simp at hx)
  · refine ⟨fun _ => ?_, fun h0 => by simp at h0⟩
    refine idxStr.at (j := 0) rfl (by show 0 < (cs (ByteArray.mk #[46])).length; decide) ?_
    have hc : (((cs (ByteArray.mk #[46]))[0]'(by decide) : Nat) : Int) = 46 := rfl
    rw [hc]
    unfold internal_stringslite_IndexByte extIndexByte
    have hb : (46 : Int).toNat.toUInt8 = 46 := rfl
    rw [hb]
    rcases idx_first s.data.toList 46 with ⟨h1, h2⟩ | ⟨p, h1, h2, h3⟩
    · rw [h1]
      refine ⟨fun h0 => by simp at h0, fun _ => ?_⟩
      rintro _ rfl
      refine K1 fun x hx => ?_
      unfold cs at hx
      obtain ⟨b, hb, rfl⟩ := List.mem_map.1 hx
      intro he
      exact h2 b hb (UInt8.toNat_inj.1 he)
    · rw [h1]
      refine rest p ?_ ?_
      · unfold cs; rw [List.getElem?_map, h2]; rfl
      · intro x hx
        unfold cs at hx
        rw [← List.map_take] at hx
        obtain ⟨b, hb, rfl⟩ := List.mem_map.1 hx
        intro he
        exact h3 b hb (UInt8.toNat_inj.1 he)

/-! ### Noughts -/
theorem and64 {p q : Nat} (hp : p < 18446744073709551616) (hq : q < 18446744073709551616) : ((BitVec.ofInt (IntKind.bits .u64) (p : Int) &&& BitVec.ofInt (IntKind.bits .u64) (q : Int)).toNat : Int) = ((p &&& q : Nat) : Int) := by
  have e1 : ∀ k : Nat, k < 18446744073709551616 → (BitVec.ofInt (IntKind.bits .u64) (k : Int)).toNat = k := by
    intro k hk
    show (BitVec.ofInt 64 (k : Int)).toNat = k
    rw [BitVec.ofInt_natCast, BitVec.toNat_ofNat]
    exact Nat.mod_eq_of_lt hk
  have : (BitVec.ofInt (IntKind.bits .u64) (p : Int) &&& BitVec.ofInt (IntKind.bits .u64) (q : Int)).toNat = p &&& q := by
    rw [BitVec.toNat_and, e1 p hp, e1 q hq]
  exact_mod_cast this
theorem fdiv32 (n : Nat) : Int.fdiv (n : Int) (2 ^ (min (Int.toNat 32) (IntKind.bits .u64))) = ((n / 4294967296 : Nat) : Int) := by
  show Int.fdiv (n : Int) 4294967296 = _
  rw [Int.fdiv_eq_ediv_of_nonneg _ (by omega)]
  omega
theorem mul1uspec {c : Nat} {h : Heap} {Q : (Int × Int) → Heap → Prop} (hc : c < 4294967296) (K : Q (0, (c : Int)) h) : math_bits_Mul 1 (c : Int) h Q := by
  unfold math_bits_Mul math_bits_Mul64
  have a1 : IntKind.wrap .u64 (((BitVec.ofInt (IntKind.bits .u64) 1 &&& BitVec.ofInt (IntKind.bits .u64) 4294967295).toNat : Int)) = 1 := rfl
  have a2 : Int.fdiv (1 : Int) (2 ^ (min (Int.toNat 32) (IntKind.bits .u64))) = 0 := rfl
  have a3 : IntKind.wrap .u64 (((BitVec.ofInt (IntKind.bits .u64) (c : Int) &&& BitVec.ofInt (IntKind.bits .u64) 4294967295).toNat : Int)) = (c : Int) := by
    have := and64 (p := c) (q := 4294967295) (by omega) (by decide)
    rw [show ((4294967295 : Int)) = ((4294967295 : Nat) : Int) from rfl, this]
    have h2 : c &&& 4294967295 = c := by
      have := Nat.and_two_pow_sub_one_eq_mod c 32
      have e : (2 : Nat) ^ 32 - 1 = 4294967295 := rfl
      rw [e] at this
      rw [this]; exact Nat.mod_eq_of_lt hc
    rw [h2, wu64 (by omega) (by omega)]
  have a4 : Int.fdiv (c : Int) (2 ^ (min (Int.toNat 32) (IntKind.bits .u64))) = 0 := by
    rw [fdiv32, Nat.div_eq_of_lt hc]; rfl
  have a5 : IntKind.wrap .u64 (1 * (c : Int)) = (c : Int) := by rw [Int.one_mul, wu64 (by omega) (by omega)]
  have a6 : IntKind.wrap .u64 (0 * (c : Int)) = 0 := by rw [Int.zero_mul]; rfl
  have a7 : IntKind.wrap .u64 (((BitVec.ofInt (IntKind.bits .u64) 0 &&& BitVec.ofInt (IntKind.bits .u64) 4294967295).toNat : Int)) = 0 := rfl
  have a8 : Int.fdiv (0 : Int) (2 ^ (min (Int.toNat 32) (IntKind.bits .u64))) = 0 := rfl
  have a9 : IntKind.wrap .u64 (0 + 0 : Int) = 0 := rfl
  have b1 : IntKind.wrap .u64 (1 * 0 : Int) = 0 := rfl
  have b2 : IntKind.wrap .u64 (0 * 0 : Int) = 0 := rfl
  rintro x0 rfl x1 rfl y0 rfl y1 rfl w0 rfl t0 rfl w1 rfl w2 rfl w11 rfl hi rfl lo rfl
  simp only [a1, a2, a3, a4, a5, a6, a7, a8, a9, b1, b2]
  exact K

def z64 : ByteArray := ByteArray.mk #[48, 48, 48, 48, 48, 48, 48, 48, 48, 48, 48, 48, 48, 48, 48, 48, 48, 48, 48, 48, 48, 48, 48, 48, 48, 48, 48, 48, 48, 48, 48, 48, 48, 48, 48, 48, 48, 48, 48, 48, 48, 48, 48, 48, 48, 48, 48, 48, 48, 48, 48, 48, 48, 48, 48, 48, 48, 48, 48, 48, 48, 48, 48, 48]
theorem z64ucs : cs z64 = List.replicate 64 48 := by decide

theorem prefix_false {s p : ByteArray} {h : Heap} {Q : Bool → Heap → Prop} (hne : (cs s).take (cs p).length ≠ cs p) (K : Q false h) : strings_HasPrefix s p h Q := by
  unfold strings_HasPrefix internal_stringslite_HasPrefix
  have l1 := cs_len s
  have l2 := cs_len p
  refine seq.cut (fun t h' => t = false ∧ h' = h) ?_ ?_
  · refine ⟨fun hge => ?_, fun _ => ⟨rfl, rfl⟩⟩
    simp only [ge_iff_le, decide_eq_true_eq] at hge
    refine slTo rfl (by omega) fun u hu => ⟨?_, rfl⟩
    rw [toList_beq, decide_eq_false_iff_not, hu, ← l2]
    exact hne
  · rintro t h' ⟨rfl, rfl⟩; exact K
theorem prefix_true {s p : ByteArray} {h : Heap} {Q : Bool → Heap → Prop} (he : (cs s).take (cs p).length = cs p) (K : Q true h) : strings_HasPrefix s p h Q := by
  unfold strings_HasPrefix internal_stringslite_HasPrefix
  have l1 := cs_len s
  have l2 := cs_len p
  have hl : (cs p).length ≤ (cs s).length := by
    have := congrArg List.length he
    rw [List.length_take] at this; omega
  refine seq.cut (fun t h' => t = true ∧ h' = h) ?_ ?_
  · refine ⟨fun hge => ?_, fun hlt => ?_⟩
    · refine slTo rfl (by omega) fun u hu => ⟨?_, rfl⟩
      rw [toList_beq, decide_eq_true_eq, hu, ← l2]
      exact he
    · simp only [ge_iff_le, decide_eq_false_iff_not] at hlt; omega
  · rintro t h' ⟨rfl, rfl⟩; exact K

theorem repeat_spec {c : Nat} {h : Heap} {Q : ByteArray → Heap → Prop} (hc : c ≤ 64) (K : ∀ u, cs u = List.replicate c 48 → Q u h) : strings_Repeat (ByteArray.mk #[48]) (c : Int) h Q := by
  unfold strings_Repeat
  have s1 : (ByteArray.mk #[48]).size = 1 := rfl
  have c1 : cs (ByteArray.mk #[48]) = [48] := rfl
  refine ⟨fun h0 => ?_, fun h0 => ?_⟩
  · simp only [beq_iff_eq] at h0
    have : c = 0 := by omega
    subst this
    exact K _ rfl
  refine ⟨fun h1 => ?_, fun h1 => ?_⟩
  · simp only [beq_iff_eq] at h1
    have : c = 1 := by omega
    subst this
    exact K _ rfl
  simp only [beq_eq_false_iff_ne, ne_eq] at h0 h1
  refine seq.cut (fun _ h' => h' = h) ⟨fun hn => ?_, fun _ => rfl⟩ ?_
  · simp only [decide_eq_true_eq] at hn; omega
  rintro _ h' rfl
  rw [s1, wu64 (n := ((1 : Nat) : Int)) (by decide) (by decide), wu64 (n := (c : Int)) (by omega) (by omega)]
  refine mul1uspec (by omega) ?_
  refine seq.cut (fun _ h2 => h2 = h') ?_ ?_
  · refine seq.cut (fun t h2 => t = false ∧ h2 = h') ⟨fun hn => by simp at hn, fun _ => ⟨?_, rfl⟩⟩ ?_
    · simp only [gt_iff_lt, decide_eq_false_iff_not]; omega
    · rintro t h2 ⟨rfl, rfl⟩; exact ⟨nofun, fun _ => rfl⟩
  rintro _ h2 rfl
  rintro n rfl
  rw [w64 (n := ((0 : Int), (c : Int)).2) (by dsimp only; omega) (by dsimp only; omega)]
  refine ⟨fun hn => by simp at hn, fun _ => ?_⟩
  dsimp only
  refine seq.cut (fun _ _ => False) ?_ (fun _ _ h => h.elim)
  refine idxStr.at (j := 0) rfl (by rw [c1]; decide) ?_
  have hc0 : (((cs (ByteArray.mk #[48]))[0]'(by decide) : Nat) : Int) = 48 := rfl
  rw [hc0]
  refine seq.cut (fun t h3 => t = true ∧ h3 = h2) ?_ ?_
  · rintro _ rfl
    refine ⟨fun h => by simp at h, fun _ => ?_⟩
    rintro _ rfl
    refine ⟨fun h => by simp at h, fun _ => ?_⟩
    rintro _ rfl
    exact ⟨fun _ => ⟨rfl, rfl⟩, fun h => by simp at h⟩
  rintro t h3 ⟨rfl, rfl⟩
  refine ⟨fun _ => ?_, nofun⟩
  have np : ∀ {p : ByteArray} {J : Bool → Heap → Prop} {x : Nat} {r : List Nat} {b : Bool}, cs p = x :: r → x ≠ 48 → J false h3 → iteB b (strings_HasPrefix p (ByteArray.mk #[48]) h3 J) (J false h3) := by
    intro p J x r b hp hx hJ
    exact ⟨fun _ => prefix_false (by rw [hp, c1]; simpa using hx) hJ, fun _ => hJ⟩
  refine seq.cut (fun t h4 => t = false ∧ h4 = h3) (np (x := 32) (r := List.replicate 127 32) (by decide) (by decide) ⟨rfl, rfl⟩) ?_
  rintro t h4 ⟨rfl, rfl⟩
  refine ⟨nofun, fun _ => ?_⟩
  refine seq.cut (fun t h5 => t = false ∧ h5 = h4) (np (x := 45) (r := List.replicate 127 45) (by decide) (by decide) ⟨rfl, rfl⟩) ?_
  rintro t h5 ⟨rfl, rfl⟩
  refine ⟨nofun, fun _ => ?_⟩
  refine seq.cut (fun t h6 => t = true ∧ h6 = h5) ⟨fun _ => prefix_true (by decide) ⟨rfl, rfl⟩, fun hn => ?_⟩ ?_
  · simp only [decide_eq_false_iff_not] at hn; omega
  rintro t h6 ⟨rfl, rfl⟩
  refine ⟨fun _ => ?_, nofun⟩
  refine slTo (s := z64) rfl (by show c ≤ 64; omega) fun u hu => K u ?_
  rw [hu, z64ucs, List.take_replicate]
  congr 1
  omega
end Go.Sh

namespace Go.Sh
open Go Go.Lift

/-- A text tells n through 10 ^ k. -/
def isDec (c : List Nat) (n k : Nat) : Prop :=
  (digs c = true ∧ c ≠ [] ∧ n = dv c ∧ k = 0) ∨
  ∃ p, 0 < p ∧ p + 1 < c.length ∧ c[p]? = some 46 ∧ digs (c.take p) = true ∧ digs (c.drop (p + 1)) = true ∧ n = dv (c.take p ++ c.drop (p + 1)) ∧ k = c.length - (p + 1)
theorem digs_mem {c : List Nat} (h : digs c = true) : ∀ x ∈ c, 48 ≤ x ∧ x ≤ 57 := by
  unfold digs at h
  simp only [List.all_eq_true, Bool.and_eq_true, decide_eq_true_eq] at h
  exact h
theorem digs_of {c : List Nat} (h : ∀ x ∈ c, 48 ≤ x ∧ x ≤ 57) : digs c = true := by
  unfold digs
  simp only [List.all_eq_true, Bool.and_eq_true, decide_eq_true_eq]
  exact h
theorem digs_append {a b : List Nat} : digs (a ++ b) = true ↔ digs a = true ∧ digs b = true := by
  unfold digs; simp [List.all_append]
theorem no46 {c : List Nat} (h : digs c = true) : ∀ x ∈ c, x ≠ 46 := fun x hx => by have := digs_mem h x hx; omega
theorem isDec.uniq {c : List Nat} {n k n' k' : Nat} (h : isDec c n k) (h' : isDec c n' k') : n = n' ∧ k = k' := by
  rcases h with ⟨h1, h2, rfl, rfl⟩ | ⟨p, hp0, hp1, hp2, hp3, hp4, rfl, rfl⟩
  · rcases h' with ⟨_, _, rfl, rfl⟩ | ⟨p, _, hp1, hp2, _⟩
    · exact ⟨rfl, rfl⟩
    · exact absurd rfl (no46 h1 46 (List.mem_of_getElem? hp2))
  · rcases h' with ⟨h1, _⟩ | ⟨q, hq0, hq1, hq2, hq3, hq4, rfl, rfl⟩
    · exact absurd rfl (no46 h1 46 (List.mem_of_getElem? hp2))
    · have : p = q := by
        rcases Nat.lt_trichotomy p q with h | h | h
        · exfalso
          have : (c.take q)[p]? = some 46 := by rw [List.getElem?_take, if_pos h]; exact hp2
          exact no46 hq3 46 (List.mem_of_getElem? this) rfl
        · exact h
        · exfalso
          have : (c.take p)[q]? = some 46 := by rw [List.getElem?_take, if_pos h]; exact hq2
          exact no46 hp3 46 (List.mem_of_getElem? this) rfl
      subst this
      exact ⟨rfl, rfl⟩
theorem isDec.nl {c : List Nat} {n k : Nat} (h : isDec c n k) : nl n ≤ c.length ∧ k ≤ c.length := by
  rcases h with ⟨h1, h2, rfl, rfl⟩ | ⟨p, hp0, hp1, hp2, hp3, hp4, rfl, rfl⟩
  · exact ⟨dv_nl h1 (Nat.le_refl _), Nat.zero_le _⟩
  · exact ⟨dv_nl (digs_append.2 ⟨hp3, hp4⟩) (by simp; omega), by omega⟩

theorem nl_pow10 (k : Nat) : Go.Sh.nl (10 ^ k) ≤ k + 1 := by
  rw [nl_le_iff]
  have h1 : (10 : Nat) ^ k ≤ 4294967296 ^ k := Nat.pow_le_pow_left (by decide) k
  have h2 : (4294967296 : Nat) ^ k < 4294967296 ^ (k + 1) := Nat.pow_lt_pow_right (by decide) (by omega)
  omega
theorem dv_one_zeros (k : Nat) : dv (49 :: List.replicate k 48) = 10 ^ k := by
  unfold dv
  rw [List.reverse_cons, List.map_append, List.reverse_replicate, List.map_replicate, val_append]
  simp [val_replicate_zero, val]

section
variable {a : Addr} {lim : Nat} {ov : Bool} {s : ByteArray} {h : Heap}
/-- A text on a bench. -/
theorem Decimal_spec {Q : ((Bool × Sl × Sl) × Bool) → Heap → Prop} (ht : TB a.block h) (hb : Bench h a lim ov) (hs : s.size ≤ 64)
    (K0 : (ov = true ∨ ∀ n k, ¬ isDec (cs s) n k) → ∀ h', Ext h h' → Q ((false, Sl.nil, Sl.nil), false) h')
    (K1 : ov = false → ∀ n k, isDec (cs s) n k → ∀ r h', Bench h' a lim (decide (lim < szQ (mkRat n (10 ^ k)))) → Keep (some a.block) h h' → RF a.block h' r (val' (decide (lim < szQ (mkRat n (10 ^ k)))) (mkRat n (10 ^ k))) → Fr h r → Q (r, !(decide (lim < szQ (mkRat n (10 ^ k))))) h') : ratio_Decimal (some a) s h Q := by
  have hlen := cs_len s
  refine mem_ext fun h1 e1 => ?_
  -- what is behind the cut
  have main : ∀ (w v : ByteArray) (pt : Bool), (ov = false → cs w ≠ [] → (pt = true → cs v ≠ []) → digs (cs w ++ cs v) = true → isDec (cs s) (dv (cs w ++ cs v)) (cs v).length) →
      (∀ n k, isDec (cs s) n k → cs w ≠ [] ∧ (pt = true → cs v ≠ []) ∧ digs (cs w ++ cs v) = true) → (cs w).length + (cs v).length ≤ 64 →
      seq (fun (K0 : Bool → Heap → Prop) =>
       iteB (decide (((s.size : Nat) : Int) > 10000)) (K0 true h1) (nat_Bench_Over (some a) h1 fun v_1 h0u3 => iteB v_1 (K0 true h0u3) (iteB (w.toList == (ByteArray.mk #[]).toList) (K0 true h0u3) (iteB pt (K0 (v.toList == (ByteArray.mk #[]).toList) h0u3) (K0 false h0u3))))
      ) (fun t0 h0u2 =>
       iteB t0 (Q ((false, Sl.nil, Sl.nil), false) h0u2) (
        ratio_free h0u2 fun v_2 h0u4 =>
        ((w.size + v.size : Nat) : Int) ≤ 9223372036854775807 ∧
        nat_Bench_Parse v_2 (w ++ v) h0u4 fun v_3 h0u5 =>
        iteB (!v_3.2) (Q ((false, Sl.nil, Sl.nil), false) h0u5) (
         strings_Repeat (ByteArray.mk #[48]) ((v.size : Nat) : Int) h0u5 fun v_4 h0u6 =>
         (((ByteArray.mk #[49]).size + v_4.size : Nat) : Int) ≤ 9223372036854775807 ∧
         nat_Bench_Parse v_2 ((ByteArray.mk #[49]) ++ v_4) h0u6 fun v_5 h0u7 =>
         ratio_form false v_3.1 v_5.1 h0u7 fun v_6 h0u8 =>
         ratio_fit (some a) (v_6.1, v_6.2.1, v_6.2.2) h0u8 fun v_7 h0u9 =>
         mem h0u9 fun h0u10 =>
         nat_Bench_Over (some a) h0u10 fun v_8 h0u11 =>
         Q ((v_7.1, v_7.2.1, v_7.2.2), (!v_8)) h0u11))) := by
    intro w v pt A1 A2 hl
    have lw := cs_len w
    have lv := cs_len v
    have hb1 := hb.ext e1
    have ce : cs (ByteArray.mk #[]) = [] := rfl
    refine seq.cut (fun t h2 => t = (ov || decide (cs w = []) || (pt && decide (cs v = []))) ∧ h2 = h1) ?_ ?_
    · refine ⟨fun hg => ?_, fun _ => ?_⟩
      · simp only [gt_iff_lt, decide_eq_true_eq] at hg; omega
      · refine Over_spec hb1 ⟨fun ho => ⟨by simp [ho], rfl⟩, fun ho => ?_⟩
        rw [toList_beq, ce]
        refine ⟨fun hw => ⟨by simp only [decide_eq_true_eq] at hw; simp [hw], rfl⟩, fun hw => ?_⟩
        simp only [decide_eq_false_iff_not] at hw
        refine ⟨fun hp => ?_, fun hp => ⟨by simp [ho, hw, hp], rfl⟩⟩
        rw [toList_beq, ce]
        exact ⟨by simp [ho, hw, hp], rfl⟩
    · rintro t h2 ⟨rfl, rfl⟩
      refine ⟨fun hbad => ?_, fun hgood => ?_⟩
      · refine K0 ?_ _ e1
        simp only [Bool.or_eq_true, decide_eq_true_eq, Bool.and_eq_true] at hbad
        rcases hbad with (h | h) | ⟨h, h'⟩
        · exact .inl h
        · exact .inr fun n k hd => (A2 n k hd).1 h
        · exact .inr fun n k hd => (A2 n k hd).2.1 h h'
      · simp only [Bool.or_eq_false_iff, decide_eq_false_iff_not, Bool.and_eq_false_iff] at hgood
        obtain ⟨⟨ho, hw⟩, hv⟩ := hgood
        have hv' : pt = true → cs v ≠ [] := by
          intro hp
          rcases hv with h | h
          · rw [hp] at h; cases h
          · exact h
        refine free_spec fun f h3 hb3 hf3 e3 => ?_
        have e13 := e1.trans e3
        have hfs : h.size ≤ f.block := by have := e1.size; omega
        have hcs : cs (w ++ v) = cs w ++ cs v := cs_append w v
        have hsz0 : (w ++ v).size = w.size + v.size := ByteArray.size_append
        have hsz : (w ++ v).size = (cs w).length + (cs v).length := by rw [hsz0, lw, lv]
        have hpar : parses (w ++ v) = digs (cs w ++ cs v) := by
          unfold parses
          rw [hcs, hsz]
          have : (cs w).length ≠ 0 := by simpa [List.length_eq_zero_iff] using hw
          have e1 : decide ((cs w).length + (cs v).length ≠ 0) = true := decide_eq_true (by omega)
          have e2 : decide ((cs w).length + (cs v).length ≤ 10000) = true := decide_eq_true (by omega)
          rw [e1, e2]; simp
        refine ⟨by omega, ?_⟩
        refine Parse_spec hb3 (fun hp => ?_) (fun hp n1 h4 ov1 hov1 hb4 k4 hn1 _ hnb => ?_)
        · refine ⟨fun _ => K0 (.inr fun n k hd => ?_) _ e13, nofun⟩
          rw [hpar] at hp
          rw [(A2 n k hd).2.2] at hp; cases hp
        · rw [hpar] at hp
          rw [hcs] at hov1 hn1
          have hdec := A1 ho hw hv' hp
          have nn := hdec.nl
          have : ov1 = false := by rw [hov1]; simp; omega
          subst this
          refine ⟨nofun, fun _ => ?_⟩
          have N1 := hn1 rfl
          have e14 := e13.fresh hfs k4
          rw [show ((v.size : Nat) : Int) = (((cs v).length : Nat) : Int) from by rw [lv]]
          refine repeat_spec (c := (cs v).length) (by omega) fun z hz => ?_
          have lz : z.size = (cs v).length := by rw [← cs_len, hz]; simp
          have s49 : (ByteArray.mk #[49]).size = 1 := rfl
          have c49 : cs (ByteArray.mk #[49] ++ z) = 49 :: List.replicate (cs v).length 48 := by rw [cs_append, hz]; rfl
          have hd49 : digs (49 :: List.replicate (cs v).length 48) = true := digs_of (by
            intro x hx
            rcases List.mem_cons.1 hx with rfl | hx
            · decide
            · rw [List.eq_of_mem_replicate hx]; decide)
          have hp2 : parses (ByteArray.mk #[49] ++ z) = true := by
            unfold parses
            rw [c49, hd49, ByteArray.size_append, s49, lz]
            simp; omega
          refine ⟨by omega, ?_⟩
          refine Parse_spec hb4 (fun hp => by rw [hp2] at hp; cases hp) (fun _ d1 h5 ov2 hov2 hb5 k5 hd1 _ _ => ?_)
          rw [c49, dv_one_zeros] at hov2 hd1
          have n10 := nl_pow10 (cs v).length
          have : ov2 = false := by rw [hov2]; simp; omega
          subst this
          have e15 := e14.fresh hfs k5
          have N1' : NN h5 n1 (dv (cs w ++ cs v)) := N1.keep k5 (fun hb => hnb _ hb rfl)
          have hm : (10 : Nat) ^ (cs v).length ≠ 0 := Nat.pos_iff_ne_zero.1 (Nat.pow_pos (by decide))
          refine form_spec (z := ((dv (cs w ++ cs v) : Nat) : Int)) (m := 10 ^ (cs v).length) (R.ext ht.1 e15) (by simpa using N1') (hd1 rfl) hm (fun _ => by simp) (by simp; omega) fun r h6 hr fr e6 => ?_
          have hszm := sz_mk ((dv (cs w ++ cs v) : Nat) : Int) hm
          have e16 := e15.trans e6
          refine fitQ_spec (hb.ext e16) (hr.rff (h0 := h) (fr.mono e15.size) hb.lt) (by simp at hszm; omega) fun r2 h7 hb7 k7 hr7 f7 => mem_ext fun h8 e8 => ?_
          subst ho
          rw [Bool.false_or] at hb7 hr7
          refine Over_spec (hb7.ext e8) ?_
          exact K1 rfl _ _ hdec _ h8 (hb7.ext e8) ((Keep.of_ext e16).trans (k7.trans (Keep.of_ext e8))) (hr7.ext e8) (f7 h (fr.mono e15.size))
  refine cut_spec (by omega) (fun hno => ?_) (fun p u v hp hpre hu hv => ?_)
  · have ce : cs (ByteArray.mk #[]) = [] := rfl
    refine main s (ByteArray.mk #[]) false ?_ ?_ (by rw [ce]; simp; omega)
    · intro _ hw _ hd
      rw [ce, List.append_nil] at hd ⊢
      exact .inl ⟨hd, hw, rfl, rfl⟩
    · intro n k hd
      rw [ce, List.append_nil]
      rcases hd with ⟨h1, h2, _, _⟩ | ⟨p, _, _, hp2, _⟩
      · exact ⟨h2, nofun, h1⟩
      · exact absurd rfl (hno 46 (List.mem_of_getElem? hp2))
  · have hlt : p < (cs s).length := (List.getElem?_eq_some_iff.1 hp).1
    refine main u v true ?_ ?_ (by rw [hu, hv]; simp; omega)
    · intro _ hw hv0 hd
      rw [hu] at hw
      rw [hv] at hv0
      rw [hu, hv] at hd ⊢
      obtain ⟨d1, d2⟩ := digs_append.1 hd
      have p0 : 0 < p := by
        rcases Nat.eq_zero_or_pos p with h | h
        · subst h; simp at hw
        · exact h
      have p1 : p + 1 < (cs s).length := by
        rcases Nat.lt_or_ge (p + 1) (cs s).length with h | h
        · exact h
        · exact absurd (List.drop_eq_nil_of_le h) (hv0 rfl)
      exact .inr ⟨p, p0, p1, hp, d1, d2, rfl, by rw [List.length_drop]⟩
    · intro n k hd
      rcases hd with ⟨h1, _⟩ | ⟨q, hq0, hq1, hq2, hq3, hq4, _, _⟩
      · exact absurd rfl (no46 h1 46 (List.mem_of_getElem? hp))
      · have : p = q := by
          rcases Nat.lt_trichotomy p q with h | h | h
          · exfalso
            have : ((cs s).take q)[p]? = some 46 := by rw [List.getElem?_take, if_pos h]; exact hp
            exact no46 hq3 46 (List.mem_of_getElem? this) rfl
          · exact h
          · exfalso
            have : ((cs s).take p)[q]? = some 46 := by rw [List.getElem?_take, if_pos h]; exact hq2
            exact hpre 46 (List.mem_of_getElem? this) rfl
        subst this
        rw [hu, hv]
        refine ⟨fun h => ?_, fun _ h => ?_, digs_append.2 ⟨hq3, hq4⟩⟩
        · have := congrArg List.length h; rw [List.length_take, List.length_nil] at this; omega
        · have := congrArg List.length h; rw [List.length_drop, List.length_nil] at this; omega
end
end Go.Sh

namespace Go.Sh
open Go Go.Lift

theorem digs_cons {x : Nat} {l : List Nat} : digs (x :: l) = true ↔ (48 ≤ x ∧ x ≤ 57) ∧ digs l = true := by
  unfold digs; simp

/-- What the letters from j on tell, read from the right. -/
structure Seen (c : List Nat) (j : Nat) (pt : Int) (ds : List Nat) : Prop where
  le : j ≤ c.length
  cases : (pt = -1 ∧ digs (c.drop j) = true ∧ ds = (c.drop j).reverse.map (· - 48)) ∨
    ∃ p : Nat, pt = (p : Int) ∧ j ≤ p ∧ 0 < p ∧ p + 1 < c.length ∧ c[p]? = some 46 ∧ digs ((c.take p).drop j) = true ∧ digs (c.drop (p + 1)) = true ∧ ds = ((c.take p).drop j ++ c.drop (p + 1)).reverse.map (· - 48)

theorem Seen.start (c : List Nat) : Seen c c.length (-1) [] := ⟨Nat.le_refl _, .inl ⟨rfl, by simp [digs], by simp⟩⟩
theorem Seen.digit {c : List Nat} {j : Nat} {pt : Int} {ds : List Nat} (h : Seen c (j + 1) pt ds) (hx : 48 ≤ c[j]'(by have := h.le; omega) ∧ c[j]'(by have := h.le; omega) ≤ 57) : Seen c j pt (ds ++ [c[j]'(by have := h.le; omega) - 48]) := by
  have hl := h.le
  have hj : j < c.length := by omega
  refine ⟨by omega, ?_⟩
  rcases h.cases with ⟨h1, h2, rfl⟩ | ⟨p, h1, h2, h3, h4, h5, h6, h7, rfl⟩
  · left
    refine ⟨h1, ?_, ?_⟩
    · rw [List.drop_eq_getElem_cons hj]; exact digs_cons.2 ⟨hx, h2⟩
    · rw [List.drop_eq_getElem_cons hj, List.reverse_cons, List.map_append]; rfl
  · right
    have hjp : j < (c.take p).length := by simp; omega
    have e : (c.take p).drop j = c[j] :: (c.take p).drop (j + 1) := by
      rw [List.drop_eq_getElem_cons hjp]; simp
    refine ⟨p, h1, by omega, h3, h4, h5, ?_, h7, ?_⟩
    · rw [e]; exact digs_cons.2 ⟨hx, h6⟩
    · rw [e, List.cons_append, List.reverse_cons, List.map_append]; rfl
theorem Seen.point {c : List Nat} {j : Nat} {ds : List Nat} (h : Seen c (j + 1) (-1) ds) (hx : c[j]? = some 46) (h0 : 0 < j) (h1 : j + 1 < c.length) : Seen c j (j : Int) ds := by
  have hl := h.le
  refine ⟨by omega, .inr ⟨j, rfl, Nat.le_refl _, h0, h1, hx, ?_, ?_, ?_⟩⟩
  · rw [List.drop_eq_nil_of_le (by rw [List.length_take]; omega)]; rfl
  · rcases h.cases with ⟨_, h2, _⟩ | ⟨p, h2, _⟩
    · exact h2
    · omega
  · rcases h.cases with ⟨_, _, rfl⟩ | ⟨p, h2, _⟩
    · have : (c.take j).drop j = [] := List.drop_eq_nil_of_le (by rw [List.length_take]; omega)
      rw [this]; rfl
    · omega
/-- A letter that may not be. -/
theorem Seen.bad {c : List Nat} {j : Nat} {pt : Int} {ds : List Nat} (h : Seen c (j + 1) pt ds) (hx : ¬ (48 ≤ c[j]'(by have := h.le; omega) ∧ c[j]'(by have := h.le; omega) ≤ 57)) (hp : ¬ (c[j]'(by have := h.le; omega) = 46 ∧ pt < 0 ∧ 0 < j ∧ j + 1 < c.length)) (n k : Nat) : ¬ isDec c n k := by
  have hl := h.le
  have hj : j < c.length := by omega
  have hcj : c[j]? = some c[j] := List.getElem?_eq_getElem hj
  rintro (⟨h1, _⟩ | ⟨p, hp0, hp1, hp2, hp3, hp4, _⟩)
  · exact hx (digs_mem h1 _ (List.getElem_mem hj))
  · have hjp : j = p := by
      rcases Nat.lt_trichotomy j p with h | h | h
      · exfalso
        have : (c.take p)[j]? = some c[j] := by rw [List.getElem?_take, if_pos h]; exact hcj
        exact hx (digs_mem hp3 _ (List.mem_of_getElem? this))
      · exact h
      · exfalso
        have : (c.drop (p + 1))[j - (p + 1)]? = some c[j] := by rw [List.getElem?_drop, show p + 1 + (j - (p + 1)) = j from by omega]; exact hcj
        exact hx (digs_mem hp4 _ (List.mem_of_getElem? this))
    subst hjp
    have h46 : c[j] = 46 := by rw [hcj] at hp2; exact Option.some.inj hp2
    refine hp ⟨h46, ?_, hp0, hp1⟩
    rcases h.cases with ⟨h1, _⟩ | ⟨q, h1, h2, h3, h4, h5, _⟩
    · omega
    · exfalso
      have : (c.drop (j + 1))[q - (j + 1)]? = some 46 := by rw [List.getElem?_drop, show j + 1 + (q - (j + 1)) = q from by omega]; exact h5
      exact no46 hp4 _ (List.mem_of_getElem? this) rfl
theorem Seen.dec {c : List Nat} {pt : Int} {ds : List Nat} (h : Seen c 0 pt ds) (hc : c ≠ []) : isDec c (val 10 ds) (if pt < 0 then 0 else c.length - (pt.toNat + 1)) := by
  rcases h.cases with ⟨rfl, h2, rfl⟩ | ⟨p, rfl, h2, h3, h4, h5, h6, h7, rfl⟩
  · left
    rw [List.drop_zero] at *
    exact ⟨h2, hc, rfl, rfl⟩
  · right
    rw [List.drop_zero] at *
    refine ⟨p, h3, h4, h5, h6, h7, rfl, ?_⟩
    rw [if_neg (by omega)]; rfl
theorem Seen.lim {c : List Nat} {j : Nat} {pt : Int} {ds : List Nat} (h : Seen c j pt ds) : Lim 10 ds ∧ ds.length ≤ c.length := by
  have hl := h.le
  rcases h.cases with ⟨_, h2, rfl⟩ | ⟨p, _, h2, _, h4, _, h6, h7, rfl⟩
  · exact ⟨digs_lim h2, by simp⟩
  · exact ⟨digs_lim (digs_append.2 ⟨h6, h7⟩), by simp; omega⟩

/-- The document's reading. -/
theorem DecimalD_spec {s : ByteArray} {h : Heap} {Q : ((Bool × Sl × Sl) × Bool) → Heap → Prop} (hs : s.size ≤ 64)
    (K0 : (∀ n k, ¬ isDec (cs s) n k) → ∀ r h', RD h' r 0 → Ext h h' → Q (r, false) h')
    (K1 : ∀ n k, isDec (cs s) n k → ∀ r h', RD h' r (mkRat n (10 ^ k)) → Ext h h' → Q (r, true) h') : ref02uDecimal s h Q := by
  have hlen := cs_len s
  refine mem_ext fun h1 e1 => ?_
  intro T
  have e2 : Ext h1 (h1.push (.cells ([] : List Value).toArray T (0, 0))) := Ext.push _ _
  generalize h1.push (.cells ([] : List Value).toArray T (0, 0)) = h2 at *
  have e12 := e1.trans e2
  rintro _ rfl _ rfl
  rw [w64 (by omega) (by omega)]
  refine loop.inv (fun t h' => ∃ (j : Nat) (ds : List Nat), t.2.2.1 = (j : Int) - 1 ∧ Seen (cs s) j t.1 ds ∧ Dg .i64 h2.size h' t.2.1 ds ∧ Ext h2 h') (fun t _ => (t.2.2.1 + 1).toNat)
    ⟨(cs s).length, [], by dsimp only; omega, Seen.start _, .inl ⟨rfl, rfl, rfl⟩, Keep.refl _ _⟩ ?_
  rintro ⟨pt, dsl, i, ju1, ju2, ju3⟩ h3 ⟨j, ds, hi, hseen, hdg, hext⟩
  simp only at hi hseen hdg
  subst hi
  dsimp only
  have hjl := hseen.le
  refine ⟨fun hge => ?_, fun hlt => ?_⟩
  · simp only [ge_iff_le, decide_eq_true_eq] at hge
    obtain ⟨j, rfl⟩ : ∃ k, j = k + 1 := ⟨j - 1, by omega⟩
    have hj : j < (cs s).length := by omega
    have hij : ((j + 1 : Nat) : Int) - 1 = (j : Int) := by omega
    rw [hij]
    have hbyte := cs_lt s hj
    -- where the next round begins
    refine seq.cut (fun t h4 => ∃ ds', Seen (cs s) j t.1 ds' ∧ Dg .i64 h2.size h4 t.2.1 ds' ∧ Ext h2 h4) ?_ ?_
    · refine seq.cut (fun t h4 => t = decide ((cs s)[j] = 46 ∧ pt < 0 ∧ 0 < j ∧ j + 1 < (cs s).length) ∧ h4 = h3) ?_ ?_
      · refine idxStr.at (j := j) rfl hj ⟨fun h46 => ?_, fun h46 => ⟨?_, rfl⟩⟩
        · simp only [beq_iff_eq] at h46
          have h46' : (cs s)[j] = 46 := by omega
          refine ⟨fun hp => ?_, fun hp => ⟨?_, rfl⟩⟩
          · simp only [decide_eq_true_eq] at hp
            refine ⟨fun h0 => ⟨?_, rfl⟩, fun h0 => ⟨?_, rfl⟩⟩
            · simp only [gt_iff_lt, decide_eq_true_eq] at h0
              rw [decide_eq_decide]
              constructor
              · intro h; exact ⟨h46', hp, by omega, by omega⟩
              · intro h; omega
            · simp only [gt_iff_lt, decide_eq_false_iff_not] at h0
              symm; rw [decide_eq_false_iff_not]; rintro ⟨_, _, h, _⟩; omega
          · simp only [decide_eq_false_iff_not] at hp
            symm; rw [decide_eq_false_iff_not]; rintro ⟨_, h, _, _⟩; omega
        · simp only [beq_eq_false_iff_ne, ne_eq] at h46
          symm; rw [decide_eq_false_iff_not]; rintro ⟨h, _, _, _⟩; omega
      · rintro t h4 ⟨rfl, rfl⟩
        refine ⟨fun hpt => ?_, fun hpt => ?_⟩
        · simp only [decide_eq_true_eq] at hpt
          obtain ⟨p1, p2, p3, p4⟩ := hpt
          have hpm : pt = -1 := by
            rcases hseen.cases with ⟨h, _⟩ | ⟨p, h, _⟩
            · exact h
            · omega
          subst hpm
          exact ⟨ds, hseen.point (by rw [List.getElem?_eq_getElem hj, p1]) p3 p4, hdg, hext⟩
        · simp only [decide_eq_false_iff_not] at hpt
          refine seq.cut (fun t h5 => t = decide (48 ≤ (cs s)[j] ∧ (cs s)[j] ≤ 57) ∧ h5 = h4) ?_ ?_
          · refine idxStr.at (j := j) rfl hj ⟨fun h48 => ?_, fun h48 => ⟨?_, rfl⟩⟩
            · simp only [ge_iff_le, decide_eq_true_eq] at h48
              refine idxStr.at (j := j) rfl hj ⟨?_, rfl⟩
              rw [decide_eq_decide]; omega
            · simp only [ge_iff_le, decide_eq_false_iff_not] at h48
              symm; rw [decide_eq_false_iff_not]; omega
          · rintro t h5 ⟨rfl, rfl⟩
            refine ⟨fun hd => ?_, fun hd => ?_⟩
            · simp only [decide_eq_true_eq] at hd
              refine idxStr.at (j := j) rfl hj ?_
              have hl := hseen.lim
              refine Dg.app (m := (cs s)[j] - 48) (by rw [w64 (n := (((cs s)[j] : Nat) : Int)) (by omega) (by omega), w64 (by omega) (by omega)]; omega) hdg hext.size hext (Nat.le_refl _) (by omega) fun s' h6 ho6 e6 _ => ?_
              exact ⟨_, hseen.digit hd, .inr ho6, e6⟩
            · simp only [decide_eq_false_iff_not] at hd
              refine Int_spec (n := 0) (by decide) fun r h6 hr e6 => ?_
              exact K0 (fun n k => hseen.bad hd hpt n k) _ h6 hr (e12.trans (hext.trans e6))
    · rintro ⟨t1, t2, t3, t4, t5⟩ h4 ⟨ds', hs', hd', he'⟩
      rintro _ rfl
      refine ⟨⟨j, ds', ?_, hs', hd', he'⟩, ?_⟩
      · rw [w64 (by omega) (by omega)]
      · rw [w64 (by omega) (by omega)]; omega
  · simp only [ge_iff_le, decide_eq_false_iff_not] at hlt
    have hj0 : j = 0 := by omega
    subst hj0
    obtain ⟨hlim, hdl⟩ := hseen.lim
    refine new1 (m := 1) rfl fun h4 hr4 e4 hs4 => ?_
    rintro _ rfl _ rfl
    have hpt : (-1 : Int) ≤ pt ∧ pt < (cs s).length := by
      rcases hseen.cases with ⟨rfl, _⟩ | ⟨p, rfl, _, _, h, _⟩ <;> omega
    rw [w64 (n := pt + 1) (by omega) (by omega)]
    refine loop.inv (fun t h' => ∃ k : Nat, RI .i64 h' t.1 (List.replicate k 0 ++ [1]) ∧ t.2 = pt + 1 + k ∧ (0 ≤ pt → t.2 ≤ (cs s).length) ∧ (pt < 0 → k = 0) ∧ Ext h3 h') (fun t _ => ((cs s).length - t.2).toNat)
      ⟨0, hr4, by dsimp only; omega, fun _ => by dsimp only; omega, fun _ => rfl, e4⟩ ?_
    rintro ⟨d, i2⟩ h5 ⟨k, hd, hi2, hi3, hk0, e5⟩
    simp only at hd hi2 hi3
    subst hi2
    dsimp only
    refine seq.cut (fun t h6 => t = decide (0 ≤ pt ∧ pt + 1 + k < (cs s).length) ∧ h6 = h5) ?_ ?_
    · refine ⟨fun hp => ⟨?_, rfl⟩, fun hp => ⟨?_, rfl⟩⟩
      · simp only [ge_iff_le, decide_eq_true_eq] at hp
        rw [decide_eq_decide, ← hlen]
        exact ⟨fun h => ⟨hp, h⟩, fun h => h.2⟩
      · simp only [ge_iff_le, decide_eq_false_iff_not] at hp
        symm; rw [decide_eq_false_iff_not]; exact fun h => hp h.1
    · rintro t h6 ⟨rfl, rfl⟩
      refine ⟨fun hm => ?_, fun hm => ?_⟩
      · simp only [decide_eq_true_eq] at hm
        -- a nought ahead
        intro T2
        have ho := Own.new (toV := fun n : Nat => Value.int .i64 (n : Int)) (ys := [0]) (h := h6) (T := T2) (cs := [Value.int .i64 ((0 : Nat) : Int)]) rfl
        have e7 : Ext h6 (h6.push (.cells [Value.int .i64 ((0 : Nat) : Int)].toArray T2 (0, 0))) := Ext.push _ _
        refine Own.append (ys := List.replicate k 0 ++ [1]) ho (by have := e7.size; omega) (R.ext hd e7) (one_int _) (by simp; omega) fun s' h8 ho8 k8 _ => ?_
        have e8 : Ext h6 h8 := Keep.own e7 ho (Nat.le_refl _) k8
        rintro _ rfl
        refine ⟨⟨k + 1, ?_, ?_, fun _ => ?_, fun h => by omega, e5.trans e8⟩, ?_⟩
        · have := ho8.r
          rw [List.replicate_succ]
          exact this
        · rw [w64 (by omega) (by omega)]; omega
        · rw [w64 (by omega) (by omega)]; omega
        · rw [w64 (by omega) (by omega)]; omega
      · simp only [decide_eq_false_iff_not] at hm
        refine CutD (hdg.ext e5).r hlim (by omega) fun v hv _ => ?_
        have hd10 : DN h6 d (10 ^ k) := by
          refine ⟨_, hd, ?_, ?_, ?_⟩
          · intro z hz
            rcases List.mem_append.1 hz with hz | hz
            · rw [List.eq_of_mem_replicate hz]; decide
            · simp at hz; omega
          · unfold Nrm; simp
          · rw [val_append, val_replicate_zero, List.length_replicate]; simp [val]
        have e06 := e12.trans (hext.trans e5)
        have hkk : k = (if pt < 0 then 0 else (cs s).length - (pt.toNat + 1)) := by
          split
          · rename_i h; exact hk0 h
          · rename_i h
            have := hi3 (by omega)
            omega
        have hm10 : (10 : Nat) ^ k ≠ 0 := Nat.pos_iff_ne_zero.1 (Nat.pow_pos (by decide))
        have hk64 : k ≤ 64 := by rw [hkk]; split <;> omega
        have n1 : nl (val 10 ds) ≤ 64 := by
          rw [nl_le_iff]
          have h1 := val_lt hlim
          have h2 : (10 : Nat) ^ ds.length ≤ 10 ^ 64 := Nat.pow_le_pow_right (by decide) (by omega)
          have h3 : (10 : Nat) ^ 64 ≤ 4294967296 ^ 64 := Nat.pow_le_pow_left (by decide) _
          omega
        have n2 := nl_pow10 k
        refine Low_spec (z := ((val 10 ds : Nat) : Int)) (m := 10 ^ k) (k := 70) ⟨by simpa using hv, hd10, hm10, fun _ => by simp⟩ (by omega) (by simp; omega) (by omega) fun r h7 hr e7 => ?_
        have e07 := e06.trans e7
        have hc0 : (((s.size : Nat) : Int) > 0) ↔ cs s ≠ [] := by
          rw [← hlen]
          constructor
          · intro h h0; rw [h0] at h; simp at h
          · intro h
            have : (cs s).length ≠ 0 := by simpa [List.length_eq_zero_iff] using h
            omega
        by_cases hc : cs s = []
        · have : decide (((s.size : Nat) : Int) > 0) = false := by rw [decide_eq_false_iff_not, hc0]; simpa using hc
          rw [this]
          refine K0 (fun n k hd => ?_) _ h7 ?_ e07
          · rcases hd with ⟨_, h, _⟩ | ⟨p, _, h, _⟩
            · exact h hc
            · rw [hc] at h; simp at h
          · have : ds = [] := by
              have := hdl
              rw [hc] at this
              exact List.eq_nil_of_length_eq_zero (by simpa using this)
            subst this
            simpa [val] using hr
        · have : decide (((s.size : Nat) : Int) > 0) = true := by rw [decide_eq_true_eq, hc0]; exact hc
          rw [this]
          have hdec := hseen.dec hc
          rw [← hkk] at hdec
          exact K1 _ _ hdec _ h7 hr e07
end Go.Sh
