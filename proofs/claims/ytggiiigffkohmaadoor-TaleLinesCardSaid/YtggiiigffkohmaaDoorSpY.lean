/-
  Laws that the proof of this claim's statement leans on, each proved under the conditions that it states.
-/
import Derived.Test.YtggiiigffkohmaaDoorSh
import Derived.Test.YtggiiigffkohmaaDoorFwE
import Derived.Lib.ItoaLen
import Derived.Lib.SplitLaws
import Derived.Lib.AtoiAllCases
set_option linter.unusedVariables false
set_option linter.unusedSimpArgs false
namespace Go.Sh
open Go Go.Lift
theorem mem_ext {h : Heap} {k : Heap → Prop} (K : ∀ h', Ext h h' → k h') : mem h k := fun h' e => K h' ⟨e.size, fun b hb _ => e.same b hb⟩
theorem ext_of {h h' : Heap} (e : MExt h h') : Ext h h' := ⟨e.size, fun b hb _ => e.same b hb⟩
structure Glob (h : Heap) : Prop where
  tab : pow10H 0 h
  len : intH 1 h
  e1 : errH 2 h
  e2 : errH 3 h
theorem Glob.ext {h h' : Heap} (g : Glob h) (e : Ext h h') : Glob h' := by
  obtain ⟨⟨T, fr, a⟩, ⟨m, b⟩, ⟨e1, c, c'⟩, ⟨e2, d, d'⟩⟩ := g
  have lt : ∀ {g : Nat} {o : Obj}, h[g]? = some o → g < h.size := fun hg => (Array.getElem?_eq_some_iff.1 hg).1
  exact ⟨⟨T, fr, by rw [e.same 0 (lt a) (by simp)]; exact a⟩, ⟨m, cell_keep e b (by simp)⟩, ⟨e1, cell_keep e c (by simp), c'⟩, ⟨e2, cell_keep e d (by simp), d'⟩⟩
abbrev Bits := R Value.bool
def bitL (b : Bool) : UInt8 := if b then 49 else 48
def flagsL (bs : List Bool) : List UInt8 := if bs = [] then [45] else bs.map bitL
def txt (l : List UInt8) : ByteArray := ⟨l.toArray⟩
theorem txt_inj {a b : List UInt8} (h : txt a = txt b) : a = b := by
  have := congrArg (fun x : ByteArray => x.data.toList) h
  simpa [txt] using this
theorem BldH.keep {T e b : Nat} {h h' : Heap} {bs : List Value} (q : BldH T e h b bs) (hh : ∀ k, b ≤ k → k < h.size → h'[k]? = h[k]?) : BldH T e h' b bs := by
  obtain ⟨p, v, hp, hb, ⟨hl, hv⟩, hne⟩ := q
  have lt : ∀ {g : Nat} {o : Obj}, h[g]? = some o → g < h.size := fun hg => (Array.getElem?_eq_some_iff.1 hg).1
  refine ⟨p, v, hp, by rw [hh b (Nat.le_refl _) (lt hb)]; exact hb, ⟨hl, ?_⟩, hne⟩
  rcases hv with hv | ⟨g, cap, cur, h1, h2, h3, h4, h5, h6, h7⟩
  · exact .inl hv
  · exact .inr ⟨g, cap, cur, h1, h2, by rw [hh g h2 (lt h3)]; exact h3, h4, h5, h6, h7⟩
theorem bits_cells (l : List Bool) (b : Bool) : Lib.byteCells ((l ++ [b]).map bitL) = Lib.byteCells (l.map bitL) ++ Lib.strCells (txt [bitL b]) := by
  simp [Lib.byteCells, Lib.strCells, txt]
theorem flags_spec {l : Sl} {bs : List Bool} {h : Heap} {Q : ByteArray → Heap → Prop} (hr : Bits h l bs) (hl : bs.length ≤ 1000000) (K : ∀ h', Ext h h' → Q (txt (flagsL bs)) h') : tale_flags l h Q := by
  have hlen := hr.len
  refine ⟨fun g => ?_, fun g => ?_⟩
  · have : bs = [] := by
      have : l.len = 0 := by simpa using g
      exact List.length_eq_zero_iff.1 (by omega)
    subst this
    exact K h (Keep.refl _ _)
  have hne : bs ≠ [] := fun e => by subst e; simp [hlen] at g
  -- the two texts
  refine ⟨h.size, [], rfl, ⟨#[], 0, by simp, EntsB.nil⟩, fun es1 c1 he1 => ?_⟩
  have s1 : ((h.push (.map #[] 0)).setIfInBounds h.size (.map es1 c1)).size = h.size + 1 := by simp
  refine ⟨h.size, [(true, ⟨#[49]⟩)], rfl, ⟨es1, c1, by simp, he1⟩, fun es2 c2 he2 => ?_⟩
  obtain ⟨h2, hh2⟩ : ∃ h2, h2 = ((h.push (.map #[] 0)).setIfInBounds h.size (.map es1 c1)).setIfInBounds h.size (.map es2 c2) := ⟨_, rfl⟩
  rw [← hh2]
  have s2 : h2.size = h.size + 1 := by rw [hh2]; simp
  have o2 : ∀ k, k < h.size → h2[k]? = h[k]? := fun k hk => by
    rw [hh2, Array.getElem?_setIfInBounds_ne (by omega), Array.getElem?_setIfInBounds_ne (by omega), Array.getElem?_push, if_neg (by omega)]
  have m2 : mapEsB h2 (some h.size) (valsB Value.string [(true, ⟨#[49]⟩), (false, ⟨#[48]⟩)]) := by
    refine ⟨es2, c2, ?_, he2⟩
    rw [hh2, Array.getElem?_setIfInBounds_self_of_lt (by simp)]
  clear hh2 he1 he2 s1
  -- the builder
  unfold newT
  have q0 : BldH 46 5 (h2.push (.cells [Value.pointer none, Sl.toV Sl.nil].toArray 46 (0, 0))) h2.size (Lib.byteCells (([] : List Bool).map bitL)) := BldH.new
  refine loop.inv (fun (s : Int) h' => ∃ i : Nat, s = (i : Int) ∧ i ≤ bs.length ∧ h2.size < h'.size ∧ (∀ k, k < h2.size → h'[k]? = h2[k]?) ∧ BldH 46 5 h' h2.size (Lib.byteCells ((bs.take i).map bitL))) (fun s _ => bs.length - s.toNat)
    ⟨0, rfl, by omega, by simp, fun k hk => by rw [Array.getElem?_push, if_neg (by omega)], q0⟩ ?_
  rintro _ h3 ⟨i, rfl, hi, s3, o3, q3⟩
  have e03 : Ext h h3 := ⟨by omega, fun k hk _ => by rw [o3 k (by omega), o2 k hk]⟩
  have m3 : mapEsB h3 (some h.size) (valsB Value.string [(true, ⟨#[49]⟩), (false, ⟨#[48]⟩)]) := by
    obtain ⟨es, c, a, b⟩ := m2
    exact ⟨es, c, by rw [o3 _ (by omega)]; exact a, b⟩
  refine ⟨fun hlt => ?_, fun hge => ?_⟩
  · simp only [decide_eq_true_eq] at hlt
    have hi' : i < bs.length := by omega
    refine (R.ext hr e03).idx (by omega) (by omega) fun a ha hc => ⟨bs[i], by simpa using hc, ?_⟩
    have htk : bs.take (i + 1) = bs.take i ++ [bs[i]] := List.take_succ_eq_append_getElem hi'
    generalize bs[i] = b at *
    refine ⟨_, (txt [bitL b], true), m3, by cases b <;> rfl, ?_⟩
    have hbl : (Lib.byteCells ((bs.take i).map bitL)).length = i := by simp [Lib.byteCells]; omega
    refine ⟨h2.size, _, rfl, by omega, q3, by rw [hbl]; show i + 1 ≤ _; omega, fun h4 s4 o4 q4 => ?_⟩
    rw [w64 (by omega) (by omega)]
    refine ⟨⟨i + 1, by omega, by omega, by omega, fun k hk => by rw [o4 k hk, o3 k hk], ?_⟩, by omega⟩
    rw [htk, bits_cells]
    exact q4
  · simp only [decide_eq_false_iff_not] at hge
    have : i = bs.length := by omega
    subst this
    rw [List.take_length] at q3
    refine ⟨h2.size, _, rfl, by omega, q3, fun h4 s4 o4 => ?_⟩
    have : txt (flagsL bs) = ⟨(bs.map bitL).toArray⟩ := by unfold flagsL txt; rw [if_neg hne]
    rw [← this]
    exact K h4 ⟨by omega, fun k hk _ => by rw [o4 k (by omega), o3 k (by omega), o2 k hk]⟩
end Go.Sh

namespace Go.Sh
open Go Go.Lift
abbrev Ev := Int × Int × List Bool × Int × Int
def lineL (e : Ev) : List UInt8 :=
  if e.1 = 1 then [115, 116, 101, 112, 115, 32] ++ Lib.itoa e.2.1 else if e.1 = 2 then [115, 116, 111, 112, 32] ++ Lib.itoa e.2.1 else
  if e.1 = 3 then [99, 114, 97, 115, 104, 32] ++ flagsL e.2.2.1 ++ [32] ++ Lib.itoa e.2.2.2.1 ++ [32] ++ Lib.itoa e.2.2.2.2 else [63]
def I64 (n : Int) : Prop := -9223372036854775808 ≤ n ∧ n ≤ 9223372036854775807
theorem flagsL_len {bs : List Bool} : (flagsL bs).length ≤ bs.length + 1 := by unfold flagsL; split <;> simp
theorem itoa_len {n : Int} (hn : I64 n) : (Lib.itoa n).length ≤ 21 := by
  exact Lib.itoa_length_le n hn.1 hn.2
theorem join2 (a b : List UInt8) : Lib.join ([txt a, txt b].map (·.data.toList)) [32] = a ++ [32] ++ b := by simp [Lib.join, txt, List.intercalate]
theorem join4 (a b c d : List UInt8) : Lib.join ([txt a, txt b, txt c, txt d].map (·.data.toList)) [32] = a ++ [32] ++ b ++ [32] ++ c ++ [32] ++ d := by simp [Lib.join, txt, List.intercalate]
theorem join_spec {xs : List ByteArray} {cs : List Value} {h : Heap} {n : Nat} {Q : ByteArray → Heap → Prop} (hcs : cs = xs.map Value.string) (hn : n = xs.length) (h1 : 1 ≤ xs.length) (h2 : xs.length ≤ 1000) (hl : (Lib.join (xs.map (·.data.toList)) [32]).length ≤ 140737488355328)
    (K : ∀ h', Ext h h' → Q (txt (Lib.join (xs.map (·.data.toList)) [32])) h') : new cs h fun a h2 => tale_join (⟨some a, n, n⟩ : Sl) h2 Q := by
  intro T
  have ho := Own.new (h := h) (T := T) hcs
  rw [hn]
  exact ⟨h.size, 0, xs.length, xs, rfl, ho.r, h1, h2, hl, fun h' e => K h' ((Ext.push _ _).trans (ext_of e))⟩
theorem itoa_spec {n : Int} {h : Heap} {Q : ByteArray → Heap → Prop} (hn : I64 n) (g : Glob h) (K : ∀ h', Ext h h' → Q (txt (Lib.itoa n)) h') : strconv_Itoa n h Q :=
  ⟨hn, g.tab, fun h' e => K h' (ext_of e)⟩
structure EvOk (h : Heap) (e : Int × Int × Sl × Int × Int) (keep : List Bool) : Prop where
  keep : Bits h e.2.2.1 keep
  n : I64 e.2.1
  t : I64 e.2.2.2.1
  r : I64 e.2.2.2.2
theorem EvOk.ext {h h' : Heap} {e : Int × Int × Sl × Int × Int} {keep : List Bool} (q : EvOk h e keep) (x : Ext h h') : EvOk h' e keep := ⟨R.ext q.keep x, q.n, q.t, q.r⟩
abbrev evL (e : Int × Int × Sl × Int × Int) (keep : List Bool) : Ev := (e.1, e.2.1, keep, e.2.2.2.1, e.2.2.2.2)
theorem Line_spec {e : Int × Int × Sl × Int × Int} {keep : List Bool} {h : Heap} {Q : ByteArray → Heap → Prop} (q : EvOk h e keep) (hl : keep.length ≤ 1000000) (g : Glob h)
    (K : ∀ h', Ext h h' → Q (txt (lineL (evL e keep))) h') : tale_Line e h Q := by
  have z1 := itoa_len q.n
  have z2 := itoa_len q.t
  have z3 := itoa_len q.r
  have z4 := flagsL_len (bs := keep)
  refine mem_ext fun h1 e1 => ⟨fun c => ?_, fun c => ⟨fun c2 => ?_, fun c2 => ⟨fun c3 => ?_, fun c3 => ?_⟩⟩⟩
  · simp only [beq_iff_eq] at c
    refine itoa_spec q.n (g.ext e1) fun h2 e2 => ?_
    refine join_spec (xs := [txt [115, 116, 101, 112, 115], txt (Lib.itoa e.2.1)]) rfl rfl (by simp) (by simp) ?_ fun h3 e3 => ?_
    · rw [join2]; simp only [List.length_append, List.length_cons, List.length_nil]; omega
    · have : lineL (evL e keep) = Lib.join ([txt [115, 116, 101, 112, 115], txt (Lib.itoa e.2.1)].map (·.data.toList)) [32] := by
        unfold lineL; rw [if_pos c]; rw [join2]; simp
      rw [← this]
      exact K h3 (e1.trans (e2.trans e3))
  · simp only [beq_iff_eq] at c2
    refine itoa_spec q.n (g.ext e1) fun h2 e2 => ?_
    refine join_spec (xs := [txt [115, 116, 111, 112], txt (Lib.itoa e.2.1)]) rfl rfl (by simp) (by simp) ?_ fun h3 e3 => ?_
    · rw [join2]; simp only [List.length_append, List.length_cons, List.length_nil]; omega
    · have : lineL (evL e keep) = Lib.join ([txt [115, 116, 111, 112], txt (Lib.itoa e.2.1)].map (·.data.toList)) [32] := by
        unfold lineL; rw [if_neg (by simpa using c), if_pos c2]; rw [join2]; simp
      rw [← this]
      exact K h3 (e1.trans (e2.trans e3))
  · simp only [beq_iff_eq] at c3
    refine flags_spec (R.ext q.keep e1) hl fun h2 e2 => itoa_spec q.t (g.ext (e1.trans e2)) fun h3 e3 => itoa_spec q.r (g.ext (e1.trans (e2.trans e3))) fun h4 e4 => ?_
    refine join_spec (xs := [txt [99, 114, 97, 115, 104], txt (flagsL keep), txt (Lib.itoa e.2.2.2.1), txt (Lib.itoa e.2.2.2.2)]) rfl rfl (by simp) (by simp) ?_ fun h5 e5 => ?_
    · rw [join4]; simp only [List.length_append, List.length_cons, List.length_nil]; omega
    · have : lineL (evL e keep) = Lib.join ([txt [99, 114, 97, 115, 104], txt (flagsL keep), txt (Lib.itoa e.2.2.2.1), txt (Lib.itoa e.2.2.2.2)].map (·.data.toList)) [32] := by
        unfold lineL; rw [if_neg (by simpa using c), if_neg (by simpa using c2), if_pos c3, join4]; simp
      rw [← this]
      exact K h5 (e1.trans (e2.trans (e3.trans (e4.trans e5))))
  · simp only [beq_eq_false_iff_ne] at c c2 c3
    have : lineL (evL e keep) = [63] := by unfold lineL; rw [if_neg c, if_neg c2, if_neg c3]
    rw [this] at K
    exact K h1 e1
end Go.Sh

namespace Go.Sh
open Go Go.Lift
theorem txt_append (a b : List UInt8) : txt a ++ txt b = txt (a ++ b) := by
  apply ByteArray.ext
  simp [txt]
theorem txt_size (a : List UInt8) : (txt a).size = a.length := by simp [txt, ByteArray.size]
theorem digit_fin : ∀ x : Fin 10, (ByteArray.mk #[48, 49, 50, 51, 52, 53, 54, 55, 56, 57]).extract x.val (x.val + 1) = txt [UInt8.ofNat (48 + x.val)] := by decide +kernel
theorem dec_small {u : Nat} (h : u < 10) : Lib.decDigits u = [UInt8.ofNat (48 + u)] := by rw [Lib.decDigits, dif_pos h]
theorem dec_big {u : Nat} (h : ¬ u < 10) : Lib.decDigits u = Lib.decDigits (u / 10) ++ [UInt8.ofNat (48 + u % 10)] := by rw [Lib.decDigits, dif_neg h]
theorem Int_spec {n : Int} {h : Heap} {Q : ByteArray → Heap → Prop} (hn : I64 n) (K : Q (txt (Lib.itoa n)) h) : ref24uInt n h Q := by
  obtain ⟨n0, n1⟩ := hn
  rintro m0 hm0
  refine seq.cut (fun t h' => h' = h ∧ t = (n.natAbs : Int)) ⟨fun g => ?_, fun g => ?_⟩ ?_
  · have g := of_decide_eq_true g
    rintro m1 hm1
    refine ⟨rfl, ?_⟩
    rw [hm1, w64 (n := n + 1) (by omega) (by omega), w64 (by omega) (by omega), wu64 (n := 0 - (n + 1)) (by omega) (by omega), wu64 (by omega) (by omega)]
    omega
  · have g := of_decide_eq_false g
    refine ⟨rfl, ?_⟩
    rw [hm0, wu64 (by omega) (by omega)]
    omega
  rintro t h1 ⟨he, ht⟩
  rw [he, ht]; clear he ht hm0
  have hu : n.natAbs < 10 ^ 20 := by omega
  have hit : Lib.itoa n = if n < 0 then 45 :: Lib.decDigits n.natAbs else Lib.decDigits n.natAbs := by
    unfold Lib.itoa
    split
    · rfl
    · rw [show n.toNat = n.natAbs by omega]
  rw [hit] at K
  generalize n.natAbs = u at *
  rintro s0 hs0
  refine loop.inv (fun (s : Int × ByteArray × Int) h' => h' = h ∧ ∃ (M i : Nat) (d : List UInt8), s = ((M : Int), txt d, (i : Int)) ∧ i ≤ 20 ∧ d.length = i ∧ M < 10 ^ (20 - i) ∧ (i = 0 → M = u ∧ d = []) ∧ (1 ≤ i → (if M = 0 then d else Lib.decDigits M ++ d) = Lib.decDigits u)) (fun s _ => 20 - s.2.2.toNat)
    ⟨rfl, u, 0, [], by rw [hs0]; rfl, by omega, rfl, hu, fun _ => ⟨rfl, rfl⟩, fun h => by omega⟩ ?_
  rintro _ _ ⟨he, M, i, d, rfl, hi, hd, hM, h0, h1⟩
  rw [he]; clear he
  dsimp only
  refine seq.cut (fun b h' => h' = h ∧ b = decide (i < 20 ∧ (M > 0 ∨ i = 0))) ⟨fun g => ⟨fun g2 => ?_, fun g2 => ?_⟩, fun g => ?_⟩ ?_
  · have g := of_decide_eq_true g
    have g2 := of_decide_eq_true g2
    exact ⟨rfl, by symm; rw [decide_eq_true_iff]; omega⟩
  · have g := of_decide_eq_true g
    have g2 := of_decide_eq_false g2
    refine ⟨rfl, ?_⟩
    rw [Bool.eq_iff_iff]
    simp; omega
  · have g := of_decide_eq_false g
    exact ⟨rfl, by symm; rw [decide_eq_false_iff_not]; omega⟩
  rintro b _ ⟨he, rfl⟩
  rw [he]; clear he
  refine ⟨fun g => ?_, fun g => ?_⟩
  · have g := of_decide_eq_true g
    have hp : 10 ^ (20 - i) = 10 * 10 ^ (20 - (i + 1)) := by rw [show 20 - i = (20 - (i + 1)) + 1 by omega, Nat.pow_succ]; omega
    have hmod : Int.tmod (M : Int) 10 = ((M % 10 : Nat) : Int) := by rw [Int.tmod_eq_emod_of_nonneg (by omega)]; rfl
    have hdiv : Int.tdiv (M : Int) 10 = ((M / 10 : Nat) : Int) := by rw [Int.tdiv_eq_ediv_of_nonneg (by omega)]; rfl
    have hM20 : M < 10 ^ 20 := Nat.lt_of_lt_of_le hM (Nat.pow_le_pow_right (by decide) (by omega))
    rw [hmod, hdiv]
    refine ⟨?_, ?_, ?_⟩
    · rw [Option.getD_some, wu64 (by omega) (by omega)]
      refine ⟨by omega, ?_⟩
      show _ ≤ (10 : Int)
      omega
    · rw [Option.getD_some, Option.getD_some, wu64 (by omega) (by omega)]; omega
    rw [Option.getD_some, Option.getD_some, wu64 (n := ((M % 10 : Nat) : Int) + 1) (by omega) (by omega)]
    have hx : (ByteArray.mk #[48, 49, 50, 51, 52, 53, 54, 55, 56, 57]).extract ((M % 10 : Nat) : Int).toNat (((M % 10 : Nat) : Int) + 1).toNat = txt [UInt8.ofNat (48 + M % 10)] := by
      rw [Int.toNat_natCast, show (((M % 10 : Nat) : Int) + 1).toNat = M % 10 + 1 by omega]
      exact digit_fin ⟨M % 10, by omega⟩
    rw [hx]
    refine ⟨by rw [txt_size, txt_size, hd]; simp; omega, ?_⟩
    rw [txt_append]
    rintro s1 hs1 m1 hm1 i1 hi1
    rw [wu64 (by omega) (by omega)] at hm1
    rw [w64 (by omega) (by omega)] at hi1
    refine ⟨⟨rfl, M / 10, i + 1, UInt8.ofNat (48 + M % 10) :: d, by rw [hs1, hm1, hi1]; rfl, by omega, by simp [hd], by omega, fun h => by omega, fun _ => ?_⟩, by rw [hi1]; (try dsimp only); omega⟩
    by_cases hM10 : M < 10
    · rw [if_pos (by omega), show M % 10 = M by omega]
      rcases Nat.eq_zero_or_pos i with hi0 | hi1
      · obtain ⟨rfl, rfl⟩ := h0 hi0
        rw [dec_small hM10]
      · rw [← h1 hi1, if_neg (by omega), dec_small hM10]; rfl
    · rw [if_neg (by omega)]
      rcases Nat.eq_zero_or_pos i with hi0 | hi1
      · obtain ⟨rfl, rfl⟩ := h0 hi0
        rw [dec_big hM10]
      · rw [← h1 hi1, if_neg (by omega), dec_big hM10]; simp
  · have g := of_decide_eq_false g
    have hM0 : M = 0 := by
      by_cases h20 : i = 20
      · subst h20; simp at hM; exact hM
      · omega
    have hi1 : 1 ≤ i := by
      by_cases h20 : i = 20 <;> omega
    have hdd := h1 hi1
    rw [if_pos hM0] at hdd
    refine ⟨fun g2 => ?_, fun g2 => ?_⟩
    · have g2 := of_decide_eq_true g2
      rw [if_pos g2, ← hdd] at K
      refine ⟨?_, ?_⟩
      · rw [show (ByteArray.mk #[45]) = txt [45] from rfl, txt_size, txt_size, hd]; simp; omega
      · rw [show (ByteArray.mk #[45]) = txt [45] from rfl, txt_append]; exact K
    · have g2 := of_decide_eq_false g2
      rw [if_neg g2, ← hdd] at K
      exact K
end Go.Sh

namespace Go.Sh
open Go Go.Lift
theorem beq_txt (a b : ByteArray) : (a.toList == b.toList) = decide (a = b) := by
  rw [Lib.toList_data, Lib.toList_data, Bool.eq_iff_iff]
  simp only [beq_iff_eq, decide_eq_true_eq]
  exact ⟨fun h => ByteArray.ext (Array.toList_inj.1 h), fun h => by rw [h]⟩
theorem RefLine_spec {e : Int × Int × Sl × Int × Int} {keep : List Bool} {h : Heap} {Q : ByteArray → Heap → Prop} (q : EvOk h e keep) (hl : keep.length ≤ 1000000)
    (K : ∀ h', Ext h h' → Q (txt (lineL (evL e keep))) h') : ref24uLine e h Q := by
  have z1 := itoa_len q.n
  have z2 := itoa_len q.t
  have z3 := itoa_len q.r
  have z4 := flagsL_len (bs := keep)
  have hlen := q.keep.len
  refine mem_ext fun h1 e1 => ⟨fun c => ?_, fun c => ⟨fun c2 => ?_, fun c2 => ⟨fun c3 => ?_, fun c3 => ?_⟩⟩⟩
  · have c : e.1 = 1 := by simpa using c
    refine Int_spec q.n ?_
    rw [show (ByteArray.mk #[115, 116, 101, 112, 115, 32]) = txt [115, 116, 101, 112, 115, 32] from rfl, txt_append, txt_size, txt_size]
    refine ⟨by simp; omega, ?_⟩
    have : lineL (evL e keep) = [115, 116, 101, 112, 115, 32] ++ Lib.itoa e.2.1 := by unfold lineL; rw [if_pos c]
    rw [← this]
    exact K h1 e1
  · have c : ¬ e.1 = 1 := by simpa using c
    have c2 : e.1 = 2 := by simpa using c2
    refine Int_spec q.n ?_
    rw [show (ByteArray.mk #[115, 116, 111, 112, 32]) = txt [115, 116, 111, 112, 32] from rfl, txt_append, txt_size, txt_size]
    refine ⟨by simp; omega, ?_⟩
    have : lineL (evL e keep) = [115, 116, 111, 112, 32] ++ Lib.itoa e.2.1 := by unfold lineL; rw [if_neg c, if_pos c2]
    rw [← this]
    exact K h1 e1
  · have c : ¬ e.1 = 1 := by simpa using c
    have c2 : ¬ e.1 = 2 := by simpa using c2
    have c3 : ¬ e.1 = 3 := by simpa using c3
    have : lineL (evL e keep) = [63] := by unfold lineL; rw [if_neg c, if_neg c2, if_neg c3]
    rw [this] at K
    exact K h1 e1
  · have c : ¬ e.1 = 1 := by simpa using c
    have c2 : ¬ e.1 = 2 := by simpa using c2
    have c3 : e.1 = 3 := by simpa using c3
    rintro s0 hs0
    refine loop.inv (fun (s : ByteArray × Int) h' => h' = h1 ∧ ∃ i : Nat, s = (txt ((keep.take i).map bitL), (i : Int)) ∧ i ≤ keep.length) (fun s _ => keep.length - s.2.toNat) ⟨rfl, 0, by rw [hs0]; rfl, by omega⟩ ?_
    rintro _ _ ⟨he, i, rfl, hi⟩
    rw [he]; clear he
    dsimp only
    have tl : ((keep.take i).map bitL).length = i := by simp; omega
    refine ⟨fun g => ?_, fun g => ?_⟩
    · have g := of_decide_eq_true g
      have hi' : i < keep.length := by omega
      have htk : keep.take (i + 1) = keep.take i ++ [keep[i]] := List.take_succ_eq_append_getElem hi'
      refine seq.cut (fun t h' => h' = h1 ∧ t = txt ((keep.take (i + 1)).map bitL)) ?_ ?_
      · refine (R.ext q.keep e1).idx (by omega) (by omega) fun a ha hc => ⟨keep[i], by simpa using hc, ?_⟩
        generalize keep[i] = b at *
        rw [show (ByteArray.mk #[49]) = txt [49] from rfl, show (ByteArray.mk #[48]) = txt [48] from rfl, txt_append, txt_append, txt_size, txt_size, txt_size, tl]
        refine ⟨fun hb => ⟨by simp; omega, fun x hx => ⟨rfl, ?_⟩⟩, fun hb => ⟨by simp; omega, fun x hx => ⟨rfl, ?_⟩⟩⟩
        · rw [hx, htk, hb]; simp [bitL]
        · rw [hx, htk, hb]; simp [bitL]
      rintro t _ ⟨he, ht⟩
      rw [he]; clear he
      rintro j hj
      rw [w64 (by omega) (by omega)] at hj
      exact ⟨⟨rfl, i + 1, by rw [ht, hj]; rfl, by omega⟩, by rw [hj]; (try dsimp only); omega⟩
    · have g := of_decide_eq_false g
      have : i = keep.length := by omega
      subst this
      rw [List.take_length] at *
      refine seq.cut (fun t h' => h' = h1 ∧ t = txt (flagsL keep)) ?_ ?_
      · rw [beq_txt]
        refine ⟨fun hb x hx => ⟨rfl, ?_⟩, fun hb => ⟨rfl, ?_⟩⟩
        · have := txt_inj (of_decide_eq_true hb : txt _ = txt [])
          have : keep = [] := by simpa using this
          rw [hx, this]; rfl
        · have hb := of_decide_eq_false hb
          have : keep ≠ [] := fun e => hb (by rw [e]; rfl)
          unfold flagsL
          rw [if_neg this]
      rintro t _ ⟨he, ht⟩
      rw [he, ht]; clear he ht
      rw [show (ByteArray.mk #[99, 114, 97, 115, 104, 32]) = txt [99, 114, 97, 115, 104, 32] from rfl, show (ByteArray.mk #[32]) = txt [32] from rfl]
      simp only [txt_append, txt_size]
      refine ⟨by simp; omega, by simp; omega, Int_spec q.t ?_⟩
      simp only [txt_append, txt_size]
      refine ⟨by simp; omega, by simp; omega, Int_spec q.r ?_⟩
      simp only [txt_append, txt_size]
      refine ⟨by simp; omega, ?_⟩
      have : lineL (evL e keep) = [99, 114, 97, 115, 104, 32] ++ flagsL keep ++ [32] ++ Lib.itoa e.2.2.2.1 ++ [32] ++ Lib.itoa e.2.2.2.2 := by unfold lineL; rw [if_neg c, if_neg c2, if_pos c3]
      rw [← this]
      exact K h1 e1
theorem Same_spec {a b : Int × Int × Sl × Int × Int} {ka kb : List Bool} {h : Heap} {Q : Bool → Heap → Prop} (qa : Bits h a.2.2.1 ka) (qb : Bits h b.2.2.1 kb) (hl : ka.length ≤ 1000000)
    (K : ∀ c h', (c = true ↔ evL a ka = evL b kb) → Ext h h' → Q c h') : ref24uSame a b h Q := by
  have la := qa.len
  have lb := qb.len
  refine mem_ext fun h1 e1 => ?_
  have ev : evL a ka = evL b kb ↔ a.1 = b.1 ∧ a.2.1 = b.2.1 ∧ ka = kb ∧ a.2.2.2.1 = b.2.2.2.1 ∧ a.2.2.2.2 = b.2.2.2.2 := by
    unfold evL; simp only [Prod.mk.injEq]
  refine seq.cut (fun c h' => h' = h1 ∧ (c = true → ¬ evL a ka = evL b kb) ∧ (c = false → a.1 = b.1 ∧ a.2.1 = b.2.1 ∧ a.2.2.2.1 = b.2.2.2.1 ∧ a.2.2.2.2 = b.2.2.2.2 ∧ ka.length = kb.length)) ?_ ?_
  · have nt : ∀ {x y : Int}, (x != y) = true → x ≠ y := fun h => by simpa using h
    have nf : ∀ {x y : Int}, (x != y) = false → x = y := fun h => by simpa using h
    refine ⟨fun g => ⟨rfl, fun _ e => nt g (ev.1 e).1, nofun⟩, fun g1 => ⟨fun g => ⟨rfl, fun _ e => nt g (ev.1 e).2.1, nofun⟩, fun g2 => ⟨fun g => ⟨rfl, fun _ e => nt g (ev.1 e).2.2.2.1, nofun⟩, fun g3 => ⟨fun g => ⟨rfl, fun _ e => nt g (ev.1 e).2.2.2.2, nofun⟩, fun g4 => ⟨rfl, fun g e => ?_, fun g => ⟨nf g1, nf g2, nf g3, nf g4, ?_⟩⟩⟩⟩⟩⟩
    · have := nt g
      have := congrArg List.length (ev.1 e).2.2.1
      omega
    · have := nf g
      omega
  rintro c _ ⟨he, c1, c2⟩
  rw [he]; clear he
  refine ⟨fun g => K false h1 ⟨nofun, fun h => absurd h (c1 g)⟩ e1, fun g => ?_⟩
  obtain ⟨g1, g2, g3, g4, g5⟩ := c2 g
  clear c1 c2 g
  refine loop.inv (fun (s : Int) h' => h' = h1 ∧ ∃ i : Nat, s = (i : Int) ∧ i ≤ ka.length ∧ ka.take i = kb.take i) (fun s _ => ka.length - s.toNat) ⟨rfl, 0, rfl, by omega, rfl⟩ ?_
  rintro _ _ ⟨he, i, rfl, hi, ht⟩
  rw [he]; clear he
  refine ⟨fun g => ?_, fun g => ?_⟩
  · have g := of_decide_eq_true g
    have hi' : i < ka.length := by omega
    have hj' : i < kb.length := by omega
    have t1 : ka.take (i + 1) = ka.take i ++ [ka[i]] := List.take_succ_eq_append_getElem hi'
    have t2 : kb.take (i + 1) = kb.take i ++ [kb[i]] := List.take_succ_eq_append_getElem hj'
    refine (R.ext qa e1).idx (by omega) (by omega) fun x _ hx => ⟨ka[i], by simpa using hx, (R.ext qb e1).idx (by omega) (by omega) fun y _ hy => ⟨kb[i], by simpa using hy, fun hn => ?_, fun hn => ?_⟩⟩
    · refine K false h1 ⟨nofun, fun e => ?_⟩ e1
      have := (ev.1 e).2.2.1
      subst this
      simp at hn
    · have hn : ka[i] = kb[i] := by simpa using hn
      rintro j hj
      rw [w64 (by omega) (by omega)] at hj
      exact ⟨⟨rfl, i + 1, by omega, by omega, by rw [t1, t2, ht, hn]⟩, by omega⟩
  · have g := of_decide_eq_false g
    have : i = ka.length := by omega
    subst this
    rw [List.take_length, g5, List.take_length] at ht
    exact K true h1 ⟨fun _ => ev.2 ⟨g1, g2, ht, g3, g4⟩, fun _ => rfl⟩ e1
def toldE (e : Ev) : Ev := if e.1 = 3 then (e.1, 0, e.2.2.1, e.2.2.2.1, e.2.2.2.2) else (e.1, e.2.1, [], 0, 0)
theorem Told_spec {e : Int × Int × Sl × Int × Int} {keep : List Bool} {h : Heap} {Q : (Int × Int × Sl × Int × Int) → Heap → Prop} (q : Bits h e.2.2.1 keep)
    (K : ∀ r k h', Bits h' r.2.2.1 k → evL r k = toldE (evL e keep) → Ext h h' → Q r h') : ref24uTold e h Q := by
  refine mem_ext fun h1 e1 => ⟨fun g => ?_, fun g => ?_⟩
  · have g : e.1 = 3 := by simpa using g
    exact K _ keep h1 (R.ext q e1) (by unfold toldE; rw [if_pos g]) e1
  · have g : ¬ e.1 = 3 := by simpa using g
    exact K _ [] h1 R.nil (by unfold toldE; rw [if_neg g]) e1
end Go.Sh

namespace Go.Sh
open Go Go.Lift
theorem atoi_i64 (s : ByteArray) : I64 (atoiN s) := by
  unfold atoiN I64
  cases h : Lib.atoiAll s.data.toList with
  | ok v => exact Lib.atoiAll_bounds h
  | range => exact Lib.atoiSat_bounds _
  | _ => dsimp only; omega
theorem number_spec {s : ByteArray} {h : Heap} {Q : Int → Heap → Prop} (g : Glob h) (hs : s.size ≤ 1000000) (K : ∀ h', Ext h h' → Q (atoiN s) h') : tale_number s h Q :=
  ⟨by omega, g.e1, g.e2, fun _ h' e => K h' (ext_of e)⟩
def truthsL (s : ByteArray) : List Bool := if s = txt [45] then [] else s.data.toList.map fun b => b == 49
theorem truths_spec {s : ByteArray} {h : Heap} {Q : Sl → Heap → Prop} (hs : s.size ≤ 1000000) (K : ∀ r h', Bits h' r (truthsL s) → Ext h h' → Q r h') : tale_truths s h Q := by
  have hsz : s.data.toList.length = s.size := by rw [Array.length_toList]; rfl
  refine loop.inv (fun (t : Sl × Int) h' => ∃ i : Nat, t.2 = (i : Int) ∧ i ≤ s.size ∧ (s = txt [45] → i = 0) ∧ Own Value.bool h.size h' t.1 ((s.data.toList.take i).map fun b => b == 49) ∧ Ext h h') (fun t _ => s.size - t.2.toNat) ⟨0, rfl, by omega, fun _ => rfl, Own.nil, Keep.refl _ _⟩ ?_
  rintro ⟨sl, _⟩ h1 ⟨i, rfl, hi, hd, ho, e1⟩
  dsimp only at ho ⊢
  refine seq.cut (fun b h' => h' = h1 ∧ b = decide (s ≠ txt [45] ∧ i < s.size)) ?_ ?_
  · rw [beq_txt]
    refine ⟨fun g => ⟨rfl, ?_⟩, fun g => ⟨rfl, ?_⟩⟩
    · have g : ¬ s = txt [45] := by have := of_decide_eq_false (by simpa only [Bool.not_eq_true'] using g); exact this
      rw [Bool.eq_iff_iff]; simp [g]
    · have g : s = txt [45] := by
        have h2 : decide (s = ByteArray.mk #[45]) = true := by simpa only [Bool.not_eq_false'] using g
        exact of_decide_eq_true h2
      symm; rw [decide_eq_false_iff_not]; exact fun h => h.1 g
  rintro b _ ⟨he, rfl⟩
  rw [he]; clear he
  refine ⟨fun g => ?_, fun g => ?_⟩
  · obtain ⟨g1, g2⟩ := of_decide_eq_true g
    have hi' : i < s.data.toList.length := by omega
    refine ⟨by omega, s.data.toList[i], by simp, ?_⟩
    have htk : s.data.toList.take (i + 1) = s.data.toList.take i ++ [s.data.toList[i]] := List.take_succ_eq_append_getElem hi'
    generalize s.data.toList[i] = c at *
    intro T
    have hv : (((c.toNat : Nat) : Int) == 49) = (c == 49) := by
      rw [Bool.eq_iff_iff]
      simp only [beq_iff_eq]
      constructor
      · intro h; exact UInt8.toNat_inj.1 (by show c.toNat = 49; omega)
      · intro h; rw [h]; rfl
    rw [hv]
    have hn : Own Value.bool h1.size (h1.push (.cells [Value.bool (c == 49)].toArray T (0, 0))) ⟨some ⟨h1.size, 0, none⟩, 1, 1⟩ [c == 49] := Own.new (ys := [c == 49]) rfl
    have e2 := Ext.push h1 (.cells [Value.bool (c == 49)].toArray T (0, 0))
    generalize (h1.push (.cells [Value.bool (c == 49)].toArray T (0, 0)) : Heap) = h2 at *
    refine Own.append (bytes := 1) (B := h.size) (ho.keep e2 (by simp)) (e1.trans e2).size hn.r (fun _ => rfl) (by simp; omega) fun s' h3 o3 k3 _ => ?_
    have e3 : Ext h h3 := by
      cases hb : sl.blk with
      | none => rw [hb] at k3; exact (e1.trans e2).trans k3
      | some b => rw [hb] at k3; exact (e1.trans e2).fresh (ho.lt hb).1 k3
    rintro j hj
    rw [w64 (by omega) (by omega)] at hj
    refine ⟨⟨i + 1, by rw [hj]; rfl, by omega, fun h => absurd h g1, ?_, e3⟩, by rw [hj]; (try dsimp only); omega⟩
    rw [htk, List.map_append]
    exact o3
  · have g := of_decide_eq_false g
    have : (s.data.toList.take i).map (fun b => b == 49) = truthsL s := by
      unfold truthsL
      split
      · rename_i h; rw [hd h]; rfl
      · rename_i h
        have : i = s.size := by
          rcases Nat.lt_or_ge i s.size with h' | h'
          · exact absurd ⟨h, h'⟩ g
          · omega
        rw [List.take_of_length_le (by omega)]
    rw [this] at ho
    exact K sl h1 ho.r e1
def Shaped (e : Ev) : Prop := (e.1 = 1 ∨ e.1 = 2 ∨ e.1 = 3) ∧ toldE e = e
theorem size_extract (s : ByteArray) (a b : Nat) : (s.extract a b).size ≤ s.size := by
  simp [ByteArray.size_extract]; omega
theorem pieces_size (sep : ByteArray) (save : Nat) : ∀ (k : Nat) (s : ByteArray), ∀ x ∈ Lib.splitB sep save k s, x.size ≤ s.size
  | 0, s, x, hx => by simp [Lib.splitB] at hx; rw [hx]; exact Nat.le_refl _
  | k + 1, s, x, hx => by
    unfold Lib.splitB at hx
    split at hx
    · simp at hx; rw [hx]; exact Nat.le_refl _
    · rcases List.mem_cons.1 hx with rfl | hx
      · exact size_extract _ _ _
      · exact Nat.le_trans (pieces_size sep save k _ x hx) (size_extract _ _ _)
def readE (ws : List ByteArray) : Ev :=
  if ws[0]? = some (txt [115, 116, 101, 112, 115]) ∧ ws.length = 2 then (1, atoiN (ws.getD 1 (txt [])), [], 0, 0)
  else if ws[0]? = some (txt [115, 116, 111, 112]) ∧ ws.length = 2 then (2, atoiN (ws.getD 1 (txt [])), [], 0, 0)
  else if ws[0]? = some (txt [99, 114, 97, 115, 104]) ∧ ws.length = 4 then (3, 0, truthsL (ws.getD 1 (txt [])), atoiN (ws.getD 2 (txt [])), atoiN (ws.getD 3 (txt [])))
  else (0, 0, [], 0, 0)
def wordsL (s : ByteArray) : List ByteArray := Lib.splitB (txt [32]) 0 (Lib.countB s (txt [32])) s
theorem words_len (s : ByteArray) : (wordsL s).length = Lib.countB s (txt [32]) + 1 := Lib.splitB_all (txt [32]) (by decide) 0 _ s rfl
end Go.Sh

namespace Go.Sh
open Go Go.Lift
section
variable {W : List ByteArray} {v : Sl} {h : Heap}
theorem first_spec {t : ByteArray} {n : Nat} {K : Bool → Heap → Prop} (hv : R Value.string h v W) (hW : 1 ≤ W.length) (C : K (decide (W[0]? = some t ∧ W.length = n)) h) :
    idxS v 0 1 fun a => Lift.load Value.string a h fun x => iteB (x.toList == t.toList) (K (((v.len : Nat) : Int) == (n : Int)) h) (K false h) := by
  have hl := hv.len
  refine hv.idx (by omega) (by omega) fun a _ hc => ⟨W[0], by simpa using hc, ?_⟩
  have h0 : W[0]? = some W[0] := List.getElem?_eq_getElem (by omega)
  dsimp only
  rw [beq_txt]
  refine ⟨fun g => ?_, fun g => ?_⟩
  · have g := of_decide_eq_true g
    have : (((v.len : Nat) : Int) == (n : Int)) = decide (W[0]? = some t ∧ W.length = n) := by
      rw [h0, g, hl, Bool.eq_iff_iff]
      simp only [beq_iff_eq, decide_eq_true_eq, true_and]
      omega
    rw [this]; exact C
  · have g := of_decide_eq_false g
    have : decide (W[0]? = some t ∧ W.length = n) = false := by
      rw [decide_eq_false_iff_not, h0]
      exact fun hh => g (Option.some.inj hh.1)
    rw [this] at C; exact C
theorem word_spec {i : Int} {j : Nat} {k : Addr → ByteArray → Prop} (hv : R Value.string h v W) (hij : i = (j : Int)) (hj : j < W.length) (C : ∀ a, cell? h a = some (Value.string (W.getD j (txt []))) → k a (W.getD j (txt []))) :
    idxS v i 1 fun a => Lift.load Value.string a h (k a) := by
  subst hij
  have hd : W.getD j (txt []) = W[j] := by rw [List.getD_eq_getElem?_getD, List.getElem?_eq_getElem hj]; rfl
  rw [hd] at C
  refine hv.idx (by omega) (by omega) fun a _ hc => ⟨W[j], by simpa using hc, C _ (by simpa using hc)⟩
end
theorem words_size {s : ByteArray} (hs : s.size ≤ 1000000) (j : Nat) : ((wordsL s).getD j (txt [])).size ≤ 1000000 := by
  rw [List.getD_eq_getElem?_getD]
  cases hj : (wordsL s)[j]? with
  | none => exact Nat.zero_le _
  | some x => exact Nat.le_trans (pieces_size _ _ _ _ x (List.mem_of_getElem? hj)) hs
theorem readE_len {W : List ByteArray} (gz : ∀ j, (W.getD j (txt [])).size ≤ 1000000) : (readE W).2.2.1.length ≤ 1000000 := by
  unfold readE
  split
  · exact Nat.zero_le _
  split
  · exact Nat.zero_le _
  split
  · show (truthsL (W.getD 1 (txt []))).length ≤ _
    unfold truthsL
    split
    · exact Nat.zero_le _
    · rw [List.length_map, Array.length_toList]; exact gz 1
  · exact Nat.zero_le _
theorem Read_spec {s : ByteArray} {h : Heap} {Q : ((Int × Int × Sl × Int × Int) × Int) → Heap → Prop} (hs : s.size ≤ 1000000) (g : Glob h)
    (K3 : ∀ h', Ext h h' → ((readE (wordsL s)).1 = 0 ∨ txt (lineL (readE (wordsL s))) ≠ s) → Q ((0, 0, Sl.nil, 0, 0), 3) h')
    (K0 : ∀ e h', EvOk h' e (readE (wordsL s)).2.2.1 → evL e (readE (wordsL s)).2.2.1 = readE (wordsL s) → (readE (wordsL s)).1 ≠ 0 → txt (lineL (readE (wordsL s))) = s → Ext h h' → Q (e, 0) h') : tale_Read s h Q := by
  refine mem_ext fun h1 e1 => ⟨⟨by omega, by decide⟩, (g.ext e1).len, fun v h2 e2 hv => mem_ext fun h3 e3 => ?_⟩
  have e02 := e1.trans (ext_of e2)
  have e03 := e02.trans e3
  have hv : R Value.string h2 v (wordsL s) := hv
  have hw1 : 1 ≤ (wordsL s).length := by rw [words_len]; omega
  have gz := words_size hs
  generalize wordsL s = W at *
  have g3 := g.ext e03
  have hv3 := R.ext hv e3
  have z0 : I64 0 := ⟨by decide, by decide⟩
  refine seq.cut (fun e h' => EvOk h' e (readE W).2.2.1 ∧ evL e (readE W).2.2.1 = readE W ∧ Ext h3 h') ?_ ?_
  · refine seq.cut (fun b h' => h' = h3 ∧ b = decide (W[0]? = some (txt [115, 116, 101, 112, 115]) ∧ W.length = 2)) ?_ ?_
    · exact first_spec (K := fun b h' => h' = h3 ∧ b = decide (W[0]? = some (txt [115, 116, 101, 112, 115]) ∧ W.length = 2)) (n := 2) hv3 hw1 ⟨rfl, rfl⟩
    rintro _ _ ⟨he, rfl⟩
    rw [he]; clear he
    refine ⟨fun c => ?_, fun c => ?_⟩
    · have c := of_decide_eq_true c
      refine word_spec (j := 1) hv3 rfl (by omega) fun a _ => number_spec g3 (gz 1) fun h4 e4 => ?_
      have hr : readE W = (1, atoiN (W.getD 1 (txt [])), [], 0, 0) := by unfold readE; rw [if_pos c]
      rw [hr]
      exact ⟨⟨R.nil, atoi_i64 _, z0, z0⟩, rfl, e4⟩
    have c := of_decide_eq_false c
    refine seq.cut (fun b h' => h' = h3 ∧ b = decide (W[0]? = some (txt [115, 116, 111, 112]) ∧ W.length = 2)) ?_ ?_
    · exact first_spec (K := fun b h' => h' = h3 ∧ b = decide (W[0]? = some (txt [115, 116, 111, 112]) ∧ W.length = 2)) (n := 2) hv3 hw1 ⟨rfl, rfl⟩
    rintro _ _ ⟨he, rfl⟩
    rw [he]; clear he
    refine ⟨fun c2 => ?_, fun c2 => ?_⟩
    · have c2 := of_decide_eq_true c2
      refine word_spec (j := 1) hv3 rfl (by omega) fun a _ => number_spec g3 (gz 1) fun h4 e4 => ?_
      have hr : readE W = (2, atoiN (W.getD 1 (txt [])), [], 0, 0) := by unfold readE; rw [if_neg c, if_pos c2]
      rw [hr]
      exact ⟨⟨R.nil, atoi_i64 _, z0, z0⟩, rfl, e4⟩
    have c2 := of_decide_eq_false c2
    refine seq.cut (fun b h' => h' = h3 ∧ b = decide (W[0]? = some (txt [99, 114, 97, 115, 104]) ∧ W.length = 4)) ?_ ?_
    · exact first_spec (K := fun b h' => h' = h3 ∧ b = decide (W[0]? = some (txt [99, 114, 97, 115, 104]) ∧ W.length = 4)) (n := 4) hv3 hw1 ⟨rfl, rfl⟩
    rintro _ _ ⟨he, rfl⟩
    rw [he]; clear he
    refine ⟨fun c3 => ?_, fun c3 => ?_⟩
    · have c3 := of_decide_eq_true c3
      refine word_spec (j := 1) hv3 rfl (by omega) fun a5 _ => word_spec (j := 2) hv3 rfl (by omega) fun a6 k6 => word_spec (j := 3) hv3 rfl (by omega) fun a7 k7 => ?_
      refine truths_spec (gz 1) fun r h4 hr4 e4 => ?_
      refine ⟨cell_keep e4 k6 (by simp), cell_keep e4 k7 (by simp), number_spec (g3.ext e4) (gz 2) fun h5 e5 => ⟨cell_keep (e4.trans e5) k7 (by simp), number_spec (g3.ext (e4.trans e5)) (gz 3) fun h6 e6 => ?_⟩⟩
      have hr : readE W = (3, 0, truthsL (W.getD 1 (txt [])), atoiN (W.getD 2 (txt [])), atoiN (W.getD 3 (txt []))) := by unfold readE; rw [if_neg c, if_neg c2, if_pos c3]
      rw [hr]
      exact ⟨⟨R.ext hr4 (e5.trans e6), z0, atoi_i64 _, atoi_i64 _⟩, rfl, (e4.trans e5).trans e6⟩
    · have c3 := of_decide_eq_false c3
      have hr : readE W = (0, 0, [], 0, 0) := by unfold readE; rw [if_neg c, if_neg c2, if_neg c3]
      rw [hr]
      exact ⟨⟨R.nil, z0, z0, z0⟩, rfl, Keep.refl _ _⟩
  rintro e h4 ⟨q4, hev, e4⟩
  have e04 := e03.trans e4
  have hk : e.1 = (readE W).1 := congrArg (·.1) hev
  refine seq.cut (fun b h' => Ext h4 h' ∧ (b = true → ((readE W).1 = 0 ∨ txt (lineL (readE W)) ≠ s)) ∧ (b = false → (readE W).1 ≠ 0 ∧ txt (lineL (readE W)) = s)) ⟨fun c => ?_, fun c => ?_⟩ ?_
  · have c : e.1 = 0 := by simpa using c
    exact ⟨Keep.refl _ _, fun _ => .inl (by omega), nofun⟩
  · have c : ¬ e.1 = 0 := by simpa using c
    have hkl := readE_len gz
    refine Line_spec q4 hkl (g.ext e04) fun h5 e5 => ?_
    rw [hev, beq_txt]
    refine ⟨e5, fun hb => .inr ?_, fun hb => ⟨by omega, ?_⟩⟩
    · have : decide (txt (lineL (readE W)) = s) = false := by simpa only [Bool.not_eq_true'] using hb
      exact of_decide_eq_false this
    · have : decide (txt (lineL (readE W)) = s) = true := by simpa only [Bool.not_eq_false'] using hb
      exact of_decide_eq_true this
  rintro b h5 ⟨e5, b1, b2⟩
  refine ⟨fun c => K3 h5 (e04.trans e5) (b1 c), fun c => ?_⟩
  obtain ⟨c1, c2⟩ := b2 c
  exact K0 e h5 (q4.ext e5) hev c1 c2 (e04.trans e5)
theorem speaks24uspec {h : Heap} {Q : Bool → Heap → Prop} (g : Glob h) (K : ∀ h', Ext h h' → Q true h') : law24uspeaks h Q := by
  refine Line_spec (keep := []) ⟨R.nil, ⟨by decide, by decide⟩, ⟨by decide, by decide⟩, ⟨by decide, by decide⟩⟩ (Nat.zero_le _) g fun h' e => ?_
  have : lineL (1, 3, [], 0, 0) = [115, 116, 101, 112, 115, 32, 51] := by
    have hi : Lib.itoa 3 = [51] := by unfold Lib.itoa; rw [if_neg (by decide)]; exact dec_small (by decide)
    unfold lineL; rw [if_pos rfl, hi]; rfl
  rw [show lineL (evL (1, 3, Sl.nil, 0, 0) []) = [115, 116, 101, 112, 115, 32, 51] from this, beq_txt]
  have : decide (txt [115, 116, 101, 112, 115, 32, 51] = ByteArray.mk #[115, 116, 101, 112, 115, 32, 51]) = true := decide_eq_true rfl
  rw [this]
  exact K h' e
theorem readE_told (W : List ByteArray) : toldE (readE W) = readE W := by
  unfold readE toldE
  split
  · rfl
  split
  · rfl
  split
  · rfl
  · rfl
theorem readE_kind (W : List ByteArray) : (readE W).1 = 0 ∨ (readE W).1 = 1 ∨ (readE W).1 = 2 ∨ (readE W).1 = 3 := by
  unfold readE
  split
  · exact .inr (.inl rfl)
  split
  · exact .inr (.inr (.inl rfl))
  split
  · exact .inr (.inr (.inr rfl))
  · exact .inl rfl
theorem line_ne {e : Ev} (h : e.1 = 1 ∨ e.1 = 2 ∨ e.1 = 3) : lineL e ≠ [63] := by
  unfold lineL
  rcases h with h | h | h
  · rw [if_pos h]; simp
  · rw [if_neg (by omega), if_pos h]; simp
  · rw [if_neg (by omega), if_neg (by omega), if_pos h]; simp
theorem TaleReads_holds {s : ByteArray} {h : Heap} {Q : Bool → Heap → Prop} (g : Glob h) (K : ∀ h', Ext h h' → Q true h') : law24uTaleReads s h Q := by
  refine speaks24uspec g fun h1 e1 => ⟨nofun, fun _ => ⟨fun _ => K h1 e1, fun hl => ?_⟩⟩
  have hl := of_decide_eq_false hl
  refine Read_spec (by omega) (g.ext e1) (fun h2 e2 _ => ?_) fun e h2 q hev hk hline e2 => ?_
  · refine mem_ext fun h3 e3 => ⟨fun _ => ?_, fun c => by simp at c⟩
    refine seq.dup ⟨fun _ => ?_, fun c => by simp at c⟩
    exact Same_spec (ka := []) (kb := []) R.nil R.nil (Nat.zero_le _) fun c h4 hc e4 => by
      have : c = true := hc.2 rfl
      rw [this]; exact K h4 (e1.trans (e2.trans (e3.trans e4)))
  · refine mem_ext fun h3 e3 => ⟨fun c => by simp at c, fun _ => ?_⟩
    have q3 := q.ext e3
    have hkl := readE_len (words_size (s := s) (by omega))
    have e03 := e1.trans (e2.trans e3)
    have h63 : s ≠ txt [63] := fun hh => by
      refine line_ne ?_ (txt_inj (hline.trans hh))
      rcases readE_kind (wordsL s) with h | h
      · exact absurd h hk
      · exact h
    refine seq.dup ⟨fun _ => ?_, fun c => ?_⟩
    · refine RefLine_spec q3 hkl fun h4 e4 => ?_
      rw [hev, hline, beq_txt]
      refine ⟨fun _ => ?_, fun c => by simp at c⟩
      refine Told_spec (q3.ext e4).keep fun r k h5 hr hrt e5 => ?_
      refine Same_spec (ka := (readE (wordsL s)).2.2.1) (kb := k) (q3.ext (e4.trans e5)).keep hr hkl fun c h6 hc e6 => ?_
      have : c = true := hc.2 (by rw [hrt, hev, readE_told])
      rw [this]; exact K h6 (e03.trans (e4.trans (e5.trans e6)))
    · rw [beq_txt] at c
      have : decide (s = ByteArray.mk #[63]) = true := by simpa only [Bool.not_eq_false'] using c
      exact absurd (of_decide_eq_true this) h63
end Go.Sh

namespace Go.Sh
open Go Go.Lift
theorem is_bools {h : Heap} {cs : List Value} (H : (Shape.slice .bool).Is h cs) : ∃ s : Sl, ∃ bs : List Bool, cs = [Sl.toV s] ∧ Bits h s bs := by
  obtain ⟨s, rows, rfl, hr, he⟩ := H
  have : ∃ bs : List Bool, rows = bs.map fun b => [Value.bool b] := by
    clear hr
    induction rows with
    | nil => exact ⟨[], rfl⟩
    | cons r rows ih =>
      obtain ⟨bs, rfl⟩ := ih fun x hx => he x (List.mem_cons_of_mem _ hx)
      obtain ⟨b, rfl⟩ := he r (List.mem_cons_self ..)
      exact ⟨b :: bs, rfl⟩
  obtain ⟨bs, rfl⟩ := this
  refine ⟨s, bs, rfl, ?_⟩
  have hl : s.len = bs.length := by rw [hr.len, List.length_map]
  cases ha : s.a with
  | none =>
    have : bs = [] := by
      cases bs with
      | nil => rfl
      | cons b bs =>
        obtain ⟨a, h1, _⟩ := hr.cells 0 (by simp)
        rw [ha] at h1; cases h1
    subst this
    exact ⟨hl, hr.cap, by rw [ha, hl]; rfl⟩
  | some a =>
    refine R.mk' hl hr.cap a ha fun i hi => ?_
    obtain ⟨a', h1, h2⟩ := hr.cells i (by simpa using hi)
    obtain rfl := Option.some.inj (ha.symm.trans h1)
    have h3 := cells?_get _ _ _ h2 0 (by simp)
    have h0 : ∀ x : Addr, x.add 0 = x := fun x => by simp [Addr.add]
    simpa [Nat.mul_one, Shape.size, h0] using h3
abbrev shE : Shape := .cat (.int .i64) (.cat (.int .i64) (.cat (.slice .bool) (.cat (.int .i64) (.cat (.int .i64) .nil))))
def RawE (h : Heap) (e : Int × Int × Sl × Int × Int) : Prop := ∃ keep, EvOk h e keep
theorem is_e {h : Heap} {cs : List Value} (H : shE.Is h cs) : ∃ x : Int × Int × Sl × Int × Int, cs = C_i64ui64usl_i64ui64 x ∧ RawE h x := by
  have wf : ∀ {n : Int}, (Lit.int .i64 n).wf = true → I64 n := fun {n} h => by
    have : -9223372036854775808 ≤ n ∧ n ≤ 9223372036854775807 := by simpa [Lit.wf, IntKind.min, IntKind.max, IntKind.signed, IntKind.bits] using h
    exact this
  obtain ⟨l1, r1, rfl, ⟨k, rfl, _⟩, l2, r2, rfl, ⟨n, rfl, hn⟩, l3, r3, rfl, h3, l4, r4, rfl, ⟨t, rfl, ht⟩, l5, r5, rfl, ⟨r, rfl, hr⟩, rfl⟩ := H
  obtain ⟨s, bs, rfl, hb⟩ := is_bools h3
  exact ⟨(k, n, s, t, r), rfl, bs, hb, wf hn, wf ht, wf hr⟩
end Go.Sh

namespace Go.Sh
open Go Go.Lift
def NoBl (l : List UInt8) : Prop := ∀ x ∈ l, x ≠ 32
def lineW (w : List UInt8) : List (List UInt8) → List UInt8
  | [] => w
  | x :: ws => w ++ 32 :: lineW x ws
theorem index_bl {r : List UInt8} : ∀ {w : List UInt8}, NoBl w → Lib.index (w ++ 32 :: r) [32] = (w.length : Int)
  | [], _ => by unfold Lib.index; simp [List.isPrefixOf]
  | b :: w, h => by
    have hb : b ≠ 32 := h b (List.mem_cons_self ..)
    have ih := index_bl (r := r) (w := w) fun x hx => h x (List.mem_cons_of_mem _ hx)
    rw [List.cons_append, Lib.index, ih]
    have hp : ([32] : List UInt8).isPrefixOf (b :: (w ++ 32 :: r)) = false := by simp [List.isPrefixOf, Ne.symm hb]
    rw [hp]
    have : ¬ ((w.length : Int) == -1) = true := by simp
    rw [if_neg (by simp), if_neg this]
    simp
theorem txt_data (l : List UInt8) : (txt l).data.toList = l := by simp [txt]
theorem txt_of (s : ByteArray) : txt s.data.toList = s := by apply ByteArray.ext; simp [txt]
theorem txt_extract (l : List UInt8) (a b : Nat) : (txt l).extract a b = txt ((l.take b).drop a) := by
  apply ByteArray.ext
  apply Array.toList_inj.1
  simp [txt, List.extract_eq_take_drop, List.drop_take]
theorem splitB_words : ∀ (ws : List (List UInt8)) (w : List UInt8), NoBl w → (∀ x ∈ ws, NoBl x) → Lib.splitB (txt [32]) 0 ws.length (txt (lineW w ws)) = (w :: ws).map txt
  | [], w, _, _ => by simp [Lib.splitB, lineW]
  | x :: ws, w, hw, hws => by
    have hi : Lib.indexB (txt (lineW w (x :: ws))) (txt [32]) = (w.length : Int) := by
      unfold Lib.indexB
      rw [txt_data, txt_data]
      exact index_bl hw
    rw [List.length_cons, Lib.splitB_hit _ _ _ _ _ hi, txt_extract, txt_extract, txt_size, txt_size]
    have e1 : ((lineW w (x :: ws)).take (w.length + 0)).drop 0 = w := by simp [lineW]
    have e2 : ((lineW w (x :: ws)).take (lineW w (x :: ws)).length).drop (w.length + ([32] : List UInt8).length) = lineW x ws := by
      rw [List.take_length]; simp [lineW]
    rw [e1, e2, splitB_words ws x (hws x (List.mem_cons_self ..)) fun y hy => hws y (List.mem_cons_of_mem _ hy)]
    rfl
theorem count_words : ∀ (ws : List (List UInt8)) (w : List UInt8), NoBl w → (∀ x ∈ ws, NoBl x) → (lineW w ws).count 32 = ws.length
  | [], w, hw, _ => List.count_eq_zero.2 fun h => hw 32 h rfl
  | x :: ws, w, hw, hws => by
    have h0 : w.count 32 = 0 := List.count_eq_zero.2 fun h => hw 32 h rfl
    rw [lineW, List.count_append, h0, List.count_cons_self, count_words ws x (hws x (List.mem_cons_self ..)) fun y hy => hws y (List.mem_cons_of_mem _ hy)]
    simp
theorem words_of {w : List UInt8} {ws : List (List UInt8)} (hw : NoBl w) (hws : ∀ x ∈ ws, NoBl x) : wordsL (txt (lineW w ws)) = (w :: ws).map txt := by
  unfold wordsL
  have : Lib.countB (txt (lineW w ws)) (txt [32]) = ws.length := by
    unfold Lib.countB
    rw [txt_data, txt_data, Lib.count_one, count_words ws w hw hws]
  rw [this]
  exact splitB_words ws w hw hws
end Go.Sh

namespace Go.Sh
open Go Go.Lift
theorem dec_digits : ∀ (n u : Nat), u ≤ n → ∀ x ∈ Lib.decDigits u, 48 ≤ x.toNat ∧ x.toNat ≤ 57
  | n, u, hn, x, hx => by
    by_cases h : u < 10
    · rw [dec_small h] at hx
      obtain rfl := List.mem_singleton.1 hx
      rw [UInt8.toNat_ofNat']; omega
    · rw [dec_big h] at hx
      rcases List.mem_append.1 hx with hx | hx
      · cases n with
        | zero => omega
        | succ n => exact dec_digits n (u / 10) (by omega) x hx
      · obtain rfl := List.mem_singleton.1 hx
        rw [UInt8.toNat_ofNat']; omega
theorem dec_ne (u : Nat) : Lib.decDigits u ≠ [] := by
  by_cases h : u < 10
  · rw [dec_small h]; simp
  · rw [dec_big h]; simp
theorem parse_dec : ∀ (n u : Nat) (r : List UInt8), u ≤ n → u < 18446744073709551616 → Lib.parseUint10 0 (Lib.decDigits u ++ r) = Lib.parseUint10 u r
  | n, u, r, hn, hu => by
    have step : ∀ (a d : Nat), d < 10 → a * 10 + d < 18446744073709551616 → Lib.parseUint10 a (UInt8.ofNat (48 + d) :: r) = Lib.parseUint10 (a * 10 + d) r := by
      intro a d hd hlt
      have ht : (UInt8.ofNat (48 + d)).toNat = 48 + d := by rw [UInt8.toNat_ofNat']; omega
      rw [Lib.parseUint10, ht, if_pos (by omega), if_neg (by omega), show 48 + d - 48 = d by omega, if_neg (by omega)]
    by_cases h : u < 10
    · rw [dec_small h, List.singleton_append, step 0 u h (by omega)]
      simp
    · rw [dec_big h, List.append_assoc, List.singleton_append]
      cases n with
      | zero => omega
      | succ n =>
        rw [parse_dec n (u / 10) _ (by omega) (by omega), step (u / 10) (u % 10) (by omega) (by omega)]
        congr 1; omega
theorem parseMag_dec {u : Nat} (hu : u < 18446744073709551616) : Lib.parseMag (Lib.decDigits u) = .ok u := by
  unfold Lib.parseMag
  have := parse_dec u u [] (Nat.le_refl _) hu
  rw [List.append_nil] at this
  rw [if_neg (dec_ne u), this]; rfl
theorem atoi_itoa {n : Int} (hn : I64 n) : atoiN (txt (Lib.itoa n)) = n := by
  obtain ⟨n0, n1⟩ := hn
  have hmag := parseMag_dec (u := n.natAbs) (by omega)
  have hall : Lib.atoiAll (Lib.itoa n) = .ok n := by
    unfold Lib.itoa
    by_cases h : n < 0
    · rw [if_pos h, Lib.atoiAll_minus, hmag]
      simp only [Lib.signed]
      rw [if_neg (by omega), show (-(n.natAbs : Int)) = n by omega]
    · rw [if_neg h, show n.toNat = n.natAbs by omega]
      cases hd : Lib.decDigits n.natAbs with
      | nil => exact absurd hd (dec_ne _)
      | cons c r =>
        have := dec_digits n.natAbs n.natAbs (Nat.le_refl _) c (by rw [hd]; simp)
        rw [Lib.atoiAll_plain c r (by omega) (by omega), ← hd, hmag]
        simp only [Lib.signless]
        rw [if_neg (by omega), show (n.natAbs : Int) = n by omega]
  unfold atoiN
  rw [txt_data, hall]
theorem itoa_nobl (n : Int) : NoBl (Lib.itoa n) := by
  intro x hx
  have dd : ∀ u, ∀ x ∈ Lib.decDigits u, x ≠ 32 := fun u x hx e => by
    have := dec_digits u u (Nat.le_refl _) x hx
    rw [e] at this
    exact absurd this.1 (by decide)
  unfold Lib.itoa at hx
  split at hx
  · rcases List.mem_cons.1 hx with rfl | hx
    · decide
    · exact dd _ x hx
  · exact dd _ x hx
theorem flags_nobl (bs : List Bool) : NoBl (flagsL bs) := by
  intro x hx
  unfold flagsL at hx
  split at hx
  · obtain rfl := List.mem_singleton.1 hx; decide
  · obtain ⟨b, _, rfl⟩ := List.mem_map.1 hx
    cases b <;> decide
theorem truths_flags (bs : List Bool) : truthsL (txt (flagsL bs)) = bs := by
  unfold truthsL flagsL
  by_cases h : bs = []
  · rw [if_pos h, if_pos rfl, h]
  · rw [if_neg h, if_neg, txt_data, List.map_map]
    · have : ((fun b : UInt8 => b == 49) ∘ bitL) = id := by
        funext b; cases b <;> rfl
      rw [this, List.map_id]
    · intro h2
      cases bs with
      | nil => exact absurd rfl h
      | cons b bs =>
        have := txt_inj h2
        cases b <;> simp [bitL] at this
theorem lineL_toldE {e : Ev} : lineL (toldE e) = lineL e := by
  unfold toldE lineL
  by_cases h : e.1 = 3
  · rw [if_pos h]; simp [h]
  · rw [if_neg h]
    dsimp only
    rw [if_neg h, if_neg h]
theorem readE_line {e : Ev} (h : e.1 = 1 ∨ e.1 = 2 ∨ e.1 = 3) (hn : I64 e.2.1) (ht : I64 e.2.2.2.1) (hr : I64 e.2.2.2.2) : readE (wordsL (txt (lineL e))) = toldE e := by
  have nb : ∀ l : List UInt8, l.all (fun x => x != 32) = true → NoBl l := fun l hl x hx => by simpa using List.all_eq_true.1 hl x hx
  rcases h with h | h | h
  · have e1 : lineL e = lineW [115, 116, 101, 112, 115] [Lib.itoa e.2.1] := by unfold lineL; rw [if_pos h]; rfl
    rw [e1, words_of (nb _ (by decide)) (fun x hx => by obtain rfl := List.mem_singleton.1 hx; exact itoa_nobl _)]
    unfold readE toldE
    rw [if_pos ⟨rfl, rfl⟩, if_neg (by omega), h]
    show (1, atoiN (txt (Lib.itoa e.2.1)), _, _, _) = _
    rw [atoi_itoa hn]
  · have e1 : lineL e = lineW [115, 116, 111, 112] [Lib.itoa e.2.1] := by unfold lineL; rw [if_neg (by omega), if_pos h]; rfl
    rw [e1, words_of (nb _ (by decide)) (fun x hx => by obtain rfl := List.mem_singleton.1 hx; exact itoa_nobl _)]
    unfold readE toldE
    rw [if_neg (fun hh => by have := txt_inj (Option.some.inj hh.1); simp at this), if_pos ⟨rfl, rfl⟩, if_neg (by omega), h]
    show (2, atoiN (txt (Lib.itoa e.2.1)), _, _, _) = _
    rw [atoi_itoa hn]
  · have e1 : lineL e = lineW [99, 114, 97, 115, 104] [flagsL e.2.2.1, Lib.itoa e.2.2.2.1, Lib.itoa e.2.2.2.2] := by
      unfold lineL; rw [if_neg (by omega), if_neg (by omega), if_pos h]; simp [lineW]
    rw [e1, words_of (nb _ (by decide)) (fun x hx => by
      rcases List.mem_cons.1 hx with rfl | hx
      · exact flags_nobl _
      rcases List.mem_cons.1 hx with rfl | hx
      · exact itoa_nobl _
      obtain rfl := List.mem_singleton.1 hx; exact itoa_nobl _)]
    unfold readE toldE
    rw [if_neg (fun hh => by have := txt_inj (Option.some.inj hh.1); simp at this), if_neg (fun hh => by have := txt_inj (Option.some.inj hh.1); simp at this), if_pos ⟨rfl, rfl⟩, if_pos h, h]
    show (3, 0, truthsL (txt (flagsL e.2.2.1)), atoiN (txt (Lib.itoa e.2.2.2.1)), atoiN (txt (Lib.itoa e.2.2.2.2))) = _
    rw [truths_flags, atoi_itoa ht, atoi_itoa hr]
theorem TaleLines_holds {e : Int × Int × Sl × Int × Int} {h : Heap} {Q : Bool → Heap → Prop} (q : RawE h e) (g : Glob h) (K : ∀ h', Ext h h' → Q true h') : law24uTaleLines e h Q := by
  obtain ⟨keep, q⟩ := q
  refine mem_ext fun h1 e1 => speaks24uspec (g.ext e1) fun h2 e2 => ⟨nofun, fun _ => ⟨fun _ => K h2 (e1.trans e2), fun hl => ?_⟩⟩
  have hl := of_decide_eq_false hl
  have e02 := e1.trans e2
  have q2 := q.ext e02
  have hk : keep.length ≤ 500 := by have := q.keep.len; omega
  refine Line_spec q2 (by omega) (g.ext e02) fun h3 e3 => ?_
  have e03 := e02.trans e3
  have q3 := q.ext e03
  have hsz : (txt (lineL (evL e keep))).size ≤ 1000000 := by
    have z1 := itoa_len q.n
    have z2 := itoa_len q.t
    have z3 := itoa_len q.r
    have z4 := flagsL_len (bs := keep)
    rw [txt_size]
    unfold lineL
    split
    · simp; omega
    split
    · simp; omega
    split
    · simp; omega
    · simp
  have hin : (evL e keep).1 = e.1 := rfl
  by_cases hkind : e.1 = 1 ∨ e.1 = 2 ∨ e.1 = 3
  · have hre := readE_line (e := evL e keep) hkind q.n q.t q.r
    have htk : (toldE (evL e keep)).1 = e.1 := by unfold toldE; split <;> rfl
    refine Read_spec hsz (g.ext e03) (fun h4 e4 hh => ?_) fun e' h4 q4 hev hk0 hline e4 => ?_
    · rw [hre, htk, lineL_toldE] at hh
      rcases hh with hh | hh
      · omega
      · exact absurd rfl hh
    · refine mem_ext fun h5 e5 => ?_
      have e05 := e03.trans (e4.trans e5)
      refine RefLine_spec (q.ext e05) (by omega) fun h6 e6 => ?_
      rw [beq_txt]
      refine ⟨fun c => by simp at c, fun _ => ?_⟩
      rw [beq_txt]
      refine ⟨fun c => ?_, fun _ => ?_⟩
      · exact absurd (txt_inj (b := [63]) (of_decide_eq_true c)) (line_ne hkind)
      · refine seq.dup ⟨fun _ => ?_, fun c => by simp at c⟩
        refine Told_spec ((q.ext (e05.trans e6)).keep) fun r k h7 hr hrt e7 => ?_
        have hkl : (readE (wordsL (txt (lineL (evL e keep))))).2.2.1.length ≤ 1000000 := readE_len (words_size hsz)
        refine Same_spec (ka := (readE (wordsL (txt (lineL (evL e keep))))).2.2.1) (kb := k) (q4.ext (e5.trans (e6.trans e7))).keep hr hkl fun c h8 hc e8 => ?_
        have : c = true := hc.2 (by rw [hrt, hev, hre])
        rw [this]; exact K h8 (e05.trans (e6.trans (e7.trans e8)))
  · have hline : lineL (evL e keep) = [63] := by unfold lineL; rw [if_neg (by omega), if_neg (by omega), if_neg (by omega)]
    refine Read_spec hsz (g.ext e03) (fun h4 e4 _ => ?_) fun e' h4 q4 hev hk0 hl2 e4 => ?_
    · refine mem_ext fun h5 e5 => ?_
      have e05 := e03.trans (e4.trans e5)
      refine RefLine_spec (q.ext e05) (by omega) fun h6 e6 => ?_
      rw [beq_txt]
      refine ⟨fun c => by simp at c, fun _ => ?_⟩
      rw [beq_txt, hline]
      refine ⟨fun _ => ?_, fun c => ?_⟩
      · refine seq.dup ⟨fun _ => ?_, fun c => by simp at c⟩
        exact Same_spec (ka := []) (kb := []) R.nil R.nil (Nat.zero_le _) fun c h7 hc e7 => by
          have : c = true := hc.2 rfl
          rw [this]; exact K h7 (e05.trans (e6.trans e7))
      · have := of_decide_eq_false c
        exact absurd rfl this
    · exfalso
      rw [hline] at hl2 hk0
      refine line_ne ?_ (txt_inj hl2)
      rcases readE_kind (wordsL (txt [63])) with h | h
      · exact absurd h hk0
      · exact h
end Go.Sh
