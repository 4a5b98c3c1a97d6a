/-
  Laws that the proof of this claim's statement leans on, each proved under the conditions that it states.
-/
import Derived.Test.YtkjcocjkcjmafaaSpF
import Derived.Test.YtkjcocjkcjmafaaSpD
import Derived.Test.YtkjcocjkcjmafaaSpX
set_option linter.unusedVariables false
set_option linter.unusedSimpArgs false
namespace Go.Sh
open Go Go.Lift Go.Cla
def linkW (wat : List (List Int)) (L : List Int) (j : Nat) : List (List Int) :=
  (wat.set (wch (atI L 0)) (wat.getD (wch (atI L 0)) [] ++ [(j : Int)])).set (wch (atI L 1)) ((wat.set (wch (atI L 0)) (wat.getD (wch (atI L 0)) [] ++ [(j : Int)])).getD (wch (atI L 1)) [] ++ [(j : Int)])
def watN (n : Nat) (cs : List Cl) : Nat → List (List Int)
  | 0 => List.replicate (2 * n) []
  | k + 1 => linkW (watN n cs k) (cs.getD k ⟨[], false, 0⟩).lits k
def bld (n : Nat) (cs : List Cl) (k : Nat) : SS := { emptyS n with cls := cs, wat := watN n cs k }
abbrev bldN (n : Nat) (cs : List Cl) : SS := bld n cs cs.length
theorem link_bld (n : Nat) (cs : List Cl) (k : Nat) : linkS (bld n cs k) k = bld n cs (k + 1) := rfl
theorem watN_congr {n : Nat} {cs ds : List Cl} : ∀ {k : Nat}, (∀ i, i < k → (cs.getD i ⟨[], false, 0⟩).lits = (ds.getD i ⟨[], false, 0⟩).lits) → watN n cs k = watN n ds k
  | 0, _ => rfl
  | k + 1, h => by
    unfold watN
    rw [watN_congr (k := k) fun i hi => h i (by omega), h k (by omega)]
theorem watN_length (n : Nat) (cs : List Cl) : ∀ k, (watN n cs k).length = 2 * n
  | 0 => by simp [watN]
  | k + 1 => by unfold watN linkW; rw [List.length_set, List.length_set, watN_length n cs k]
theorem getD_set_len {l : List (List Int)} {i j : Nat} {a : List Int} {B : Nat} (h : ∀ w, (l.getD w []).length ≤ B) (ha : a.length ≤ B + 1) : ((l.set i a).getD j []).length ≤ B + 1 := by
  rw [List.getD_eq_getElem?_getD, List.getElem?_set]
  have := h j
  rw [List.getD_eq_getElem?_getD] at this
  split
  · split
    · simpa using ha
    · simp
  · omega
theorem watN_len (n : Nat) (cs : List Cl) : ∀ k w, ((watN n cs k).getD w []).length ≤ 2 * k
  | 0, w => by
    unfold watN; rw [List.getD_eq_getElem?_getD, List.getElem?_replicate]; split <;> simp
  | k + 1, w => by
    have ih := watN_len n cs k
    unfold watN linkW
    have h1 : ∀ j, (((watN n cs k).set (wch (atI (cs.getD k ⟨[], false, 0⟩).lits 0)) ((watN n cs k).getD (wch (atI (cs.getD k ⟨[], false, 0⟩).lits 0)) [] ++ [(k : Int)])).getD j []).length ≤ 2 * k + 1 := fun j => getD_set_len ih (by have := ih (wch (atI (cs.getD k ⟨[], false, 0⟩).lits 0)); rw [List.length_append, List.length_singleton]; omega)
    exact getD_set_len (B := 2 * k + 1) h1 (by have := h1 (wch (atI (cs.getD k ⟨[], false, 0⟩).lits 1)); rw [List.length_append, List.length_singleton]; omega)
theorem getD_app {cs : List Cl} {c d : Cl} {i : Nat} (hi : i < cs.length) : (cs ++ [c]).getD i d = cs.getD i d := by
  rw [List.getD_eq_getElem?_getD, List.getD_eq_getElem?_getD, List.getElem?_append_left hi]
theorem add_bld (n : Nat) (cs : List Cl) (L : List Int) (b : Bool) : addS (bldN n cs) L b = bldN n (cs ++ [⟨L, b, 0⟩]) := by
  have e : ({ bldN n cs with cls := cs ++ [⟨L, b, 0⟩] } : SS) = bld n (cs ++ [⟨L, b, 0⟩]) cs.length := by
    show ({ emptyS n with cls := cs ++ [⟨L, b, 0⟩], wat := watN n cs cs.length } : SS) = { emptyS n with cls := cs ++ [⟨L, b, 0⟩], wat := watN n (cs ++ [⟨L, b, 0⟩]) cs.length }
    rw [watN_congr (cs := cs) (ds := cs ++ [⟨L, b, 0⟩]) fun i hi => by rw [getD_app hi]]
  unfold addS
  show linkS ({ bldN n cs with cls := cs ++ [⟨L, b, 0⟩] } : SS) cs.length = _
  rw [e, link_bld, bldN, List.length_append, List.length_singleton]
theorem use_bld {n : Nat} {cs : List Cl} {j : Nat} (u : Int) (hj : j < cs.length) : setU (bldN n cs) j u = bldN n (cs.set j { cs.getD j ⟨[], false, 0⟩ with use := u }) := by
  have e : watN n cs cs.length = watN n (cs.set j { cs.getD j ⟨[], false, 0⟩ with use := u }) (cs.set j { cs.getD j ⟨[], false, 0⟩ with use := u }).length := by
    rw [List.length_set]
    refine watN_congr fun i hi => ?_
    rw [getD_set _ _ _ _ _ hj]
    split
    · rename_i e; subst e; rfl
    · rfl
  exact congrArg (fun w => ({ emptyS n with cls := cs.set j { cs.getD j ⟨[], false, 0⟩ with use := u }, wat := w } : SS)) e
theorem Ask.cls {n : Nat} {S : SS} (a : Ask n S) {cs : List Cl} (hl : cs.length = S.cls.length) (h : ∀ j, (cs.getD j ⟨[], false, 0⟩).lits = (S.cl j).lits) : Ask n { S with cls := cs } := by
  have hc : ∀ j, (({ S with cls := cs } : SS).cl j).lits = (S.cl j).lits := h
  have hlit : ∀ j i, lit { S with cls := cs } j i = lit S j i := fun j i => by unfold lit; rw [hc]
  have hw : ∀ j w, watches { S with cls := cs } j w ↔ watches S j w := fun j w => by unfold watches; rw [hlit, hlit]
  have t := a.t
  refine ⟨{ nb := t.nb, vn := t.vn, ln := t.ln, rn := t.rn, wn := t.wn, tri := t.tri, cn := by show cs.length ≤ _; rw [hl]; exact t.cn, fit := fun j hj => by rw [hc]; exact t.fit j (by rw [← hl]; exact hj), tt := t.tt, tn := t.tn, tv := t.tv, nx := t.nx, hn := t.hn }, ⟨fun w hww y hy => ?_, fun w hww j hj => ?_⟩, fun j hj k hk hex => ?_, a.hd⟩
  · obtain ⟨j, h1, h2⟩ := a.w.rng w hww y hy
    exact ⟨j, by show j < cs.length; rw [hl]; exact h1, h2⟩
  · have := a.w.cnt w hww j (by rw [← hl]; exact hj)
    show List.count _ (S.wt w) = _
    rw [this]
    by_cases g : watches S j w
    · rw [if_pos g, if_pos ((hw j w).2 g)]
    · rw [if_neg g, if_neg fun h => g ((hw j w).1 h)]
  · rw [hlit, hlit]
    exact a.p j (by rw [← hl]; exact hj) k hk hex
theorem bld_ask {n : Nat} (hn : n ≤ 1048576) : ∀ (m : Nat) (cs : List Cl), cs.length = m → m ≤ 1000000 → (∀ c ∈ cs, FitsL n c.lits) → Ask n (bldN n cs)
  | 0, cs, hm, _, _ => by
    have : cs = [] := List.eq_nil_of_length_eq_zero hm
    subst this
    exact empty_ask hn
  | m + 1, cs, hm, hb, hf => by
    rcases List.eq_nil_or_concat cs with rfl | ⟨cs0, c, rfl⟩
    · simp at hm
    · rw [List.concat_eq_append] at hm hf ⊢
      have h0 := bld_ask hn m cs0 (by simpa using hm) (by omega) fun c hc => hf c (List.mem_append_left _ hc)
      have h1 := h0.add rfl (hf c (by simp)) (b := c.learned) (by show cs0.length < _; simp at hm; omega)
      rw [add_bld] at h1
      have h2 := h1.cls (cs := cs0 ++ [c]) (by show _ = (cs0 ++ [_]).length; simp) fun j => by
        show _ = ((cs0 ++ [(⟨c.lits, c.learned, 0⟩ : Cl)]).getD j ⟨[], false, 0⟩).lits
        by_cases e : j < cs0.length
        · rw [getD_app e, getD_app e]
        · rw [List.getD_eq_getElem?_getD, List.getD_eq_getElem?_getD, List.getElem?_append_right (by omega), List.getElem?_append_right (by omega)]
          cases j - cs0.length <;> simp
      have e : ({ bldN n (cs0 ++ [(⟨c.lits, c.learned, 0⟩ : Cl)]) with cls := cs0 ++ [c] } : SS) = bldN n (cs0 ++ [c]) := by
        show ({ emptyS n with cls := cs0 ++ [c], wat := watN n (cs0 ++ [(⟨c.lits, c.learned, 0⟩ : Cl)]) (cs0 ++ [(⟨c.lits, c.learned, 0⟩ : Cl)]).length } : SS) = { emptyS n with cls := cs0 ++ [c], wat := watN n (cs0 ++ [c]) (cs0 ++ [c]).length }
        rw [List.length_append, List.length_append, List.length_singleton, List.length_singleton, watN_congr (cs := cs0 ++ [(⟨c.lits, c.learned, 0⟩ : Cl)]) (ds := cs0 ++ [c]) fun i hi => ?_]
        by_cases e : i < cs0.length
        · rw [getD_app e, getD_app e]
        · rw [List.getD_eq_getElem?_getD, List.getD_eq_getElem?_getD, List.getElem?_append_right (by omega), List.getElem?_append_right (by omega)]
          cases i - cs0.length <;> simp
      rw [e] at h2
      exact h2
theorem bld_bnd {n : Nat} {cs : List Cl} {k : Nat} (hn : n ≤ 1048576) (hc : cs.length ≤ 1000000) (hk : k ≤ 1000000) : Bnd (bld n cs k) where
  n := by show (List.replicate n (0 : Int)).length ≤ _; rw [List.length_replicate]; exact hn
  cn := by show cs.length ≤ _; omega
  tn := by show ([] : List Int).length ≤ _; simp
  hn := by show ([] : List Int).length ≤ _; simp
  wn := fun w => by have := watN_len n cs k w; show ((watN n cs k).getD w []).length ≤ _; omega
variable {h : Heap}
theorem OwnV.clear {s : Sl} {l : List Value} {v : Value} {k : Heap → Prop} (ho : OwnV h s l) (hv : one v = true) (K : ∀ h', OwnV h' s (List.replicate l.length v) → Keep s.blk h h' → k h') : clrS [v] s h k := by
  have hl := ho.len
  unfold clrS
  by_cases h0 : s.len = 0
  · rw [if_pos h0]
    have : l = [] := List.eq_nil_of_length_eq_zero (by omega)
    subst this
    exact K h ho (Keep.refl _ _)
  · rw [if_neg h0]
    obtain ⟨ys, e, o⟩ := ho
    rcases o.own with ⟨h1, h2⟩ | ⟨b, c, T, h1, h2, h3, h4⟩
    · have := o.r.cap; omega
    · have hfl : (List.replicate s.len [v]).flatten = List.replicate s.len v := by
        induction s.len with
        | zero => rfl
        | succ m ih => rw [List.replicate_succ, List.flatten_cons, ih, List.replicate_succ]; rfl
      have hcap := o.r.cap
      obtain ⟨c', g1, g2, _, g4, g5⟩ := setCells_block (List.replicate s.len v) 0 0 h c h3 (by rw [List.length_replicate]; omega)
      refine ⟨_, h1, by simpa using g5, ?_⟩
      rw [hfl]
      refine K _ ⟨List.replicate l.length ⟨v, hv⟩, by rw [List.map_replicate], R.mk' (by rw [List.length_replicate]; exact hl) hcap _ h1 fun i hi => ?_, .inr ⟨b, c', T, h1, h2, g1, by rw [g2]; exact h4⟩⟩ (by have := setCells_keep ⟨b, 0, none⟩ (List.replicate s.len v) 0 h; simpa [Sl.blk, h1] using this)
      rw [List.length_replicate] at hi
      have := g4 i (by rw [List.length_replicate]; omega)
      rw [addr_add _ _ rfl]
      simp only [Nat.zero_add] at this ⊢
      unfold cell?
      rw [g1]
      simpa using this
theorem NS.ren {ι : Type} {sc : ι → Nat} {x x1 : ι → Sl} {vs vs1 : ι → List Value} (q : NS sc h x vs) (f : ι → Option ι) (hf : ∀ i j m, f i = some m → f j = some m → i = j)
    (hs : ∀ i m, f i = some m → x1 i = x m ∧ vs1 i = vs m ∧ sc i = sc m) (hn : ∀ i, f i = none → x1 i = Sl.nil ∧ vs1 i = []) : NS sc h x1 vs1 := by
  refine ⟨fun i => ?_, fun i j b hi hj => ?_⟩
  · cases hfi : f i with
    | none =>
      obtain ⟨e1, e2⟩ := hn i hfi
      rw [e1, e2, Sl.sc_nil]; exact OwnV.nil
    | some m =>
      obtain ⟨e1, e2, e3⟩ := hs i m hfi
      rw [e1, e2, e3]; exact q.own m
  · cases hfi : f i with
    | none => rw [(hn i hfi).1] at hi; cases hi
    | some m =>
      cases hfj : f j with
      | none => rw [(hn j hfj).1] at hj; cases hj
      | some m' =>
        rw [(hs i m hfi).1] at hi
        rw [(hs j m' hfj).1] at hj
        have := q.inj m m' b hi hj
        subst this
        exact hf i j m hfi hfj
end Go.Sh

namespace Go.Sh
open Go Go.Lift Go.Cla
variable {h h' : Heap} {p : Addr} {x : Nm → Sl} {vs : Nm → List Value} {S : SS} {n : Nat} {cs : List Cl}
theorem MPg.size {α : Type} {toV : α → Value} {mp : Nat} {g : Int → Option α} (q : MPg toV h mp g) {k : Int → Prop} (K : ∀ m : Int, (m = 0 ↔ ∀ j, g j = none) → k m) : sizeM .i64 toV (some mp) h k := by
  obtain ⟨f, h1, h2⟩ := q
  refine ⟨f, f.length, h1, rfl, K _ ?_⟩
  constructor
  · intro h0 j
    have : f = [] := List.eq_nil_of_length_eq_zero (by omega)
    subst this
    rw [← h2]; rfl
  · intro h0
    cases f with
    | nil => rfl
    | cons a r =>
      have := h2 a.1
      rw [h0] at this
      simp [List.lookup] at this
def gv (g : Int → Option Bool) (j : Nat) : Bool := (g (j : Int)).getD false
def keptN (g : Int → Option Bool) (k : Nat) : List Nat := (List.range k).filter fun j => !(gv g j)
theorem keptN_succ (g : Int → Option Bool) (k : Nat) : keptN g (k + 1) = if gv g k = true then keptN g k else keptN g k ++ [k] := by
  unfold keptN
  rw [List.range_succ, List.filter_append]
  by_cases hb : gv g k = true
  · simp [hb]
  · simp [hb]
theorem keptN_lt {g : Int → Option Bool} {k j : Nat} (h : j ∈ keptN g k) : j < k := by
  unfold keptN at h
  exact List.mem_range.1 (List.mem_filter.1 h).1
theorem keptN_nodup (g : Int → Option Bool) (k : Nat) : (keptN g k).Nodup := List.Pairwise.filter _ (List.nodup_range (n := k))
theorem keptN_len (g : Int → Option Bool) (k : Nat) : (keptN g k).length ≤ k := by
  have := List.length_filter_le (fun j => !(gv g j)) (List.range k)
  rw [List.length_range] at this
  exact this
theorem keptN_none {g : Int → Option Bool} (hg : ∀ j, g j = none) (k : Nat) : keptN g k = List.range k := by
  unfold keptN gv
  rw [List.filter_eq_self]
  intro j _
  rw [hg]; rfl
abbrev d0 : Cl := ⟨[], false, 0⟩
def keptC (g : Int → Option Bool) (cs : List Cl) : List Cl := (keptN g cs.length).map fun j => cs.getD j d0
theorem keptC_none {g : Int → Option Bool} (hg : ∀ j, g j = none) (cs : List Cl) : keptC g cs = cs := by
  unfold keptC
  rw [keptN_none hg]
  apply List.ext_getElem
  · simp
  · intro i h1 h2
    simp [List.getElem?_eq_getElem h2]
theorem keptC_get {g : Int → Option Bool} {k : Nat} (hk : k < (keptN g cs.length).length) : (keptC g cs).getD k d0 = cs.getD (keptN g cs.length)[k] d0 := by
  unfold keptC
  rw [List.getD_eq_getElem?_getD, List.getElem?_map, List.getElem?_eq_getElem hk]; rfl
def trip (x : Nm → Sl) (cs : List Cl) (j : Nat) : List Value := [Sl.toV (x (.c j)), Value.bool (cs.getD j d0).learned, toI (cs.getD j d0).use]
theorem flat_trip_len (x : Nm → Sl) (cs : List Cl) (l : List Nat) : (l.flatMap (trip x cs)).length = 3 * l.length := by
  induction l with
  | nil => rfl
  | cons a r ih => rw [List.flatMap_cons, List.length_append, ih, List.length_cons]; show 3 + _ = _; omega
theorem flat_trip_get (x : Nm → Sl) (cs : List Cl) : ∀ (l : List Nat) (k : Nat) (hk : k < l.length) (u : Nat), u < 3 → (l.flatMap (trip x cs))[3 * k + u]? = (trip x cs l[k])[u]?
  | [], k, hk, _, _ => by simp at hk
  | a :: r, 0, _, u, hu => by
    rw [List.flatMap_cons, List.getElem?_append_left (by show _ < 3; omega)]; simp
  | a :: r, k + 1, hk, u, hu => by
    rw [List.flatMap_cons, List.getElem?_append_right (by show 3 ≤ _; omega)]
    have := flat_trip_get x cs r k (by simpa using hk) u hu
    rw [show 3 * (k + 1) + u - (trip x cs a).length = 3 * k + u by show 3 * (k + 1) + u - 3 = _; omega]
    simpa using this
def redX (x : Nm → Sl) (left : Sl) (kp : List Nat) : Nm → Sl
  | .cls => left
  | .w _ => Sl.nil
  | .c k => match kp[k]? with | some j => x (.c j) | none => Sl.nil
  | nm => x nm
def redV (x : Nm → Sl) (vs : Nm → List Value) (cs : List Cl) (m : Nat) (kp : List Nat) : Nm → List Value
  | .cls => kp.flatMap (trip x cs)
  | .wat => List.replicate m (Sl.toV Sl.nil)
  | .w _ => []
  | .c k => match kp[k]? with | some j => vs (.c j) | none => []
  | nm => vs nm
def redF (kp : List Nat) : Nm → Option Nm
  | .w _ => none
  | .c k => (kp[k]?).map .c
  | nm => some nm
theorem redF_inj {kp : List Nat} (hk : kp.Nodup) : ∀ i j m, redF kp i = some m → redF kp j = some m → i = j := by
  intro i j m hi hj
  have hc : ∀ k k' m : Nat, kp[k]? = some m → kp[k']? = some m → k = k' := by
    intro k k' m h1 h2
    obtain ⟨a1, b1⟩ := List.getElem?_eq_some_iff.1 h1
    obtain ⟨a2, b2⟩ := List.getElem?_eq_some_iff.1 h2
    have hpw := List.pairwise_iff_getElem.1 hk
    rcases Nat.lt_trichotomy k k' with g | g | g
    · exact absurd (b1.trans b2.symm) (hpw k k' a1 a2 g)
    · exact g
    · exact absurd (b2.trans b1.symm) (hpw k' k a2 a1 g)
  cases i <;> cases j <;> simp only [redF, Option.map_eq_some_iff, Option.some.injEq, reduceCtorEq] at hi hj
  all_goals first
    | rfl
    | (subst hi; cases hj; done)
    | (subst hi; cases hj; rfl)
    | (obtain ⟨a, ha, rfl⟩ := hi; obtain ⟨b, hb, hbb⟩ := hj; cases hbb; rw [hc _ _ _ ha hb])
    | (obtain ⟨a, ha, rfl⟩ := hi; cases hj; done)
    | (obtain ⟨a, ha, rfl⟩ := hj; cases hi; done)
theorem redEnc {left : Sl} {g : Int → Option Bool} (E : Enc x vs (bldN n cs)) : Enc (redX x left (keptN g cs.length)) (redV x vs cs (2 * n) (keptN g cs.length)) (bld n (keptC g cs) 0) where
  val := E.val
  lev := E.lev
  rea := E.rea
  tra := E.tra
  hea := E.hea
  wlen := by show (List.replicate (2 * n) (Sl.toV Sl.nil)).length = (List.replicate (2 * n) ([] : List Int)).length; simp
  wr := fun i hi => by
    have hi : i < (List.replicate (2 * n) ([] : List Int)).length := hi
    rw [List.length_replicate] at hi
    show (List.replicate (2 * n) (Sl.toV Sl.nil))[i]? = _
    rw [List.getElem?_replicate, if_pos hi]; rfl
  w := fun i => by
    show [] = ((List.replicate (2 * n) ([] : List Int)).getD i []).map toI
    rw [List.getD_eq_getElem?_getD, List.getElem?_replicate]; split <;> rfl
  clen := by
    show ((keptN g cs.length).flatMap (trip x cs)).length = 3 * (keptC g cs).length
    rw [flat_trip_len]; unfold keptC; rw [List.length_map]
  cr := fun i hi => by
    have hi : i < (keptN g cs.length).length := by have : i < (keptC g cs).length := hi
                                                   unfold keptC at this; rwa [List.length_map] at this
    have e : (keptN g cs.length)[i]? = some (keptN g cs.length)[i] := List.getElem?_eq_getElem hi
    have c1 : (bld n (keptC g cs) 0).cl i = cs.getD (keptN g cs.length)[i] d0 := keptC_get hi
    have h0 := flat_trip_get x cs _ i hi 0 (by decide)
    have h1 := flat_trip_get x cs _ i hi 1 (by decide)
    have h2 := flat_trip_get x cs _ i hi 2 (by decide)
    refine ⟨?_, ?_, ?_⟩
    · refine h0.trans ?_
      show some _ = some (Sl.toV (match (keptN g cs.length)[i]? with | some j => x (.c j) | none => Sl.nil))
      rw [e]
    · rw [c1]; exact h1
    · rw [c1]; exact h2
  c := fun i => by
    show (match (keptN g cs.length)[i]? with | some j => vs (.c j) | none => []) = ((keptC g cs).getD i d0).lits.map toI
    cases e : (keptN g cs.length)[i]? with
    | none =>
      unfold keptC
      rw [List.getD_eq_getElem?_getD, List.getElem?_map, e]; rfl
    | some j =>
      obtain ⟨hi, hj⟩ := List.getElem?_eq_some_iff.1 e
      rw [keptC_get hi, hj]
      exact E.c j
end Go.Sh

namespace Go.Sh
open Go Go.Lift Go.Cla
variable {h h' : Heap} {p : Addr} {x : Nm → Sl} {vs : Nm → List Value} {S : SS} {n : Nat} {cs : List Cl}
def Gone (S : SS) (most : Int) (g : Int → Option Bool) : Prop :=
  (((lrn S S.cls.length).length : Int) ≤ most0 most ∧ ∀ j, g j = none) ∨
  (most0 most < ((lrn S S.cls.length).length : Int) ∧ ∃ ys : List Int, ys.Perm (lrn S S.cls.length) ∧ ys.Pairwise (lexU (useI S)) ∧ ∀ k, g k = if k ∈ ys.take ((lrn S S.cls.length).length - (most0 most).toNat / 2) then some true else none)
theorem idleG {most : Int} {Q : Option Nat → Heap → Prop} (q : SM h p x vs S) (hn : S.cls.length ≤ 1000) (hl : (lrn S S.cls.length).length ≤ 39)
    (K : ∀ mp g h', Gone S most g → MPg Value.bool h' mp g → Ext h h' → h.size ≤ mp → Q (some mp) h') : clause_idle (some p) most h Q :=
  idle_spec q hn hl (fun h0 mp h' m e hs => K mp _ h' (.inl ⟨h0, fun _ => rfl⟩) m e hs) (fun h0 mp ys h' py wy m e hs => K mp _ h' (.inr ⟨h0, ys, py, wy, fun _ => rfl⟩) m e hs)
theorem Reduce_held {most : Int} {Q : Unit → Heap → Prop} (q : SM h p x vs S) (hn : S.cls.length ≤ 1000) (hl : (lrn S S.cls.length).length ≤ 39) (hh : 0 < S.hea.length) (K : ∀ h', Ext h h' → Q () h') : clause_Reduce (some p) most h Q := by
  refine idleG q hn hl fun mp g h1 _ m1 e1 _ => ?_
  have q1 := q.ext e1
  refine seq.cut (fun (b : Bool) h' => b = true ∧ h' = h1) ?_ ?_
  · refine q1.ld6 (iteT ?_ ⟨rfl, rfl⟩)
    rw [q1.hea.r.len]; simp; omega
  rintro b h' ⟨rfl, rfl⟩
  exact ⟨fun _ => K _ e1, fun g => by cases g⟩
theorem Reduce_spec {most : Int} {Q : Unit → Heap → Prop} (q : SM h p x vs (bldN n cs)) (hn : n ≤ 1048576) (hc : cs.length ≤ 1000) (hf : ∀ c ∈ cs, FitsL n c.lits) (hl : (lrn (bldN n cs) cs.length).length ≤ 39)
    (K : ∀ g h' x' vs', Gone (bldN n cs) most g → SM h' p x' vs' (bldN n (keptC g cs)) → To p 8 h x h' x' → (∀ k (hk : k < (keptN g cs.length).length), x' (.c k) = x (.c (keptN g cs.length)[k])) → Q () h') : clause_Reduce (some p) most h Q := by
  refine idleG q hc hl fun mp g h1 hg m1 e1 hmp => ?_
  have q1 := q.ext e1
  refine seq.cut (fun (b : Bool) h' => (b = true ↔ ∀ j, g j = none) ∧ h' = h1) ?_ ?_
  · refine q1.ld6 (iteF ?_ ?_)
    · rw [q1.hea.r.len]; rfl
    refine m1.size fun m hm => ⟨?_, rfl⟩
    rw [beq_iff_eq]; exact hm
  rintro b h' ⟨hb, rfl⟩
  refine ⟨fun hbt => ?_, fun hbf => ?_⟩
  · have hno := hb.1 hbt
    refine K g h' x vs hg (by rw [keptC_none hno]; exact q1) (q.toExt e1) fun k hk => ?_
    simp only [keptN_none hno, List.getElem_range]
  clear hb hbf b
  have hp1 := q1.plt
  have ncl : ∀ m : Nat, m < cs.length → (bldN n cs).cl m = cs.getD m d0 := fun _ _ => rfl
  refine q1.ld0 ?_
  refine loop.inv (fun (t : Sl × Int) h2 => ∃ k : Nat, t.2 = (k : Int) ∧ k ≤ cs.length ∧ OwnV h2 (Sl.sc 3 t.1) ((keptN g k).flatMap (trip x cs)) ∧ (∀ b, t.1.blk = some b → h'.size ≤ b) ∧ Ext h' h2) (fun t _ => cs.length - t.2.toNat)
    ⟨0, rfl, by omega, by rw [Sl.sc_nil]; exact OwnV.nil, nofun, Keep.refl _ _⟩ ?_
  rintro ⟨s, _⟩ h2 ⟨k, rfl, hk, o2, hbs, e2⟩
  dsimp only at o2 hbs ⊢
  have q2 := q1.ext e2
  have m2 := m1.keep e2 (by simp)
  have hcl : (x .cls).len = cs.length := q.clsLen
  have kl := keptN_len g k
  refine ⟨fun hlt => ?_, fun hge => ?_⟩
  · have hlt := of_decide_eq_true hlt
    rw [hcl] at hlt
    have hk' : k < cs.length := by omega
    refine seq.cut (fun (s' : Sl) h3 => OwnV h3 (Sl.sc 3 s') ((keptN g (k + 1)).flatMap (trip x cs)) ∧ (∀ b, s'.blk = some b → h'.size ≤ b) ∧ Ext h' h3) ?_ ?_
    · refine q2.clsLd (j := k) rfl hk' (mem_ext fun h3 e3 => ?_)
      have e23 := e2.trans e3
      refine (m2.keep e3 (by simp)).look ?_
      rw [keptN_succ]
      show iteB (!(gv g k)) _ _
      by_cases hgv : gv g k = true
      · rw [if_pos hgv, hgv]
        exact ⟨nofun, fun _ => ⟨o2.keep e3 (by simp), hbs, e23⟩⟩
      · rw [if_neg hgv]
        rw [show gv g k = false by simpa using hgv]
        refine ⟨fun _ => ?_, nofun⟩
        intro T
        have e4 := Ext.push h3 (.cells (trip x cs k).toArray T (0, 0))
        have hrow := (Own.new (toV := (Subtype.val : One → Value)) (h := h3) (ys := [⟨Sl.toV (x (.c k)), rfl⟩, ⟨Value.bool (cs.getD k d0).learned, rfl⟩, ⟨toI (cs.getD k d0).use, rfl⟩]) (cs := trip x cs k) (T := T) rfl).r
        have o4 : OwnV (h3.push (.cells (trip x cs k).toArray T (0, 0))) (Sl.sc 3 s) ((keptN g k).flatMap (trip x cs)) := (o2.keep e3 (by simp)).keep e4 (by simp)
        have z4 : (h3.push (.cells (trip x cs k).toArray T (0, 0)) : Heap).size = h3.size + 1 := by simp
        have ol := o2.len
        rw [flat_trip_len] at ol
        have ol' : s.len * 3 = 3 * (keptN g k).length := ol
        refine appendS_sc (by decide) (by show (s.len + 1) * 40 ≤ 2 ^ 46; omega) ?_
        refine o4.append (ys := trip x cs k) ⟨_, rfl, hrow⟩ (by rw [flat_trip_len]; show (3 * (keptN g k).length + 3) * _ ≤ _; omega) fun v h5 o5 k5 hb5 s'' hs'' => ?_
        subst hs''
        have s3 := e3.size; have s2 := e2.size
        refine ⟨by rw [List.flatMap_append]; simpa using o5, fun b hb => ?_, ?_⟩
        · rcases hb5 b hb with g1 | g1
          · exact hbs b g1
          · omega
        · have e24 := e23.trans e4
          have k5 : Keep s.blk _ h5 := k5
          cases hsb : s.blk with
          | none => rw [hsb] at k5; exact e24.trans k5
          | some b => rw [hsb] at k5; exact e24.fresh (hbs b hsb) k5
    rintro s' h3 ⟨o3, b3, e3⟩
    rw [w64 (by omega) (by omega)]
    exact ⟨⟨k + 1, by simp, by omega, o3, b3, e3⟩, by omega⟩
  have hge := of_decide_eq_false hge
  rw [hcl] at hge
  have hk' : k = cs.length := by omega
  subst hk'
  obtain ⟨kp, hkp⟩ : ∃ kp, kp = keptN g cs.length := ⟨_, rfl⟩
  obtain ⟨ks, hks⟩ : ∃ ks, ks = keptC g cs := ⟨_, rfl⟩
  have kpl : ks.length = kp.length := by rw [hks, hkp]; unfold keptC; rw [List.length_map]
  have s2 := e2.size
  have sp : s.blk ≠ some p.block := fun e => by have := hbs _ e; omega
  have x1 : ∀ nm b, (upd x .cls s nm).blk = some b → b ≠ p.block := by
    intro nm b hb e
    subst e
    by_cases e2 : nm = .cls
    · subst e2; rw [upd_at] at hb; exact sp hb
    · rw [upd_ne e2] at hb; exact q.pn _ hb
  have n2 : NS Nm.sc h2 (upd x .cls s) (upd vs .cls ((keptN g cs.length).flatMap (trip x cs))) := q1.ns.put .cls (Keep.of_ext e2) o2 (fun b hb => .inr (hbs b hb))
  have t2 : To p 8 h x h2 (upd x .cls s) := (q.toExt e1).trans (To.row .cls (Keep.of_ext e2) (q.pn _) (fun b hb => .inr (hbs b hb)) hp1)
  refine ⟨p, rfl, ⟨_, (q2.root 0 (by decide)).1⟩, (q2.root 0 (by decide)).2, ?_⟩
  have k3 := Keep.setCell h2 (p.add 0) (Sl.toV s)
  rw [addr_add_block] at k3
  have r3 := q2.root.set q.spot (i := 0) (by decide) (Sl.toV s)
  have t3 : To p 8 h x (setCell h2 (p.add 0) (Sl.toV s)) (upd x .cls s) := t2.trans (To.set q.spot (by decide))
  have n3 := n2.keep k3 (fun i b hb e => x1 i b hb (Option.some.inj e))
  generalize setCell h2 (p.add 0) (Sl.toV s) = h3 at *
  refine ⟨p, rfl, x .wat, (r3 1 (by decide)).1, ?_⟩
  have w3 := n3.own .wat
  rw [upd_ne (by simp), upd_ne (by simp), show Nm.sc .wat = 1 from rfl, Sl.sc_one] at w3
  have wl : (vs .wat).length = 2 * n := by rw [q.enc.wlen]; exact watN_length n cs _
  refine w3.clear rfl fun h4 w4 k4 => ?_
  rw [wl] at w4
  have n4 := n3.put .wat (s' := x .wat) (l' := List.replicate (2 * n) (Sl.toV Sl.nil)) (h' := h4) (by rw [upd_ne (by simp)]; exact k4) (by rw [show Nm.sc .wat = 1 from rfl, Sl.sc_one]; exact w4) (fun b hb => .inl (by rw [upd_ne (by simp)]; exact hb))
  have t4 : To p 8 h x h4 (upd (upd x .cls s) .wat (x .wat)) := t3.trans (To.row (p := p) (n := 8) (x := upd x .cls s) Nm.wat (s' := x .wat) (h := h3) (h' := h4) (by rw [upd_ne (by simp)]; exact k4) (by rw [upd_ne (by simp)]; exact q.pn _) (fun b hb => .inl (by rw [upd_ne (by simp)]; exact hb)) r3.lt)
  have n5 : NS Nm.sc h4 (redX x s kp) (redV x vs cs (2 * n) kp) := by
    refine n4.ren (redF kp) (redF_inj (by rw [hkp]; exact keptN_nodup g _)) (fun i m him => ?_) (fun i hi => ?_)
    · cases i with
      | c k =>
        simp only [redF, Option.map_eq_some_iff] at him
        obtain ⟨j, hj, rfl⟩ := him
        rw [upd_ne (by simp), upd_ne (by simp), upd_ne (by simp), upd_ne (by simp)]
        simp only [redX, redV, hj]
        exact ⟨trivial, trivial, rfl⟩
      | w k => simp [redF] at him
      | cls =>
        simp only [redF, Option.some.injEq] at him; subst him
        have a1 : upd (upd x .cls s) .wat (x .wat) .cls = s := by rw [upd_ne (by simp), upd_at]
        have a2 : upd (upd vs .cls ((keptN g cs.length).flatMap (trip x cs))) .wat (List.replicate (2 * n) (Sl.toV Sl.nil)) .cls = (keptN g cs.length).flatMap (trip x cs) := by rw [upd_ne (by simp), upd_at]
        rw [a1, a2, hkp]
        exact ⟨rfl, rfl, rfl⟩
      | wat =>
        simp only [redF, Option.some.injEq] at him; subst him
        rw [upd_at, upd_at]
        exact ⟨rfl, rfl, rfl⟩
      | _ =>
        simp only [redF, Option.some.injEq] at him; subst him
        rw [upd_ne (by simp), upd_ne (by simp), upd_ne (by simp), upd_ne (by simp)]
        exact ⟨rfl, rfl, rfl⟩
    · cases i with
      | c k =>
        simp only [redF, Option.map_eq_none_iff] at hi
        simp only [redX, redV, hi]
        exact ⟨trivial, trivial⟩
      | w k => exact ⟨rfl, rfl⟩
      | _ => simp [redF] at hi
  have nm5 : ∀ i b, (redX x s kp i).blk = some b → ∃ j, (upd (upd x .cls s) .wat (x .wat) j).blk = some b := by
    intro i b hb
    cases i with
    | c k =>
      simp only [redX] at hb
      split at hb
      · rename_i j _; exact ⟨.c j, by rw [upd_ne (by simp), upd_ne (by simp)]; exact hb⟩
      · cases hb
    | w k => cases hb
    | cls => exact ⟨.cls, by rw [upd_ne (by simp), upd_at]; exact hb⟩
    | wat => exact ⟨.wat, by rw [upd_at]; exact hb⟩
    | val => exact ⟨.val, by rw [upd_ne (by simp), upd_ne (by simp)]; exact hb⟩
    | lev => exact ⟨.lev, by rw [upd_ne (by simp), upd_ne (by simp)]; exact hb⟩
    | rea => exact ⟨.rea, by rw [upd_ne (by simp), upd_ne (by simp)]; exact hb⟩
    | tra => exact ⟨.tra, by rw [upd_ne (by simp), upd_ne (by simp)]; exact hb⟩
    | hea => exact ⟨.hea, by rw [upd_ne (by simp), upd_ne (by simp)]; exact hb⟩
    | x k => exact ⟨.x k, by rw [upd_ne (by simp), upd_ne (by simp)]; exact hb⟩
  have t5 : To p 8 h x h4 (redX x s kp) := t4.trans (To.names nm5)
  have pn5 : ∀ i, (redX x s kp i).blk ≠ some p.block := by
    intro i hb
    obtain ⟨j, hj⟩ := nm5 i _ hb
    by_cases e : j = .wat
    · subst e; rw [upd_at] at hj; exact q.pn _ hj
    · rw [upd_ne e] at hj; exact x1 j _ hj rfl
  have q5 : SM h4 p (redX x s kp) (redV x vs cs (2 * n) kp) (bld n ks 0) := by
    refine ⟨n5, q.spot, ?_, pn5, by rw [hkp, hks]; exact redEnc q.enc⟩
    have r4 := r3.keep k4 (fun e => q.pn .wat e.symm)
    intro i hi
    have := r4 i hi
    refine ⟨this.1.trans ?_, this.2⟩
    match i, hi with
    | 0, _ => rfl
    | 1, _ => rfl
    | 2, _ => rfl
    | 3, _ => rfl
    | 4, _ => rfl
    | 5, _ => rfl
    | 6, _ => rfl
    | 7, _ => rfl
  have c5 : ∀ k (hk : k < kp.length), redX x s kp (.c k) = x (.c kp[k]) := fun k hk => by
    simp only [redX, List.getElem?_eq_getElem hk]
  have hf' : ∀ c ∈ ks, FitsL n c.lits := by
    intro c hc
    rw [hks] at hc
    unfold keptC at hc
    obtain ⟨j, hj, rfl⟩ := List.mem_map.1 hc
    have := keptN_lt hj
    rw [List.getD_eq_getElem?_getD, List.getElem?_eq_getElem this]
    exact hf _ (List.getElem_mem _)
  have hkc : ks.length ≤ 1000 := by rw [kpl, hkp]; omega
  clear n4 n5 t4 t3 t2 n3 n2
  refine q5.ld0 ?_
  have sl : s.len = ks.length := q5.clsLen
  refine loop.inv (fun (t : Int) hh => ∃ (k : Nat) (x' : Nm → Sl) (vs' : Nm → List Value), t = (k : Int) ∧ k ≤ ks.length ∧ SM hh p x' vs' (bld n ks k) ∧ To p 8 h x hh x' ∧ (∀ i, x' (.c i) = redX x s kp (.c i))) (fun t _ => ks.length - t.toNat)
    ⟨0, _, _, rfl, by omega, q5, t5, fun _ => rfl⟩ ?_
  rintro t h5 ⟨k, x', vs', rfl, hk, q6, t6, c6⟩
  refine ⟨fun hlt => ?_, fun hge => ?_⟩
  · have hlt := of_decide_eq_true hlt
    rw [show (redX x s kp .cls).len = s.len from rfl, sl] at hlt
    have hk' : k < ks.length := by omega
    have ff : FitsL n ((bld n ks k).cl k).lits := by
      show FitsL n (ks.getD k d0).lits
      rw [List.getD_eq_getElem?_getD, List.getElem?_eq_getElem hk']
      exact hf' _ (List.getElem_mem _)
    have vl : (bld n ks k).val.length = n := by show (List.replicate n (0 : Int)).length = n; simp
    refine link_spec q6 (bld_bnd hn (by omega) (by omega)) hk' ff.2.2 (by rw [vl]; exact ff.1) (by rw [vl]; exact watN_length n ks k) fun h6 x7 vs7 q7 t7 c7 => ?_
    rw [w64 (by omega) (by omega)]
    exact ⟨⟨k + 1, x7, vs7, by omega, by omega, q7, t6.trans t7, fun i => (c7 i).trans (c6 i)⟩, by omega⟩
  have hge := of_decide_eq_false hge
  rw [show (redX x s kp .cls).len = s.len from rfl, sl] at hge
  have hk' : k = ks.length := by omega
  subst hk'
  refine q6.ld4 ?_
  have rl : (x' .rea).len = n := by rw [q6.rea.r.len]; show (List.replicate n (-1 : Int)).length = n; simp
  rw [rl]
  refine loop.inv (fun (t : Int) hh => ∃ (k : Nat) (vs' : Nm → List Value), t = (k : Int) ∧ k ≤ n ∧ SM hh p x' vs' (bldN n ks) ∧ To p 8 h x hh x') (fun t _ => n - t.toNat) ⟨0, vs', rfl, by omega, q6, t6⟩ ?_
  rintro t h6 ⟨k, vs7, rfl, hk, q7, t7⟩
  refine ⟨fun hlt => ?_, fun hge => ?_⟩
  · have hlt := of_decide_eq_true hlt
    have hE : Enc x' (upd vs7 .rea (((bldN n ks).rea.set k (-1)).map toI)) (bldN n ks) := by
      have h1 : (bldN n ks).rea.set k (-1) = (bldN n ks).rea := by
        show (List.replicate n (-1 : Int)).set k (-1) = List.replicate n (-1)
        apply List.ext_getElem (by simp)
        intro i h1 h2
        simp [List.getElem_set]
      rw [h1]
      exact q7.enc.setRea (bldN n ks).rea
    refine q7.ld4 ?_
    refine q7.stI (nm := .rea) rfl q7.enc.rea (j := k) rfl (by show k < (List.replicate n (-1 : Int)).length; simp; omega) hE rfl fun h7 q8 t8 => ?_
    rw [w64 (by omega) (by omega)]
    exact ⟨⟨k + 1, _, by omega, by omega, q8, t7.trans t8⟩, by omega⟩
  · refine K g h6 x' vs7 hg (by rw [← hks]; exact q7) t7 fun j hj => ?_
    subst hkp
    rw [c6, c5 j hj]
end Go.Sh

namespace Go.Sh
open Go Go.Lift Go.Cla
variable {h h' : Heap} {p : Addr} {x : Nm → Sl} {vs : Nm → List Value} {S : SS} {n : Nat} {cs : List Cl}
theorem SM.srd (q : SM h p x vs S) : SRd h (x .cls, x .wat, x .val, x .lev, x .rea, x .tra, x .hea, (S.nxt : Int)) S S.nxt where
  clen := q.clsLen
  cls := ⟨fun i => x (.c i), fun i hi => by
    obtain ⟨a, h1, _, v, h2, h3⟩ := q.clsLd (k := fun v => v = (x (.c i), (S.cl i).learned, (S.cl i).use)) (i := (i : Int)) (j := i) rfl hi rfl
    subst h3
    rw [Int.toNat_natCast] at h2
    exact ⟨a, h1, h2, (q.cl i).r⟩⟩
  wat := ⟨(List.range S.wat.length).map fun w => x (.w w), ⟨by
    refine R.same (q.ns.own .wat |> fun o => by rw [show Nm.sc .wat = 1 from rfl, Sl.sc_one] at o; obtain ⟨ys, e, o'⟩ := o; exact R.same (toU := id) (ys := vs .wat) o'.r (by rw [e]; simp)) ?_
    rw [List.map_id]
    apply List.ext_getElem?
    intro i
    by_cases hi : i < S.wat.length
    · rw [q.enc.wr i hi]; simp [hi]
    · rw [List.getElem?_eq_none (by rw [q.enc.wlen]; omega), List.getElem?_eq_none (by simp; omega)], by simp, fun i h1 h2 => by
    simp only [List.getElem_map, List.getElem_range]
    have := (q.wt i).r
    unfold SS.wt at this
    rwa [List.getD_eq_getElem?_getD, List.getElem?_eq_getElem h2] at this⟩⟩
  val := q.val.r
  lev := q.lev.r
  rea := q.rea.r
  tra := q.tra.r
  hea := q.hea.r
  nx := rfl
theorem total_set {l : List (List Int)} {i : Nat} {y : Int} (hi : i < l.length) : total (l.set i (l.getD i [] ++ [y])) = total l + 1 := by
  induction l generalizing i with
  | nil => simp at hi
  | cons a r ih =>
    cases i with
    | zero => simp [total]; omega
    | succ i =>
      have := ih (i := i) (by simpa using hi)
      simp only [total, List.set_cons_succ, List.map_cons, List.sum_cons] at this ⊢
      simp only [List.getD_cons_succ]
      omega
theorem total_watN {n : Nat} {cs : List Cl} (hf : ∀ c ∈ cs, FitsL n c.lits) : ∀ k, k ≤ cs.length → total (watN n cs k) = 2 * k
  | 0, _ => by
    unfold watN total
    rw [List.map_replicate, List.length_nil]
    induction 2 * n with
    | zero => rfl
    | succ m ih => rw [List.replicate_succ, List.sum_cons, ih]
  | k + 1, hk => by
    have ih := total_watN hf k (by omega)
    have f : FitsL n (cs.getD k d0).lits := by
      rw [List.getD_eq_getElem?_getD, List.getElem?_eq_getElem (by omega)]
      exact hf _ (List.getElem_mem _)
    have h2 := f.2.2
    have l0 := wch_lt (f.1 _ (at_mem (i := 0) (by omega)))
    have l1 := wch_lt (f.1 _ (at_mem (i := 1) (by omega)))
    have hw := watN_length n cs k
    unfold watN linkW
    rw [total_set (by rw [List.length_set, hw]; exact l1), total_set (by rw [hw]; exact l0), ih]
    omega
theorem bld_cl (n : Nat) (cs : List Cl) (k j : Nat) : (bld n cs k).cl j = cs.getD j d0 := rfl
theorem bld_right (hn : n ≤ 1048576) (hc : cs.length ≤ 1000000) (hf : ∀ c ∈ cs, FitsL n c.lits) (hu : ∀ c ∈ cs, 0 ≤ c.use) : RightS (bldN n cs) 0 := by
  have a := bld_ask hn cs.length cs rfl hc hf
  have t := a.t
  have hv : (bldN n cs).val.length = n := t.vn
  have cl : ∀ i, i < cs.length → (bldN n cs).cl i ∈ cs := fun i hi => by
    rw [bld_cl, List.getD_eq_getElem?_getD, List.getElem?_eq_getElem hi]
    exact List.getElem_mem _
  exact {
    wlen := by rw [t.wn, hv]
    llen := by rw [t.ln, hv]
    rlen := by rw [t.rn, hv]
    nlo := by omega
    nhi := by show (0 : Int) ≤ ((([] : List Int)).length : Int); simp
    cls := fun i hi => ⟨hu _ (cl i hi), by rw [hv]; exact hf _ (cl i hi)⟩
    tot := total_watN hf _ (Nat.le_refl _)
    wat := fun i hi k hk => by
      have f := hf _ (cl i hi)
      have h2 := f.2.2
      have hl := wch_lt (f.1 _ (at_mem (i := k) (by omega)))
      have := a.w.cnt _ hl i hi
      refine this.trans (if_pos ?_)
      match k, hk with
      | 0, _ => exact .inl rfl
      | 1, _ => exact .inr rfl
    tra := fun i hi => by have : i < ([] : List Int).length := hi; simp at this
    hea := fun i hi => by have : i < ([] : List Int).length := hi; simp at this
    fre := fun v hv' _ => ⟨at_rep0, at_rep0, by
      rw [hv] at hv'
      show atI (List.replicate n (-1)) v = -1
      unfold atI
      rw [List.getD_eq_getElem?_getD, List.getElem?_replicate, if_pos hv']; rfl⟩
    rea := fun i hi => by have : i < ([] : List Int).length := hi; simp at this }
theorem bld_few {cs : List Cl} (hn : n ≤ 20) (hc : cs.length ≤ 60) (hf : ∀ c ∈ cs, FitsL n c.lits) : Few8 (bldN n cs) := by
  have a := bld_ask (n := n) (by omega) cs.length cs rfl (by omega) hf
  have t := a.t
  have hv : (bldN n cs).val.length = n := t.vn
  refine ⟨by omega, by show cs.length ≤ _; omega, by rw [t.wn]; omega, by show ([] : List Int).length ≤ _; simp, by show ([] : List Int).length ≤ _; simp, fun i => ?_, fun w => ?_⟩
  · by_cases hi : i < cs.length
    · have : (bldN n cs).cl i ∈ cs := by
        rw [bld_cl, List.getD_eq_getElem?_getD, List.getElem?_eq_getElem hi]
        exact List.getElem_mem _
      have f := hf _ this
      have := few_of_nodup f.2.1 (N := n) (fun v hv => by obtain ⟨l, hl, e⟩ := List.mem_map.1 hv; rw [← e]; exact (f.1 l hl).tr)
      rw [List.length_map] at this
      omega
    · rw [bld_cl, List.getD_eq_getElem?_getD, List.getElem?_eq_none (by omega)]; simp
  · by_cases hw : w < 2 * n
    · have := a.w.len hw
      have h2 : (bldN n cs).cls.length = cs.length := rfl
      omega
    · rw [wt_none (by rw [t.wn]; omega)]; simp
end Go.Sh
