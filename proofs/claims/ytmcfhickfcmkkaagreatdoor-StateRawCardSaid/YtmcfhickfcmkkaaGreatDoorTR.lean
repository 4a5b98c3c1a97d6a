/-
  Laws that the proof of this claim's statement leans on, each proved under the conditions that it states.
-/
import Derived.Test.YtmcfhickfcmkkaaGreatDoorTQ
set_option linter.unusedVariables false
set_option linter.unusedSimpArgs false
namespace Go.Sh.Pk
open Go Go.Lift
section
variable {h h0 : Heap}
theorem RowQ.r1 {α : Type} {toV : α → Value} {β : Type} {W : Heap → α → β → Prop} {s : Sl} {ms : List β} (q : RowQ (fun x => [toV x]) 1 W h s ms) : ∃ ys, Go.Lift.R toV h s ys ∧ All2 (W h) ys ms := by
  obtain ⟨c, ys, r, a⟩ := q
  refine ⟨ys, ?_, a⟩
  cases hs : s.a with
  | none =>
    have hn : ys = [] := by
      cases ys with
      | nil => rfl
      | cons y l => obtain ⟨b, hb, _⟩ := r.cells 0 (by simp); rw [hs] at hb; cases hb
    subst hn
    exact ⟨r.len, c, by rw [hs]; have : s.len = 0 := r.len; rw [this]; rfl⟩
  | some b =>
    refine R.mk' r.len c b hs fun i hi => ?_
    obtain ⟨b', hb, hc⟩ := r.cells i hi
    rw [hs] at hb; cases hb
    have := cells?_get _ _ _ hc 0 (by simp)
    simpa [Addr.add, b7] using this
def sOf (cls : List LC) (wat : List (List Int)) (a b c d e : List Int) : Cl.SS := ⟨cls.map fun c => ⟨c.1, c.2.1, c.2.2⟩, wat, a, b, c, d, e, 0⟩
theorem alr {x : S8} {cls : List LC} {wat : List (List Int)} {a b c d e : List Int} {n : Int} (hx : SeaX h x (((cls, wat), [a, b, c, d, e]), n)) : Cl.SRd h x (sOf cls wat a b c d e) n := by
  obtain ⟨x1, x2, x3, x4⟩ := hx
  dsimp only at x1 x2 x3 x4
  rcases x3 with _ | ⟨r1, x3⟩
  rcases x3 with _ | ⟨r2, x3⟩
  rcases x3 with _ | ⟨r3, x3⟩
  rcases x3 with _ | ⟨r4, x3⟩
  rcases x3 with _ | ⟨r5, x3⟩
  refine ⟨?_, ?_, ?_, r1, r2, r3, r4, r5, x4⟩
  · show x.1.len = (cls.map _).length
    rw [List.length_map, x1.len]
  · obtain ⟨_, ys, r, al⟩ := x1
    refine ⟨fun i => (ys.getD i (Sl.nil, false, 0)).1, fun i hi => ?_⟩
    have hi' : i < cls.length := by have : i < (cls.map _).length := hi; rwa [List.length_map] at this
    have hy : i < ys.length := by rw [al.length]; exact hi'
    obtain ⟨w, hb, hc⟩ := r.cells i hy
    have hr := al.get i hy hi'
    have hcl : (sOf cls wat a b c d e).cl i = ⟨cls[i].1, cls[i].2.1, cls[i].2.2⟩ := by
      show (cls.map _).getD i _ = _
      rw [jw (by rw [List.length_map]; exact hi')]
      simp
    refine ⟨w, hb, ?_, ?_⟩
    · dsimp only
      rw [hcl, jw hy, hc]
      dsimp only
      rw [← hr.2.1, ← hr.2.2]
    · dsimp only
      rw [hcl, jw hy]; exact hr.1
  · obtain ⟨ss, r, al⟩ := RowQ.r1 (toV := Sl.toV) x2
    exact ⟨ss, r, al.length, fun i h1 h2 => al.get i h1 h2⟩
theorem akD {x : S8} {cls : List LC} {wat : List (List Int)} {a b c d e : List Int} {n : Int} (hl : (eSea (((cls, wat), [a, b, c, d, e]), n)).length ≤ 3000) : Cl.Few8 (sOf cls wat a b c d e) := by
  simp only [eSea, eN, List.map_cons, List.map_nil, List.flatten_cons, List.flatten_nil, List.append_nil, List.length_append] at hl
  have n1 := iu (enc := eC) (l := cls) (k := 17) fun v => by have := fg v.1; unfold eC encF encI; simp only [List.length_append, aF]; omega
  have n2 : 8 * wat.length + 8 ≤ (eLL wat).length := iu (enc := j8) fun v => by have := fg v; omega
  have m1 := fg a
  have m2 := fg b
  have m3 := fg c
  have m4 := fg d
  have m5 := fg e
  refine ⟨by show a.length ≤ 400; omega, by show (cls.map _).length ≤ 400; rw [List.length_map]; omega, by show wat.length ≤ 400; omega, by show d.length ≤ 400; omega, by show e.length ≤ 400; omega, fun i => ?_, fun w => ?_⟩
  · show ((cls.map fun c => (⟨c.1, c.2.1, c.2.2⟩ : Cl.Cl)).getD i ⟨[], false, 0⟩).lits.length ≤ 400
    rw [List.getD_eq_getElem?_getD]
    by_cases hi : i < cls.length
    · rw [List.getElem?_eq_getElem (by rw [List.length_map]; exact hi)]
      simp only [List.getElem_map, Option.getD_some]
      have h1 := su (enc := eC) (List.getElem_mem hi)
      have h2 := fg cls[i].1
      have h3 : (j8 cls[i].1).length ≤ (eC cls[i]).length := by unfold eC; rw [List.length_append]; omega
      have h4 : (encL eC cls).length = 8 + (eN eC cls).length := fu _
      omega
    · rw [List.getElem?_eq_none (by rw [List.length_map]; omega)]; simp
  · show (wat.getD w []).length ≤ 400
    rw [List.getD_eq_getElem?_getD]
    by_cases hi : w < wat.length
    · rw [List.getElem?_eq_getElem hi]
      have h1 := su (enc := j8) (List.getElem_mem hi)
      have h2 := fg wat[w]
      have h4 : (eLL wat).length = 8 + (eN j8 wat).length := fu _
      simp only [Option.getD_some]
      omega
    · rw [List.getElem?_eq_none (by omega)]; simp
def rG (x : Pt) : Bool := (((x.2.2.1.2.2.1.len : Nat) : Int) != x.1.1) || ((((x.2.2.2.1.1.len : Nat) : Int) != x.1.1) || ((((x.2.2.2.2.2.2.2.len : Nat) : Int) != x.1.1) || ((((x.2.2.2.2.1.2.2.1.len : Nat) : Int) != IntKind.wrap .i64 (x.1.2.1 + ((x.1.2.2.1.len : Nat) : Int))) || (((x.2.2.2.2.1.2.1.len : Nat) : Int) != ((x.1.2.2.1.len : Nat) : Int)))))
def rA (x : Pt) (n6 : Int) : Bool := decide (x.2.2.2.2.2.2.1 < 0) || (decide (x.2.2.2.2.2.2.1 > ((x.2.2.1.2.2.2.2.2.1.len : Nat) : Int)) || (decide (n6 < 0) || decide (n6 > 4)))
theorem ali (x : Pt) (n1 n2 n3 n4 n5 n6 : Int) (h : Heap) (Q : Bool → Heap → Prop) : fO (mk33 x n1 n2 n3 n4 n5 n6) h Q = mem h fun h => Let (IntKind.wrap .i64 (x.1.2.1 + ((x.1.2.2.1.len : Nat) : Int)) : Int) fun reals =>
   seq (fun (K : Bool → Heap → Prop) => mB x.1 h fun v h1 => iteB (!v) (K true h1) (lH x.2.2.1 h1 fun v h2 => iteB (!v) (K true h2) (jG x.2.2.2.1 h2 fun v h3 => iteB (!v) (K true h3) (kM x.2.2.2.2.1 h3 fun v h4 => K (!v) h4)))) fun t h1 => iteB t (Q false h1) (
   seq (fun (K : Bool → Heap → Prop) => iteB (((x.2.2.1.2.2.1.len : Nat) : Int) != x.1.1) (K true h1) (iteB (((x.2.2.2.1.1.len : Nat) : Int) != x.1.1) (K true h1) (iteB (((x.2.2.2.2.2.2.2.len : Nat) : Int) != x.1.1) (K true h1) (iteB (((x.2.2.2.2.1.2.2.1.len : Nat) : Int) != reals) (K true h1) (K (((x.2.2.2.2.1.2.1.len : Nat) : Int) != ((x.1.2.2.1.len : Nat) : Int)) h1))))) fun t h2 => iteB t (Q false h2) (
   seq (fun (K : Bool → Heap → Prop) => iteB (decide (x.2.2.2.2.2.2.1 < 0)) (K true h2) (iteB (decide (x.2.2.2.2.2.2.1 > ((x.2.2.1.2.2.2.2.2.1.len : Nat) : Int))) (K true h2) (iteB (decide (n6 < 0)) (K true h2) (K (decide (n6 > 4)) h2)))) fun t h3 => iteB t (Q false h3) (
   seq (fun (K : Bool → Heap → Prop) => ja (mk33 x n1 n2 n3 n4 n5 n6) h3 fun v h4 => iteB v (jc (mk33 x n1 n2 n3 n4 n5 n6) h4 fun v h5 => iteB v (K (decide ((mn (mn (mn (mn n1 n2) n3) n4) n5) ≥ 0)) h5) (K false h5)) (K false h4)) fun t h4 => Q t h4))) := by kernel_rfl
open Classical in
noncomputable def yZ (x : Pt) (v : LV) (n1 n2 n3 n4 n5 n6 : Int) : Bool :=
  if (!(cnfB x.1 (v.1.2.2.1.map pOf) (v.1.2.2.2.1.map aOf) v.1.2.2.2.2.1)) = true then false else
  if ∃ cls wat a b c d e n, v.2.2.1 = (((cls, wat), [a, b, c, d, e]), n) ∧ Cl.RightS (sOf cls wat a b c d e) n then
  if (!(qB v.2.2.2.1.1 v.2.2.2.1.2)) = true then false else
  if RightT (tOf v.2.2.2.2.1) ∧ ∀ p ∈ (tOf v.2.2.2.2.1).ps, Rt p then
  if rG x = true then false else if rA x n6 = true then false else
  if (!((List.range (v.2.2.2.2.2.1.map uOf).length).any (badU v.2.2.2.2.1.2.2.1.length x.2.2.1.2.2.2.2.2.1.len (v.2.2.2.2.2.1.map uOf)))) = true then
  if (!((List.range (v.2.2.1.1.2.getD 0 []).length).any (aer (v.2.2.1.1.2.getD 0 []) v.2.2.2.1.2))) = true then decide ((mn (mn (mn (mn n1 n2) n3) n4) n5) ≥ 0) else false else false
  else false else false
open Classical in
theorem adt {x : Pt} {v : LV} {n1 n2 n3 n4 n5 n6 : Int} {Q : Bool → Heap → Prop} (ht : Tab h0) (e0 : Ext h0 h) (hx : PtX h0 x v) (hl : (eV v).length ≤ 3000) (K : ∀ h', Ext h h' → Q (yZ x v n1 n2 n3 n4 n5 n6) h') : fO (mk33 x n1 n2 n3 n4 n5 n6) h Q := by
  obtain ⟨vp, vl, ⟨⟨⟨cls, wat⟩, rows5⟩, nxt⟩, ⟨vq1, vq2⟩, vt, vu, va, vf⟩ := v
  have hrows := hx.se.rows
  have h5 : rows5.length = 5 := by have := hrows.length; simpa using this.symm
  obtain ⟨a, b, c, d, e, rfl⟩ : ∃ a b c d e, rows5 = [a, b, c, d, e] := by
    match rows5, h5 with
    | [a, b, c, d, e], _ => exact ⟨a, b, c, d, e, rfl⟩
  have hse := hx.se
  simp only [eV, List.length_append] at hl
  have hS := alr hse
  have hF := akD (x := x.2.2.1) (show (eSea (((cls, wat), [a, b, c, d, e]), nxt)).length ≤ 3000 by omega)
  have hP := hx.pr.pbx (show (aak vp).length ≤ 3000 by omega)
  have hT := hx.ta.tq
  have hTF := hx.ta.fit (show (eTb vt).length ≤ 3000 by omega)
  have q1 := fg vq1
  have q2 := fg vq2
  have hU : RowQ CU 10 UQ h0 x.2.2.2.2.2.1 (vu.map uOf) := RowQ.map hx.un fun _ _ h => h.uq
  have hul := iu (enc := eU) (l := vu) (k := 8) fun v => by unfold eU encI; rw [List.length_append, aF]; omega
  have hUz : ∀ u ∈ vu.map uOf, szD u.e.2 ≤ 1000 := by
    intro u hu
    obtain ⟨u0, h0', rfl⟩ := List.mem_map.1 hu
    have h1 := RowQ.all (S := fun u : LU => 4 * szD (dOf u.2.2.1.2) + 34 ≤ (eU u).length) hx.un (fun _ _ h => by have := h.2.2.1.2.sz; unfold eU eE; simp only [List.length_append]; omega) u0 h0'
    have h2 := su (enc := eU) h0'
    have h4 : (encL eU vu).length = 8 + (eN eU vu).length := fu _
    show szD (dOf u0.2.2.1.2) ≤ 1000
    omega
  have r1 : RJ' h0 x.2.2.1.2.2.1 a := by
    rcases hrows with _ | ⟨r1, _⟩; exact r1
  have ha := hF.v
  have ha : a.length ≤ 400 := ha
  rw [ali]
  unfold yZ at K
  dsimp only at K hl
  refine ak fun h1 e1 => LetI ?_
  refine seq.cut (fun t h' => Ext h h' ∧ t = (!(cnfB x.1 (vp.2.2.1.map pOf) (vp.2.2.2.1.map aOf) vp.2.2.2.2.1) || (!(decide (Cl.RightS (sOf cls wat a b c d e) nxt)) || (!(qB vq1 vq2) || !(decide (RightT (tOf vt) ∧ ∀ p ∈ (tOf vt).ps, Rt p)))))) ?_ ?_
  · refine aiI ht (e0.trans e1) hP fun h2 e2 => ⟨fun bb => ⟨e1.trans e2, by rw [bb]; rfl⟩, fun b1 => ?_⟩
    have e02 := e0.trans (e1.trans e2)
    refine Cl.akA (hS.ext e02) hF fun bc h3 hb e3 => ⟨fun bb => ⟨e1.trans (e2.trans e3), ?_⟩, fun b2 => ?_⟩
    · have : ¬ Cl.RightS (sOf cls wat a b c d e) nxt := fun hR => by rw [hb.2 hR] at bb; cases bb
      rw [b1, decide_eq_false this]; rfl
    have hR : Cl.RightS (sOf cls wat a b c d e) nxt := hb.1 (by simpa using b2)
    have e03 := e02.trans e3
    refine aeo (R.ext hx.q1 e03) (R.ext hx.q2 e03) (by dsimp only; omega) (by dsimp only; omega) fun h4 e4 => ⟨fun bb => ⟨(e1.trans e2).trans (e3.trans e4), ?_⟩, fun b3 => ?_⟩
    · rw [b1, decide_eq_true hR, bb]; rfl
    refine adl ht hT (e03.trans e4) hTF fun bt h5 hb5 e5 => ⟨(e1.trans e2).trans ((e3.trans e4).trans e5), ?_⟩
    rw [b1, decide_eq_true hR, b3]
    have : bt = decide (RightT (tOf vt) ∧ ∀ p ∈ (tOf vt).ps, Rt p) := by
      cases bt
      · exact (decide_eq_false fun hh => by cases hb5.2 hh).symm
      · exact (decide_eq_true (hb5.1 rfl)).symm
    rw [this]; rfl
  rintro t h2 ⟨e2, rfl⟩
  have hex : (∃ cls' wat' a' b' c' d' e' n', (((cls, wat), [a, b, c, d, e]), nxt) = (((cls', wat'), [a', b', c', d', e']), n') ∧ Cl.RightS (sOf cls' wat' a' b' c' d' e') n') ↔ Cl.RightS (sOf cls wat a b c d e) nxt := by
    constructor
    · rintro ⟨_, _, _, _, _, _, _, _, hh, hR⟩
      simp only [Prod.mk.injEq, List.cons.injEq, and_true] at hh
      obtain ⟨⟨⟨rfl, rfl⟩, rfl, rfl, rfl, rfl, rfl⟩, rfl⟩ := hh
      exact hR
    · exact fun hR => ⟨_, _, _, _, _, _, _, _, rfl, hR⟩
  refine ⟨fun bad => ?_, fun good => ?_⟩
  · have := K h2 e2
    split at this
    · exact this
    split at this
    · split at this
      · exact this
      split at this
      · rename_i g1 g2 g3 g4
        rw [decide_eq_true (hex.1 g2), decide_eq_true g4] at bad
        simp only [Bool.not_eq_true] at g1 g3
        rw [g1, g3] at bad
        cases bad
      · exact this
    · exact this
  simp only [Bool.or_eq_false_iff, Bool.not_eq_false', decide_eq_true_eq] at good
  obtain ⟨c1, c2, c3, c4⟩ := good
  have K2 : ∀ h', Ext h h' → Q (if rG x = true then false else if rA x n6 = true then false else
      if (!((List.range (vu.map uOf).length).any (badU vt.2.2.1.length x.2.2.1.2.2.2.2.2.1.len (vu.map uOf)))) = true then
      if (!((List.range a.length).any (aer a vq2))) = true then decide ((mn (mn (mn (mn n1 n2) n3) n4) n5) ≥ 0) else false else false) h' := by
    intro h' e'
    have := K h' e'
    rw [if_neg (by rw [c1]; simp), if_pos (hex.2 c2), if_neg (by rw [c3]; simp), if_pos c4] at this
    exact this
  clear K
  refine seq.cut (fun t h' => h' = h2 ∧ t = rG x) ?_ ?_
  · unfold rG
    exact ⟨fun b => ⟨rfl, by rw [b]; rfl⟩, fun b1 => ⟨fun b => ⟨rfl, by rw [b1, b]; rfl⟩, fun b2 => ⟨fun b => ⟨rfl, by rw [b1, b2, b]; rfl⟩, fun b3 => ⟨fun b => ⟨rfl, by rw [b1, b2, b3, b]; rfl⟩, fun b4 => ⟨rfl, by rw [b1, b2, b3, b4]; rfl⟩⟩⟩⟩⟩
  rintro t hz ⟨hze, rfl⟩
  rw [hze]
  clear hze hz
  refine ⟨fun bad => ?_, fun g1 => ?_⟩
  · have := K2 _ e2
    rw [if_pos bad] at this; exact this
  refine seq.cut (fun t h' => h' = h2 ∧ t = rA x n6) ?_ ?_
  · unfold rA
    exact ⟨fun b => ⟨rfl, by rw [b]; rfl⟩, fun b1 => ⟨fun b => ⟨rfl, by rw [b1, b]; rfl⟩, fun b2 => ⟨fun b => ⟨rfl, by rw [b1, b2, b]; rfl⟩, fun b3 => ⟨rfl, by rw [b1, b2, b3]; rfl⟩⟩⟩⟩
  rintro t hz ⟨hze, rfl⟩
  rw [hze]
  clear hze hz
  have g1' : ¬ rG x = true := by rw [g1]; simp
  refine ⟨fun bad => ?_, fun g2 => ?_⟩
  · have := K2 _ e2
    rw [if_neg g1', if_pos bad] at this; exact this
  have g2' : ¬ rA x n6 = true := by rw [g2]; simp
  refine seq.dup ?_
  have hvl : x.2.2.2.2.1.2.2.1.len = vt.2.2.1.length := hx.ta.2.2.1.len
  refine aea (us := vu.map uOf) (nv := vt.2.2.1.length) (nt := x.2.2.1.2.2.2.2.2.1.len) ht (e0.trans e2) hU (by rw [List.length_map]; omega) hUz hvl rfl fun h3 e3 => ⟨fun g3 => ?_, fun bad => ?_⟩
  · refine afh (vs := a) (hp := vq2) ((e0.trans e2).trans e3) r1 hx.q2 (by omega) (by omega) fun h4 e4 => ⟨fun g4 => ?_, fun bad => ?_⟩
    · have := K2 _ (e2.trans (e3.trans e4))
      rw [if_neg g1', if_neg g2', if_pos g3, if_pos g4] at this; exact this
    · have := K2 _ (e2.trans (e3.trans e4))
      rw [if_neg g1', if_neg g2', if_pos g3, if_neg (by rw [bad]; simp)] at this; exact this
  · have := K2 _ (e2.trans e3)
    rw [if_neg g1', if_neg g2', if_neg (by rw [bad]; simp)] at this; exact this
end
end Go.Sh.Pk
