/-
  Laws that the proof of this claim's statement leans on, each proved under the conditions that it states.
-/
import Derived.Test.YtjppcjbmepcneaaGreatDoorVC
set_option linter.unusedVariables false
set_option linter.unusedSimpArgs false
namespace Go.Sh
open Go Go.Lift
def matchA (l : Int) (a : AT) : Bool := l != 0 && a.v == truthI l
def foldM (t : PB) : PL → FS → Option FS
  | [], s => some s
  | m :: r, s => match t.as.find? (matchA m.1) with
    | none => none
    | some a => if m.2 < 0 then none else foldM t r (stepB s m.2 (bndB t a m.1))
def fin (s : FS) : Bool := decide (s.1.2 = []) && decide (cmpD s.2 (0, 0) < 0)
def holdsM (t : PB) (ps : PL) : Bool := match foldM t ps ((0, []), (0, 0)) with
  | none => false
  | some s => fin s
theorem size_eq {l : Int} (h1 : -9223372036854775808 ≤ l) (h2 : l < 9223372036854775808) (hl : l ≠ 0) : IntKind.wrap .i64 ((if IntKind.wrap .i64 (0 - l) > l then IntKind.wrap .i64 (0 - l) else l) - 1) = truthI l := by
  unfold truthI
  by_cases hm : l = -9223372036854775808
  · subst hm; decide
  · rw [w64 (n := 0 - l) (by omega) (by omega)]
    split
    · rename_i h
      rw [if_pos (by omega), w64 (by omega) (by omega)]; omega
    · rename_i h
      rw [if_neg (by omega), w64 (by omega) (by omega)]
section
variable {h0 h : Heap} {a : Addr} {lim : Nat}
theorem rightB {hh : Heap} {x : X3} {xs ws : List Nat} {J : Bool → Heap → Prop} (ht : Tab h0) (hX : XR h0 x xs ws) (hb : bigR x = false) (e : Ext h0 hh) (K : ∀ b h'', (b = true ↔ isQ h0 x) → Ext hh h'' → J b h'') : ratio_Right x hh J := by
  unfold bigR at hb
  simp only [Bool.or_eq_false_iff, decide_eq_false_iff_not] at hb
  have l1 := hX.num.len
  have l2 := hX.den.len
  have X' := hX.ext e
  refine RightQ_spec (R.ext ht e) X' (by omega) (by omega) fun b h'' hbb e'' => K b h'' (hbb.trans ?_) e''
  exact (X'.isQ_iff (by omega) (by omega)).trans (hX.isQ_iff (by omega) (by omega)).symm
theorem matchOne {y : A9} {at' : AT} {r : Addr} {l : Int} {hh : Heap} {Q : Bool → Heap → Prop} (hy : y.1 = at'.v) (hr : cell? hh (r.add 0) = some (Value.int .i64 l)) (h1 : -9223372036854775808 ≤ l) (h2 : l < 9223372036854775808) (K : ∀ h', Ext hh h' → Q (matchA l at') h') : farkas_Holds_c1 y r hh Q := by
  refine mem_ext fun h3 e3 => seq.dup ?_
  have hr3 := cell_keep e3 hr (by simp)
  refine ⟨_, hr3, ⟨fun hn => ⟨_, hr3, ?_⟩, fun hz => ?_⟩⟩
  · have hn : l ≠ 0 := by simpa using hn
    have : matchA l at' = (y.1 == IntKind.wrap .i64 ((if IntKind.wrap .i64 (0 - l) > l then IntKind.wrap .i64 (0 - l) else l) - 1)) := by
      rw [size_eq h1 h2 hn, hy]; simp [matchA, hn]
    show Q (y.1 == _) h3
    rw [← this]
    exact K h3 e3
  · have hz : l = 0 := by simpa using hz
    have : matchA l at' = false := by simp [matchA, hz]
    rw [← this]
    exact K h3 e3
theorem find_spec {s : Sl} {as : List AT} {r : Addr} {l : Int} {hh : Heap} {Q : Int → Heap → Prop} (e0 : Ext h0 hh) (hq : RowQ C9 9 AQ h0 s as) (hl : as.length ≤ 1000) (hr : cell? hh (r.add 0) = some (Value.int .i64 l)) (h1 : -9223372036854775808 ≤ l) (h2 : l < 9223372036854775808)
    (Kn : as.find? (matchA l) = none → ∀ h', Ext hh h' → Q (-1) h') (Ks : ∀ i (hi : i < as.length), as.find? (matchA l) = some (as[i]'hi) → ∀ h', Ext hh h' → Q (i : Int) h') : slices_IndexFunc_api_Atom_api_Atom__farkas_Holds_c1 s r hh Q := by
  have hlen := hq.len
  refine findI (body := fun s0 h0 R => idxS s s0 9 fun a => loadS C9 9 a h0 fun v => farkas_Holds_c1 (v.1, v.2.1, v.2.2.1, v.2.2.2.1, v.2.2.2.2.1, v.2.2.2.2.2.1, v.2.2.2.2.2.2.1, v.2.2.2.2.2.2.2.1, v.2.2.2.2.2.2.2.2) r h0 R) (n := as.length)
    (I := fun i h' => Ext hh h' ∧ ∀ j (hj : j < as.length), j < i → matchA l (as[j]'hj) = false) (F := fun i h' => Ext hh h' ∧ (∀ j (hj : j < as.length), j < i → matchA l (as[j]'hj) = false) ∧ ∃ hi : i < as.length, matchA l (as[i]'hi) = true)
    (by rw [hlen]) (by omega) ⟨Keep.refl _ _, fun j hj h => by omega⟩ (fun i h' hi hI R R1 R2 => ?_) (fun i h' hi hF => ?_) (fun h' hI => ?_)
  · refine hq.ldE (e0.trans hI.1) rfl hi fun y hy => ?_
    refine matchOne (y := y) (at' := as[i]) hy.1 (cell_keep hI.1 hr (by simp)) h1 h2 fun h3 e3 => ?_
    have e03 := hI.1.trans e3
    cases hm : matchA l as[i] with
    | true => exact R1 _ ⟨e03, hI.2, hi, hm⟩
    | false =>
      refine R2 _ ⟨e03, fun j hj hji => ?_⟩
      by_cases hji' : j = i
      · subst hji'; exact hm
      · exact hI.2 j hj (by omega)
  · obtain ⟨f1, f2, hi', f3⟩ := hF
    refine Ks i hi' ?_ h' f1
    rw [List.find?_eq_some_iff_getElem]
    exact ⟨f3, i, hi', rfl, fun j hj => by simp [f2 j (by omega) hj]⟩
  · refine Kn ?_ h' hI.1
    rw [List.find?_eq_none]
    intro x hx
    obtain ⟨j, hj, rfl⟩ := List.getElem_of_mem hx
    simp [hI.2 j hj hj]
end
end Go.Sh

namespace Go.Sh
open Go Go.Lift
section
variable {h0 h : Heap} {a : Addr} {lim : Nat}
def Y7 (h : Heap) (y : Y4) : Prop := (∃ xs ws, XR h (co y) xs ws) ∧ bigR (co y) = false ∧ -9223372036854775808 ≤ y.1 ∧ y.1 < 9223372036854775808
def EqP (h : Heap) (ys : List Y4) (ps : PL) : Prop := All2 (fun y m => y.1 = m.1 ∧ RQ h (co y) m.2) ys ps
theorem sign_neg {q : Rat} : (q.num.sign < 0) ↔ q < 0 := by
  have h1 : (0 ≤ q.num) ↔ 0 ≤ q := Rat.num_nonneg
  have h2 : q.num.sign < 0 ↔ q.num < 0 := by
    rcases Int.lt_trichotomy q.num 0 with h | h | h
    · rw [Int.sign_eq_neg_one_of_neg h]; omega
    · rw [h]; simp
    · rw [Int.sign_eq_one_of_pos h]; omega
  rw [h2]
  grind
theorem rq_uniq {h : Heap} {x : X3} {p q : Rat} (hp : RQ h x p) (hq : RQ h x q) : p = q := by
  have h1 := hp.num.uniq hq.num
  have h2 := hp.den.uniq hq.den
  have h3 : decide (p.num < 0) = decide (q.num < 0) := hp.neg.symm.trans hq.neg
  have h3 : p.num < 0 ↔ q.num < 0 := by simpa using h3
  have h4 : p.den = q.den := by
    unfold dn at h2
    have := p.den_pos; have := q.den_pos
    split at h2 <;> split at h2 <;> omega
  have h5 : p.num = q.num := by omega
  exact Rat.ext h5 h4
theorem holds_spec {p : S7} {t : PB} {ss : List Sl} {list : Sl} {ys : List Y4} {Q : Bool → Heap → Prop} (ht : Tab h0) (e0 : Ext h0 h) (q : PBQ h0 p t ss) (z : PBz t) (hr : ∀ a ∈ t.as, a.r < t.ps.length) (hl : RS C4 4 h0 list ys) (hyl : ys.length ≤ 30) (hy : ∀ y ∈ ys, Y7 h0 y)
    (C : ∀ b h', (b = true → ∃ s, Der t (ys.map (·.1)) s ∧ s.1.2 = [] ∧ cmpD s.2 (0, 0) < 0) → (0 ≤ t.n → 0 ≤ t.m → ss = [] → t.ps = [] → GoodA t → ∀ ps, EqP h0 ys ps → b = holdsM t ps) → Ext h h' → Q b h') : farkas_Holds p list h Q := by
  have hna := z.na
  refine mem_ext fun h1 e1 => cnfRight_spec ht (e0.trans e1) q z fun b h2 hb2 e2 => ⟨fun hf => ?_, fun hbt => ?_⟩
  · have hf : b = false := by simpa using hf
    refine C false h2 (fun h => by cases h) (fun g1 g2 g3 g4 g5 _ _ => ?_) (e1.trans e2)
    rw [hb2 g1 g2 g3 g4 g5] at hf; cases hf
  refine New_spec fun a h3 hb3 ha3 e3 => mem_ext fun h4 e4 => ?_
  have e04 := ((e0.trans (e1.trans e2)).trans e3).trans e4
  have eh4 := ((e1.trans e2).trans e3).trans e4
  have s3 := e3.size; have s2 := (e0.trans (e1.trans e2)).size; have s1 := (e1.trans e2).size
  have v4 : BO h0 a (max (1048576 : Int).toNat 1) false h4 := ⟨ht, hb3.ext e4, e04, by omega⟩
  have hlim : 3000 ≤ max (1048576 : Int).toNat 1 := by decide
  generalize max (1048576 : Int).toNat 1 = lim at *
  have hlen := hl.len
  refine loop.inv (fun (c : Int × X10) h' => ∃ i : Nat, c.1 = (i : Int) ∧ i ≤ ys.length ∧ BO h0 a lim false h' ∧ Ext h h' ∧ ∃ s, CQ h' a.block c.2 s ∧ FSz s (34 * i) (12 * i) ∧ Der t ((ys.take i).map (·.1)) s ∧ ∀ ps, EqP h0 ys ps → foldM t (ps.drop i) s = foldM t ps ((0, []), (0, 0))) (fun c _ => ys.length - c.1.toNat)
    ⟨0, rfl, by omega, v4, eh4, ((0, []), (0, 0)), ⟨⟨RK.zero, MK.nil⟩, DF.zero⟩, ⟨by simp [sz_zero], by simp, by simp [szD_zero], by simp⟩, .nil, fun ps _ => rfl⟩ ?_
  rintro ⟨_, c⟩ h5 ⟨i, rfl, hi, v5, e5, s, hc, sc, der, hfold⟩
  dsimp only at hc ⊢
  rw [hlen]
  have eDrop : ∀ ps, EqP h0 ys ps → i < ys.length → ∃ hp : i < ps.length, ps.drop i = ps[i] :: ps.drop (i + 1) ∧ (∃ hy' : i < ys.length, ys[i].1 = ps[i].1 ∧ RQ h0 (co ys[i]) ps[i].2) := fun ps hp hlt => by
    have l1 := All2.length hp
    exact ⟨by omega, List.drop_eq_getElem_cons (by omega), hlt, All2.get hp i hlt (by omega)⟩
  refine ⟨fun hlt => ?_, fun hge => ?_⟩
  · simp only [decide_eq_true_eq] at hlt
    have hlt : i < ys.length := by omega
    have hYi := hy _ (List.getElem_mem hlt)
    have htk : ys.take (i + 1) = ys.take i ++ [ys[i]] := List.take_succ_eq_append_getElem hlt
    refine (RS.ext hl v5.ext).ld (i := (i : Int)) (j := i) rfl hlt ?_
    have eD2 : ∀ ps, EqP h0 ys ps → ∃ m, ps.drop i = m :: ps.drop (i + 1) ∧ ys[i].1 = m.1 ∧ RQ h0 (co ys[i]) m.2 := fun ps hp => by
      obtain ⟨g1, g2, g3, g4, g5⟩ := eDrop ps hp hlt
      exact ⟨_, g2, g4, g5⟩
    clear eDrop
    generalize ys[i] = y at *
    obtain ⟨⟨xs, ws, hX⟩, hbig, r1, r2⟩ := hYi
    refine new_cs fun r h6 c6 hr6 e6 n6 => ?_
    -- the number and its literal, in a block of their own
    have hst : ∀ {k : Heap → Prop}, (∀ h', cells? h' r 4 0 = some (C4 y) → Keep (some r.block) h6 h' → k h') → storeS r [Value.int .i64 y.1, Value.bool y.2.1, Sl.toV y.2.2.1, Sl.toV y.2.2.2] h6 k := fun {k} K => by
      refine ⟨⟨⟨_, (c6.cell 0 (by simp)).1⟩, (c6.cell 0 (by simp)).2, ⟨_, (c6.cell 1 (by simp)).1⟩, (c6.cell 1 (by simp)).2, ⟨_, (c6.cell 2 (by simp)).1⟩, (c6.cell 2 (by simp)).2, ⟨_, (c6.cell 3 (by simp)).1⟩, (c6.cell 3 (by simp)).2, trivial⟩, ?_⟩
      have a0 := c6.set 0 (Value.int .i64 y.1) (by simp)
      have a1 := a0.set 1 (Value.bool y.2.1) (by simp)
      have a2 := a1.set 2 (Sl.toV y.2.2.1) (by simp)
      have a3 := a2.set 3 (Sl.toV y.2.2.2) (by simp)
      refine K _ ?_ (setCells_keep r _ 0 h6)
      have := cells?_mk (h := setCell (setCell (setCell (setCell h6 (r.add 0) (Value.int .i64 y.1)) (r.add 1) (Value.bool y.2.1)) (r.add 2) (Sl.toV y.2.2.1)) (r.add 3) (Sl.toV y.2.2.2)) (a := r) (C4 y) 0 (fun j hj => by rw [Nat.zero_add]; exact (a3.cell j hj).1)
      exact this
    refine hst fun h7 c7 k7 => ?_
    have e57 : Ext h5 h7 := e6.fresh (by omega) k7
    have v7 := v5.of_ext e57
    have rb : r.block ≠ a.block := by have := v5.lt; omega
    have hr0 : cell? h7 (r.add 0) = some (Value.int .i64 y.1) := ld_var c7
    refine find_spec v7.ext q.ats (by omega) hr0 r1 r2 (fun hnone h8 e8 => ?_) (fun j hj hsome h8 e8 => ?_)
    · refine seq.cut (fun b h' => b = true ∧ Ext h7 h') ⟨fun _ => ⟨rfl, e8⟩, fun hh => by simp at hh⟩ ?_
      rintro b h9 ⟨rfl, e9⟩
      refine ⟨fun _ => C false h9 (fun h => by cases h) (fun _ _ _ _ _ ps hp => ?_) ((e5.trans e57).trans e9), fun hh => by cases hh⟩
      obtain ⟨m, g1, g2, g3⟩ := eD2 ps hp
      have := hfold ps hp
      rw [g1, foldM, ← g2, hnone] at this
      unfold holdsM; rw [← this]
    · have v8 := v7.of_ext e8
      have c8 := cells_ext e8 c7
      refine seq.cut (fun b h' => Ext h7 h' ∧ ((b = false ∧ ∃ k, RQ h0 (co y) k ∧ szQ k ≤ 6 ∧ 0 ≤ k) ∨ (b = true ∧ ∀ k, RQ h0 (co y) k → k < 0))) ?_ ?_
      · refine ⟨fun hh => by simp at hh; omega, fun _ => ⟨co y, ld_co c8, ?_⟩⟩
        refine rightB (x := co y) ht hX hbig v8.ext fun b9 h9 hb9 e9 => ⟨fun hnr => ⟨e8.trans e9, .inr ⟨rfl, fun k hk => ?_⟩⟩, fun hri => ?_⟩
        · have hnr : b9 = false := by simpa using hnr
          rw [hb9.2 ⟨k, hk⟩] at hnr; cases hnr
        · have hri : b9 = true := by simpa using hri
          obtain ⟨k, hk⟩ := hb9.1 hri
          refine ⟨co y, ld_co (cells_ext e9 c8), Sign_spec (x := co y) (hk.ext (v8.ext.trans e9)) fun h10 e10 => ⟨(e8.trans e9).trans e10, ?_⟩⟩
          by_cases hneg : k < 0
          · exact .inr ⟨by simpa using sign_neg.2 hneg, fun k' hk' => by
              have : k = k' := rq_uniq hk hk'
              rw [← this]; exact hneg⟩
          · refine .inl ⟨by simpa using fun hh => hneg (sign_neg.1 hh), k, hk, sz_of_bigR hk hbig, by grind⟩
      rintro b h9 ⟨e9, hb9⟩
      refine ⟨fun hbt => ?_, fun hbf => ?_⟩
      · rcases hb9 with ⟨h, _⟩ | ⟨_, hneg⟩
        · rw [h] at hbt; cases hbt
        refine C false h9 (fun h => by cases h) (fun _ _ _ _ _ ps hp => ?_) ((e5.trans e57).trans e9)
        obtain ⟨m, g1, g2, g3⟩ := eD2 ps hp
        have := hfold ps hp
        rw [g1, foldM, ← g2, hsome] at this
        dsimp only at this
        rw [if_pos (hneg _ g3)] at this
        unfold holdsM; rw [← this]
      · rcases hb9.symm with ⟨h, _⟩ | ⟨_, k, hk, ks, k0⟩
        · rw [h] at hbf; cases hbf
        have v9 := v7.of_ext e9
        have c9 := cells_ext e9 c7
        refine ⟨co y, ld_co c9, ?_⟩
        have hmem : t.as[j] ∈ t.as := List.getElem_mem hj
        refine q.ats.ldE v9.ext rfl hj fun ya hya => ⟨_, ld_var c9, ?_⟩
        refine bounded_spec (y := ya) (lit := y.1) v9 hlim q.rows hya (hr _ hmem) z hmem fun d h10 v10 k10 hd => ⟨?_, ?_⟩
        · exact ld_co (cells_keep k10 (fun e => rb (Option.some.inj e)) c9)
        · have e59 := e57.trans e9
          have kall : Keep (some a.block) h5 h10 := (Keep.of_ext e59).trans k10
          have hc10 : CQ h10 a.block c s := ⟨hc.1.keep kall fun k e => by cases e; rfl, hc.2.keep kall⟩
          refine claimAdd_spec (k := co y) (q := k) v10 hlim hc10 (RK.ofRF (hk.rf v10.ext v10.old)) hd sc (bndB_sz z hmem y.1) ks (by omega) (by omega) fun c' h11 v11 k11 hc' => ?_
          have hmt : matchA y.1 t.as[j] = true := (List.find?_eq_some_iff_append.1 hsome).1
          have hm2 : y.1 ≠ 0 ∧ t.as[j].v = truthI y.1 := by simpa [matchA] using hmt
          refine ⟨⟨i + 1, w64 (by omega) (by omega), by omega, v11, ?_, _, hc', ?_, ?_, fun ps hp => ?_⟩, by (try dsimp only); rw [w64 (by omega) (by omega)]; omega⟩
          · exact (e5.trans e59).fresh (by omega) (k10.trans k11)
          · have := stepB_sz (q := k) sc (bndB_sz z hmem y.1) ks
            rw [show 34 * (i + 1) = 34 * i + 34 by omega, show 12 * (i + 1) = 12 * i + 12 by omega]
            exact this
          · rw [htk, List.map_append]
            exact Der.step der hm2.1 hmem hm2.2 k0
          · obtain ⟨m, g1, g2, g3⟩ := eD2 ps hp
            have := hfold ps hp
            rw [g1, foldM, ← g2, hsome] at this
            dsimp only at this
            have hkm : k = m.2 := rq_uniq hk g3
            rw [← hkm, if_neg (by grind)] at this
            exact this
  · simp only [decide_eq_false_iff_not] at hge
    have : i = ys.length := by omega
    subst this
    rw [List.take_length] at der
    have hml := hc.1.2.len
    have hex : ∀ ps, EqP h0 ys ps → holdsM t ps = fin s := fun ps hp => by
      have := hfold ps hp
      have l1 := All2.length hp
      rw [List.drop_eq_nil_of_le (by omega), foldM] at this
      unfold holdsM; rw [← this]
    refine seq.cut (fun b h' => Ext h5 h' ∧ b = fin s) ?_ ?_
    · refine ⟨fun hg => ?_, fun hg => ⟨Keep.refl _ _, ?_⟩⟩
      · have hg : c.2.2.2.1.len = 0 := by simp at hg; omega
        have hnil : s.1.2 = [] := List.eq_nil_of_length_eq_zero (by rw [← hml]; exact hg)
        have sb := sc.b
        refine CmpE_spec (x := cD c) (y := d0) (q := (0, 0)) hc.2.dq ⟨RQ.zero, RQ.zero⟩ (by rw [szD_zero]; omega) (by have := v5.lt; omega) fun h6 e6 => ⟨e6, ?_⟩
        unfold fin; simp [hnil]
      · have hg : ¬ s.1.2 = [] := fun hn => by
          rw [hn] at hml
          have hml : c.2.2.2.1.len = 0 := hml
          rw [hml] at hg; simp at hg
        unfold fin; simp [hg]
    rintro b h6 ⟨e6, rfl⟩
    refine C _ h6 (fun hb => ⟨s, der, ?_⟩) (fun _ _ _ _ _ ps hp => (hex ps hp).symm) (e5.trans e6)
    unfold fin at hb
    simpa using hb
end
end Go.Sh
