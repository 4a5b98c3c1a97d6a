/-
  Laws that the proof of this claim's statement leans on, each proved under the conditions that it states.
-/
import Derived.Test.YtkjcocjkcjmafaaSpH
set_option linter.unusedVariables false
set_option linter.unusedSimpArgs false
namespace Go.Sh
open Go Go.Lift Go.Cla
variable {h0 hb h h' : Heap} {x : S8} {S : SS} {nx : Int} {a : Addr} {mp1 mp2 : Nat} {t : WS}
theorem backL_inv {α : Type} {c0 : Addr} {sz : Nat} {ld : Addr → Heap → (α → Prop) → Prop} {Y : Int → α → Heap → (Heap → Prop) → Prop} {R : Heap → Prop} {h : Heap} {s : Sl} (hc : cell? h c0 = some (Sl.toV s)) (I : Nat → Heap → Prop) (h0 : I s.len h) (hs : s.len ≤ 1000000)
    (hb : ∀ (k : Nat) h' (J : Heap → Prop), k < s.len → I (k + 1) h' → (∀ h'', I k h'' → J h'') → Lift.load Sl.toV c0 h' fun s => idxS s (k : Int) sz fun a => ld a h' fun x => Y (k : Int) x h' J)
    (hR : ∀ h', I 0 h' → R h') : backL c0 sz ld Y R h := by
  refine ⟨s, hc, loop.inv (fun i h' => ∃ k : Nat, i = (k : Int) - 1 ∧ k ≤ s.len ∧ I k h') (fun i _ => (i + 1).toNat) ⟨s.len, ?_, Nat.le_refl _, h0⟩ ?_⟩
  · rw [w64 (by omega) (by omega)]
  · rintro i h' ⟨k, rfl, hk, hI⟩
    refine ⟨fun g => ?_, fun g => ?_⟩
    · have g := of_decide_eq_true g
      obtain ⟨k, rfl⟩ : ∃ k', k = k' + 1 := ⟨k - 1, by omega⟩
      have e : ((k + 1 : Nat) : Int) - 1 = (k : Int) := by omega
      rw [e, w64 (n := (k : Int) - 1) (by omega) (by omega)]
      exact hb k h' _ (by omega) hI fun h'' hI' => ⟨⟨k, rfl, by omega, hI'⟩, by omega⟩
    · have g := of_decide_eq_false g
      have : k = 0 := by omega
      subst this
      exact hR h' hI
theorem WK.lts {gs : Int → Option Int} {gn : Int → Option Bool} {c : Int} (q : WK h0 hb h a x mp1 mp2 gs gn c) : a.block < h.size ∧ mp1 < h.size ∧ mp2 < h.size := by
  have := cell_lt q.c10
  rw [addr_add_block] at this
  exact ⟨this, q.m1.lt, q.m2.lt⟩
theorem WK.other {gs : Int → Option Int} {gn : Int → Option Bool} {c : Int} {b : Nat} (q : WK h0 hb h a x mp1 mp2 gs gn c) (k : Keep (some b) h h') (g0 : h0.size ≤ b) (g1 : hb.size ≤ b) (n0 : b ≠ a.block) (n1 : b ≠ mp1) (n2 : b ≠ mp2) : WK h0 hb h' a x mp1 mp2 gs gn c :=
  have nb : ∀ j, some (a.add j).block ≠ some b := fun j e => by rw [addr_add_block] at e; exact n0 (Option.some.inj e).symm
  { q with
    ext := q.ext.fresh g0 k
    fr := ⟨Nat.le_trans q.fr.size k.size, fun j hj h1 h2 h3 => by rw [k.same j (Nat.lt_of_lt_of_le hj q.fr.size) (fun e => by have := Option.some.inj e; omega), q.fr.same j hj h1 h2 h3]⟩
    cs := fun j hj => cell_keep k (q.cs j hj) (nb j)
    c8 := cell_keep k q.c8 (nb 8)
    c9 := cell_keep k q.c9 (nb 9)
    c10 := cell_keep k q.c10 (nb 10)
    f10 := frozen_keep k (cell_lt q.c10) q.f10 (nb 10)
    m1 := q.m1.keep k fun e => n1 (Option.some.inj e).symm
    m2 := q.m2.keep k fun e => n2 (Option.some.inj e).symm }
theorem Fr3.trans {h1 h2 h3 : Heap} (f : Fr3 h1 h2 a mp1 mp2) (g : Fr3 h2 h3 a mp1 mp2) : Fr3 h1 h3 a mp1 mp2 :=
  ⟨Nat.le_trans f.size g.size, fun b hb n0 n1 n2 => by rw [g.same b (Nat.lt_of_lt_of_le hb f.size) n0 n1 n2, f.same b hb n0 n1 n2]⟩
theorem Fr3.cell {h1 h2 : Heap} (f : Fr3 h1 h2 a mp1 mp2) {p : Addr} {v : Value} (hc : cell? h1 p = some v) (n0 : p.block ≠ a.block) (n1 : p.block ≠ mp1) (n2 : p.block ≠ mp2) : cell? h2 p = some v := by
  have hl := cell_lt hc
  unfold cell? at hc ⊢
  rw [f.same _ hl n0 n1 n2]
  exact hc
theorem Fr3.frz {h1 h2 : Heap} (f : Fr3 h1 h2 a mp1 mp2) {p : Addr} {v : Bool} (hl : p.block < h1.size) (hc : frozen? h1 p = v) (n0 : p.block ≠ a.block) (n1 : p.block ≠ mp1) (n2 : p.block ≠ mp2) : frozen? h2 p = v := by
  unfold frozen? at hc ⊢
  rw [f.same _ hl n0 n1 n2]
  exact hc
theorem lresolve_spec {st : AE} {Q : Bool → Heap → Prop} (q : WKt h0 hb h a x mp1 mp2 t) (rd : SRd h0 x S nx) (R : RightS S nx) (f : Few8 S) (m : MtW S t st) (I : InvW S S.tra.length st)
    (K0 : runW S S.tra.length st = none → ∀ h', Ext h0 h' → Q false h')
    (K1 : ∀ st', runW S S.tra.length st = some st' → ∀ h' t', WKt h0 hb h' a x mp1 mp2 t' → MtW S t' st' → Q true h') : learn_work_resolve (some a) h Q := by
  have hn : S.val.length ≤ 1048576 := by have := f.v; omega
  have hft := f.t
  obtain ⟨l0, l1, l2⟩ := q.lts
  intro T1 T2
  generalize hA : h.push (.cells [Value.pointer (some a)].toArray T1 (0, 0)) = hA1
  have eA : Ext h hA1 := by rw [← hA]; exact Ext.push _ _
  have sA : hA1.size = h.size + 1 := by rw [← hA]; simp
  generalize hB : hA1.push (.cells [Value.bool false].toArray T2 (0, 0)) = hB1
  have eB : Ext hA1 hB1 := by rw [← hB]; exact Ext.push _ _
  have sB : hB1.size = hA1.size + 1 := by rw [← hB]; simp
  have cA : cell? hA1 ⟨h.size, 0, none⟩ = some (Value.pointer (some a)) := by rw [← hA]; exact cell_push_new _ _ _ _ _
  have cB : cell? hB1 ⟨hA1.size, 0, none⟩ = some (Value.bool false) := by rw [← hB]; exact cell_push_new _ _ _ _ _
  have fB : frozen? hB1 ⟨hA1.size, 0, none⟩ = false := by rw [← hB]; unfold frozen?; simp
  have qB := (q.ext' eA).ext' eB
  refine ⟨_, cell_keep eB cA (by simp), a, rfl, x.2.2.2.2.2.1, by rw [addr_add_add, Nat.zero_add]; exact qB.cs 5 (by decide), ?_⟩
  intro T3
  generalize hC : hB1.push (.cells [Sl.toV x.2.2.2.2.2.1].toArray T3 (0, 0)) = hC1
  have eC : Ext hB1 hC1 := by rw [← hC]; exact Ext.push _ _
  have sC : hC1.size = hB1.size + 1 := by rw [← hC]; simp
  have cC : cell? hC1 ⟨hB1.size, 0, none⟩ = some (Sl.toV x.2.2.2.2.2.1) := by rw [← hC]; exact cell_push_new _ _ _ _ _
  refine ⟨_, rfl, mem_ext fun hD eD => ?_⟩
  have qD := (qB.ext' eC).ext' eD
  have cD := cell_keep eD cC (by simp)
  have wD := cell_keep eD (cell_keep eC (cell_keep eB cA (by simp)) (by simp)) (by simp)
  have rD := cell_keep eD (cell_keep eC cB (by simp)) (by simp)
  have gD : frozen? hD ⟨hA1.size, 0, none⟩ = false := frozen_keep eD (by show hA1.size < _; omega) (frozen_keep eC (by show hA1.size < _; omega) fB (by simp)) (by simp)
  have sD := eD.size
  have hs := rd.tra.len
  have ths : ∀ {hh : Heap} {t' : WS}, WKt h0 hD hh a x mp1 mp2 t' → cell? hh ⟨h.size, 0, none⟩ = some (Value.pointer (some a)) ∧ cell? hh ⟨hB1.size, 0, none⟩ = some (Sl.toV x.2.2.2.2.2.1) ∧ cell? hh ⟨hA1.size, 0, none⟩ = some (Value.bool false) ∧ frozen? hh ⟨hA1.size, 0, none⟩ = false := fun q' =>
    ⟨q'.fr.cell wD (by show h.size ≠ _; omega) (by show h.size ≠ _; omega) (by show h.size ≠ _; omega), q'.fr.cell cD (by show hB1.size ≠ _; omega) (by show hB1.size ≠ _; omega) (by show hB1.size ≠ _; omega),
      q'.fr.cell rD (by show hA1.size ≠ _; omega) (by show hA1.size ≠ _; omega) (by show hA1.size ≠ _; omega), q'.fr.frz (by show hA1.size < _; omega) gD (by show hA1.size ≠ _; omega) (by show hA1.size ≠ _; omega) (by show hA1.size ≠ _; omega)⟩
  have frD : Fr3 hb hD a mp1 mp2 := qD.fr
  -- the end: the answer is stored, and told
  have fin : ∀ {hh : Heap} {t' : WS} (b : Bool), WKt h0 hD hh a x mp1 mp2 t' → (∀ h', WKt h0 hb h' a x mp1 mp2 t' → Q b h') → Lift.store ⟨hA1.size, 0, none⟩ (Value.bool b) hh fun h' => Lift.load Value.bool ⟨hA1.size, 0, none⟩ h' fun r => Q r h' := by
    intro hh t' b q' K
    obtain ⟨_, _, r1, r2⟩ := ths q'
    refine ⟨⟨_, r1⟩, r2, b, cell_set_same r1, K _ ?_⟩
    have q2 : WK h0 hb hh a x mp1 mp2 t'.gs t'.gn t'.c := { q' with fr := frD.trans q'.fr }
    have sz := q.fr.size
    have sz0 := q.ext.size
    exact q2.other (Keep.setCell _ _ _) (by show _ ≤ hA1.size; omega) (by show _ ≤ hA1.size; omega) (by show hA1.size ≠ _; omega) (by show hA1.size ≠ _; omega) (by show hA1.size ≠ _; omega)
  refine backL_inv cD (fun k hh => ∃ t' st', k ≤ S.tra.length ∧ WKt h0 hD hh a x mp1 mp2 t' ∧ MtW S t' st' ∧ InvW S k st' ∧ runW S k st' = runW S S.tra.length st) ⟨t, st, by omega, qD.base, m, by rw [hs]; exact I, by rw [hs]⟩ (by omega) (fun k hh J hk hI hJ => ?_) (fun hh hI => ?_)
  · obtain ⟨t', st', hk2, q', m', I', hr⟩ := hI
    obtain ⟨w1, c1, r1, r2⟩ := ths q'
    refine ⟨_, c1, ?_⟩
    refine RJ.ldE rd.tra q'.ext (j := k) rfl (by omega) ?_
    have T := R.tra k (by omega)
    have etl : atI S.tra k = tl S k := rfl
    rw [etl]
    refine ⟨_, w1, a, rfl, t'.c, q'.c10, ?_⟩
    have hc := m'.c
    refine ⟨fun g => ?_, fun g => ?_⟩
    · have g : t'.c = 1 := by simpa using g
      refine fin true q' fun h'' q'' => K1 st' ?_ h'' t' q'' m'
      rw [← hr]; exact runW_one (by omega) _
    · have g : cntH S st' ≠ 1 := by
        have : ¬ t'.c = 1 := by simpa using g
        omega
      have hrun : runW S (k + 1) st' = if st'.A (tr (tl S k)) then (if atI S.rea (tr (tl S k)) = -1 then none else runW S k (stepW S st' (tr (tl S k)))) else runW S k st' := by
        show (if cntH S st' = 1 then _ else _) = _
        rw [if_neg g]
      refine ⟨_, w1, a, rfl, _, q'.c8, ltruth_spec ?_⟩
      rw [trI_there T.th hn]
      refine ⟨w1, q'.c8, q'.m1.look ?_⟩
      have eg := m'.gs (tr (tl S k) : Int)
      refine seq.cut (fun (b : Bool) h2 => (b = true ∧ runW S (k + 1) st' = none ∧ ∃ t2, WKt h0 hD h2 a x mp1 mp2 t2) ∨ (b = false ∧ ∃ t2 st2, WKt h0 hD h2 a x mp1 mp2 t2 ∧ MtW S t2 st2 ∧ InvW S k st2 ∧ runW S k st2 = runW S (k + 1) st')) ?_ ?_
      · refine ⟨fun gi => ?_, fun gi => ?_⟩
        · have hA : st'.A (tr (tl S k)) = true := by
            cases hA : st'.A (tr (tl S k))
            · dsimp only at gi
              rw [eg] at gi; simp [hA] at gi
            · rfl
          refine ⟨_, w1, ltruth_spec ?_⟩
          rw [trI_there T.th hn]
          refine ⟨w1, ltake_spec q' rd R f m' I' (by omega) hA g (fun hre => .inl ⟨rfl, ?_, t', q'⟩) (fun hre h2 t2 q2 m2 => .inr ⟨rfl, t2, _, q2, m2, I'.step R (by omega) hA g hre, ?_⟩)⟩
          · rw [hrun, if_pos hA, if_pos hre]
          · rw [hrun, if_pos hA, if_neg hre]
        · have hA : st'.A (tr (tl S k)) = false := by
            cases hA : st'.A (tr (tl S k))
            · rfl
            · dsimp only at gi
              rw [eg] at gi; simp [hA] at gi
          refine .inr ⟨rfl, t', st', q', m', I'.skip hA, ?_⟩
          rw [hrun, hA]; simp
      · rintro b h2 (⟨rfl, hno, t2, q2⟩ | ⟨rfl, t2, st2, q2, m2, I2, hr2⟩)
        · refine ⟨fun _ => fin false q2 fun h'' q'' => K0 (by rw [← hr]; exact hno) h'' q''.ext, nofun⟩
        · exact ⟨nofun, fun _ => hJ h2 ⟨t2, st2, by omega, q2, m2, I2, hr2.trans hr⟩⟩
  · obtain ⟨t', st', _, q', m', I', hr⟩ := hI
    obtain ⟨w1, c1, r1, r2⟩ := ths q'
    have hc := m'.c
    refine ⟨_, w1, a, rfl, t'.c, q'.c10, ?_⟩
    by_cases g : cntH S st' = 1
    · have : (t'.c == 1) = true := by simp; omega
      dsimp only
      rw [this]
      refine fin true q' fun h'' q'' => K1 st' ?_ h'' t' q'' m'
      rw [← hr]; exact runW_one g _
    · have : (t'.c == 1) = false := by simp; omega
      dsimp only
      rw [this]
      refine fin false q' fun h'' q'' => K0 ?_ h'' q''.ext
      rw [← hr]
      show (if cntH S st' = 1 then _ else _) = _
      rw [if_neg g]
end Go.Sh

namespace Go.Sh
open Go Go.Lift Go.Cla Go.Sort
variable {h h' : Heap}
theorem Own.sorted {B b : Nat} {s s' : Sl} {pre xs : List Int} {cmpS : Int → Int → Heap → (Int → Heap → Prop) → Prop} {cf : Int → Int → Int} {Q : Unit → Heap → Prop} (ho : Own toI B h s (pre ++ xs)) (hne : xs ≠ []) (ha : s.a = some ⟨b, 0, none⟩) (ha' : s'.a = some ⟨b, pre.length, none⟩) (hl' : s'.len = xs.length) (hlen : xs.length < 4611686018427387904)
    (hO : SWO (fun x y => decide (cf x y < 0))) (hcmp : ∀ hh, Keep (some b) h hh → ∀ x y, cmpS x y hh fun v m' => v = cf x y ∧ Ext hh m')
    (K : ∀ ys h', ys.Perm xs → ys.Pairwise (fun x y => ¬ cf y x < 0) → Own toI B h' s (pre ++ ys) → Keep (some b) h h' → Q () h') : sortP cmpS s' h Q := by
  rcases ho.own with ⟨h1, _⟩ | ⟨b', c, T, h1, hB, hb, hcap⟩
  · rw [h1] at ha; cases ha
  rw [ha] at h1
  obtain rfl : b = b' := by cases h1; rfl
  have hl := ho.r.len
  have hcap2 := ho.r.cap
  have hget : ∀ j (hj : j < (pre ++ xs).length), c[j]? = some (toI (pre ++ xs)[j]) := by
    intro j hj
    obtain ⟨a1, e1, e2⟩ := ho.r.get hj
    rw [ha] at e1; cases e1
    rw [addr_add _ _ rfl] at e2
    unfold cell? at e2
    simp [hb] at e2
    simpa using e2
  have hbl : b < h.size := (Array.getElem?_eq_some_iff.1 hb).1
  have keep : ∀ (ys : List Int) (os : Array Obj), Keep (some b) h (modB b (putCells iI pre.length ys.toArray) h ++ os) := by
    intro ys os
    refine ⟨by simp [modB_size], fun j hj hn => ?_⟩
    rw [Array.getElem?_append_left (by rw [modB_size]; exact hj), modB_get, if_neg (fun e => hn (by rw [e]))]
  refine ⟨b, pre.length, c, T, xs, cf, ha', hl', hlen, hb, fun j hj => ?_, hO, fun ys os hys x y => hcmp _ (keep ys os) x y, fun ys os hp hs => K ys _ hp hs ?_ (keep ys os)⟩
  · rw [hget (pre.length + j) (by simp; exact hj)]
    simp [List.getElem_append_right]
  · have hyl := hp.length_eq
    have hblk : (modB b (putCells iI pre.length ys.toArray) h ++ os)[b]? = some (.cells (putCells iI pre.length ys.toArray c) T (0, 0)) := by
      rw [Array.getElem?_append_left (by rw [modB_size]; exact hbl), modB_get, if_pos rfl, hb]
      rfl
    refine ⟨R.mk' (by rw [hl]; simp [hyl]) hcap2 _ ha fun i hi => ?_, .inr ⟨b, _, T, ha, hB, hblk, by simpa [putCells] using hcap⟩⟩
    rw [addr_add _ _ rfl]
    unfold cell?
    simp only [hblk, Nat.zero_add, Option.isSome_none, Bool.false_eq_true, if_false]
    unfold putCells
    rw [Array.getElem?_mapIdx, hget i (by simp at hi ⊢; omega)]
    simp only [List.length_append] at hi
    by_cases g : pre.length ≤ i
    · have hj : i - pre.length < ys.length := by omega
      simp only [Option.map_some, List.size_toArray]
      rw [if_pos ⟨g, by omega⟩, List.getElem_append_right g]
      simp [hj]
    · simp only [Option.map_some, List.size_toArray]
      rw [if_neg (fun h => g h.1)]
      simp [List.getElem_append_left (show i < pre.length by omega)]
theorem sliceCut {s : Sl} {b j : Nat} {k : Sl → Prop} (ha : s.a = some ⟨b, 0, none⟩) (hc : s.len ≤ s.cap) (hj : j < s.len) (K : k ⟨some ⟨b, j, none⟩, s.len - j, s.cap - j⟩) : sliceOf s (some (j : Int)) none none 1 k := by
  refine ⟨⟨by simp, by simp⟩, ⟨by simp, .inl rfl⟩, ⟨by simp, by simp; omega⟩, ?_⟩
  simp only [Option.getD_none, Option.getD_some, Int.toNat_natCast, Nat.mul_one]
  rw [if_neg (by omega), ha]
  simp only [Option.map_some]
  rw [addr_add _ _ rfl, Nat.zero_add]
  exact K
def ap1 (p : Addr) (x0 : Int) (h : Heap) (K0 : Heap → Prop) : Prop :=
  Lift.load Sl.toV p h fun v => new [Value.int .i64 x0] h fun a h4 => appendS 1 8 v (⟨some a, 1, 1⟩ : Sl) h4 fun v2 h5 => Lift.store p (Sl.toV v2) h5 fun h6 => K0 h6
structure Bx (hB : Heap) (p : Addr) (h : Heap) (xs : List Int) : Prop where
  cell : ∃ s, cell? h p = some (Sl.toV s) ∧ Own toI hB.size h s xs
  frz : frozen? h p = false
  pb : p.block < hB.size
  ext : Keep (some p.block) hB h
theorem ap1uspec {hB : Heap} {p : Addr} {xs : List Int} {x0 : Int} {K0 : Heap → Prop} (q : Bx hB p h xs) (hl : xs.length ≤ 1000000) (K : ∀ h', Bx hB p h' (xs ++ [x0]) → K0 h') : ap1 p x0 h K0 := by
  obtain ⟨s, hc, ho⟩ := q.cell
  refine ⟨s, hc, fun T => ?_⟩
  have e1 : Ext h (h.push (.cells [Value.int .i64 x0].toArray T (0, 0))) := Ext.push _ _
  have o1 := ho.ext e1
  have n1 : Own toI h.size (h.push (.cells [Value.int .i64 x0].toArray T (0, 0))) ⟨some ⟨h.size, 0, none⟩, [x0].length, [x0].length⟩ [x0] := Own.new rfl
  have hsz := q.ext.size
  have hs1 := e1.size
  generalize h.push (.cells [Value.int .i64 x0].toArray T (0, 0)) = h1 at *
  have c1 := cell_keep e1 hc (by simp)
  have f1 := frozen_keep e1 (cell_lt hc) q.frz (by simp)
  have hpb := q.pb
  refine o1.append (by omega) n1.r (fun _ => rfl) (by simp; omega) fun s' h2 o2 k2 hbk => ?_
  have hne : ∀ {s : Sl} {hh : Heap} {ys : List Int}, Own toI hB.size hh s ys → some p.block ≠ s.blk := fun o e => by
    have := (o.lt e.symm).1; omega
  have c2 := cell_keep k2 c1 (hne o1)
  have f2 := frozen_keep k2 (cell_lt c1) f1 (hne o1)
  refine ⟨⟨_, c2⟩, f2, K _ ⟨⟨s', cell_set_same c2, o2.keep (Keep.setCell _ _ _) fun b hb e => hne o2 (by rw [hb]; exact e.symm)⟩, by rw [frozen_set]; exact f2, hpb, ?_⟩⟩
  refine Keep.trans ?_ (Keep.setCell h2 p _)
  refine ⟨Nat.le_trans (Nat.le_trans hsz hs1) k2.size, fun j hj hn => ?_⟩
  rw [k2.same j (by omega) (fun e => by have := (o1.lt e.symm).1; omega), e1.same j (by omega) (by simp), q.ext.same j hj hn]
theorem eraseIdx_perm {α : Type} (l : List α) : ∀ (i : Nat) (hi : i < l.length), (l[i] :: l.eraseIdx i).Perm l := by
  induction l with
  | nil => intro i hi; simp at hi
  | cons x r ih =>
    intro i hi
    cases i with
    | zero => simp
    | succ i =>
      simp only [List.length_cons, Nat.add_lt_add_iff_right] at hi
      simp only [List.getElem_cons_succ, List.eraseIdx_cons_succ]
      exact (List.Perm.swap _ _ _).trans ((ih i hi).cons x)
theorem collectR {α : Type} {b : Nat} {hB : Heap} {p : Addr} {sel : Int × α → Int} {R : Heap → Prop} (hb : b < hB.size) (hbp : b ≠ p.block) : ∀ (l : List (Int × α)) (n : Nat) (xs : List Int) (h : Heap), l.length = n → xs.length + n ≤ 1000000 → Bx hB p h xs → (∀ h' zs, zs.Perm (l.map sel) → Bx hB p h' (xs ++ zs) → R h') → mapR b (fun q => ap1 p (sel q)) R n l h := by
  intro l n
  induction n generalizing l with
  | zero =>
    intro xs h hn _ q K
    have : l = [] := List.eq_nil_of_length_eq_zero hn
    subst this
    exact K h [] (by simp) (by simpa using q)
  | succ n ih =>
    intro xs h hn hle q K i hi
    refine ap1uspec q (by omega) fun h' q' => ⟨?_, ih _ _ h' ?_ (by simp; omega) q' fun h2 zs hp q2 => K h2 (sel l[i] :: zs) ?_ (by simpa using q2)⟩
    · rw [q'.ext.same b hb (fun e => hbp (Option.some.inj e)), q.ext.same b hb (fun e => hbp (Option.some.inj e))]
    · rw [List.length_eraseIdx_of_lt hi]; omega
    · refine (hp.cons _).trans ?_
      rw [← List.map_cons]
      exact (eraseIdx_perm l i hi).map _
theorem collectL {α : Type} {toV : α → Value} {mp : Nat} {f : List (Int × α)} {c0 : Addr} {sel : Int × α → Int} {R : Heap → Prop} {p : Addr} (hc : cell? h c0 = some (Value.map (some mp))) (hm : mapEs .i64 h (some mp) (vals toV f)) (hl : f.length ≤ 1000000) (q : Bx h p h []) (hbp : mp ≠ p.block)
    (K : ∀ h' zs, zs.Perm (f.map sel) → Bx h p h' zs → R h') : mapL toV .i64 c0 (fun q => ap1 p (sel q)) R h := by
  refine ⟨_, hc, mp, f, rfl, hm, mem_ext fun h1 e1 => ?_⟩
  have hlt : mp < h.size := by
    obtain ⟨es, c, h1, _⟩ := hm
    exact (Array.getElem?_eq_some_iff.1 h1).1
  obtain ⟨s, c1, o1⟩ := q.cell
  refine collectR hlt hbp f f.length [] h1 rfl (by simp; omega) ⟨⟨s, cell_keep e1 c1 (by simp), o1.ext e1⟩, frozen_keep e1 (cell_lt c1) q.frz (by simp), q.pb, Keep.of_ext e1⟩ fun h' zs hp q2 => K h' zs hp (by simpa using q2)
end Go.Sh

namespace Go.Sh
open Go Go.Lift Go.Cla Go.Sort
variable {h0 h h' : Heap} {x : S8} {S : SS} {nx : Int}
def compI (x y : Int) : Int := if x < y then -1 else if x > y then 1 else 0
theorem cmpC_spec {x y : Int} {Q : Int → Heap → Prop} (K : Q (compI x y) h) : cmp_Compare_int x y h Q := by
  have n1 : ∀ z : Int, (z != z) = false := fun z => by simp
  unfold cmp_Compare_int cmp_isNaN_int
  rw [n1, n1]
  refine ⟨nofun, fun _ => ⟨nofun, fun _ => ⟨fun g => ?_, fun g => ⟨fun g2 => ?_, fun g2 => ?_⟩⟩⟩⟩
  · have g := of_decide_eq_true g
    unfold compI at K; rw [if_pos g] at K; exact K
  · have g := of_decide_eq_false g
    have g2 := of_decide_eq_true g2
    unfold compI at K; rw [if_neg g, if_pos g2] at K; exact K
  · have g := of_decide_eq_false g
    have g2 := of_decide_eq_false g2
    unfold compI at K; rw [if_neg g, if_neg g2] at K; exact K
def ordF (S : SS) (a b : Int) : Int := if compI (lvI S b) (lvI S a) ≠ 0 then compI (lvI S b) (lvI S a) else compI (trI a) (trI b)
theorem ordF_lt {a b : Int} : ordF S a b < 0 ↔ lvI S b < lvI S a ∨ (lvI S a = lvI S b ∧ trI a < trI b) := by
  unfold ordF compI
  repeat' split
  all_goals omega
theorem ordF_swo : SWO (fun x y => decide (ordF S x y < 0)) where
  irrefl x := by simp only [decide_eq_false_iff_not, ordF_lt]; omega
  trans x y z h1 h2 := by simp only [decide_eq_true_eq, ordF_lt] at *; omega
  ntrans x y z h1 h2 := by simp only [decide_eq_false_iff_not, ordF_lt] at *; omega
def ordT (a b : Int) : Int := compI (trI a) (trI b)
theorem ordT_lt {a b : Int} : ordT a b < 0 ↔ trI a < trI b := by
  unfold ordT compI
  repeat' split
  all_goals omega
theorem ordT_swo : SWO (fun x y => decide (ordT x y < 0)) where
  irrefl x := by simp only [decide_eq_false_iff_not, ordT_lt]; omega
  trans x y z h1 h2 := by simp only [decide_eq_true_eq, ordT_lt] at *; omega
  ntrans x y z h1 h2 := by simp only [decide_eq_false_iff_not, ordT_lt] at *; omega
theorem fromC_spec {a b : Int} {Q : Int → Heap → Prop} (K : Q (ordT a b) h) : learn_From_c1 a b h Q :=
  ltruth_spec (ltruth_spec (cmpC_spec K))
theorem or_spec {s : Sl} {u v : Int} {Q : Int → Heap → Prop} (hr : RJ h s [u, v]) (K : Q (if u ≠ 0 then u else v) h) : cmp_Or_int s h Q := by
  have hl := hr.len
  simp only [List.length_cons, List.length_nil] at hl
  refine loop.inv (fun (t : Int) hh => ∃ k : Nat, t = (k : Int) ∧ k ≤ 2 ∧ hh = h ∧ ∀ j, j < k → atI [u, v] j = 0) (fun t _ => 2 - t.toNat) ⟨0, rfl, by omega, rfl, fun j hj => by omega⟩ ?_
  rintro t hh ⟨k, rfl, hk, rfl, hz⟩
  refine ⟨fun g => ?_, fun g => ?_⟩
  · have g := of_decide_eq_true g
    have hk2 : k < 2 := by omega
    refine hr.ld (j := k) rfl (by simpa using hk2) ?_
    rw [at_atI]
    refine ⟨fun g2 => ?_, fun g2 => ?_⟩
    · have g2 : atI [u, v] k ≠ 0 := by simpa using g2
      have : (if u ≠ 0 then u else v) = atI [u, v] k := by
        match k, hk2 with
        | 0, _ => have : u ≠ 0 := g2; simp [this, atI]
        | 1, _ =>
          have h0 : u = 0 := hz 0 (by omega)
          simp [h0, atI]
      rw [← this]; exact K
    · have g2 : atI [u, v] k = 0 := by simpa using g2
      rw [w64 (by omega) (by omega)]
      refine ⟨⟨k + 1, by omega, by omega, rfl, fun j hj => ?_⟩, by omega⟩
      by_cases e : j = k
      · subst e; exact g2
      · exact hz j (by omega)
  · have g := of_decide_eq_false g
    have hk2 : k = 2 := by omega
    subst hk2
    have u0 : u = 0 := hz 0 (by omega)
    have v0 : v = 0 := hz 1 (by omega)
    subst u0 v0
    exact K
theorem order_spec {a b : Int} {c0 : Addr} {Q : Int → Heap → Prop} (q : SRd h x S nx) (hc : cells? h c0 8 0 = some (C_sl_sl_sl_sl_sl_sl_sl_i64 x)) (K : ∀ h', Ext h h' → Q (ordF S a b) h') : learn_order_c1 a b c0 h Q := by
  refine ⟨x, hc, x, hc, lat_spec q fun h1 e1 => ⟨?_, lat_spec (q.ext e1) fun h2 e2 => ?_⟩⟩
  · exact cells_ext e1 hc
  · refine cmpC_spec (ltruth_spec (ltruth_spec (cmpC_spec ?_)))
    intro T
    have e3 : Ext h2 (h2.push (.cells [Value.int .i64 (compI (lvI S b) (lvI S a)), Value.int .i64 (compI (trI a) (trI b))].toArray T (0, 0))) := Ext.push _ _
    have o3 := Own.new (h := h2) (T := T) (toV := toI) (ys := [compI (lvI S b) (lvI S a), compI (trI a) (trI b)]) (cs := [Value.int .i64 (compI (lvI S b) (lvI S a)), Value.int .i64 (compI (trI a) (trI b))]) rfl
    exact or_spec o3.r (K _ ((e1.trans e2).trans e3))
end Go.Sh

namespace Go.Sh
open Go Go.Lift Go.Cla
variable {S : SS} {nx : Int}
theorem nl_told (R : RightS S nx) {v : Nat} (hv : v < S.val.length) (hl : 0 < atI S.lev v) : There S.val.length (nl S v) ∧ tr (nl S v) = v ∧ vl S.val (nl S v) = -1 := by
  obtain ⟨q, hq, rfl⟩ := R.place hv (by omega)
  have h := (R.tra q hq).sgn
  have e : There S.val.length (nl S (tr (tl S q))) ∧ tr (nl S (tr (tl S q))) = tr (tl S q) ∧ sg (nl S (tr (tl S q))) = - atI S.val (tr (tl S q)) ∧ (atI S.val (tr (tl S q)) = 1 ∨ atI S.val (tr (tl S q)) = -1) := by
    have hs := sg_or (tl S q)
    unfold nl
    rw [h]
    generalize sg (tl S q) = g at *
    generalize tr (tl S q) = v at *
    unfold There tr sg
    rcases hs with rfl | rfl
    · refine ⟨⟨by omega, by omega, by omega⟩, by omega, by split <;> omega, by omega⟩
    · refine ⟨⟨by omega, by omega, by omega⟩, by omega, by split <;> omega, by omega⟩
  refine ⟨e.1, e.2.1, ?_⟩
  unfold vl
  rw [if_pos e.1, e.2.1, e.2.2.1]
  rcases e.2.2.2 with g | g <;> rw [g] <;> rfl
theorem countP_uniq {p : Nat → Bool} {m i j : Nat} (h : (List.range m).countP p = 1) (hi : i < m) (hj : j < m) (pi : p i = true) (pj : p j = true) : i = j := by
  refine Classical.byContradiction fun hne => ?_
  have h1 := countP_one (p := fun k => if k = i then false else p k) (p' := p) (q := i) (by simp) pi (fun k hk => by simp [hk]) m
  rw [h, if_pos hi] at h1
  have h2 : 0 < (List.range m).countP (fun k => if k = i then false else p k) := List.countP_pos_iff.2 ⟨j, List.mem_range.2 hj, by simp [Ne.symm hne, pj]⟩
  omega
theorem the_one (R : RightS S nx) {st : AE} (hin : ∀ v, st.A v = true → v < S.val.length ∧ 0 < atI S.lev v) (hc : cntH S st = 1) : ∃ u, st.A u = true ∧ atI S.lev u = (S.hea.length : Int) ∧ ∀ v, st.A v = true → atI S.lev v = (S.hea.length : Int) → v = u := by
  obtain ⟨q, hq, hp⟩ := cnt_pos (S := S) (st := st) (by omega)
  have hp2 := hp
  unfold inH at hp2
  simp only [Bool.and_eq_true, beq_iff_eq] at hp2
  refine ⟨_, hp2.1, hp2.2, fun v hv hl => ?_⟩
  obtain ⟨j, hj, rfl⟩ := R.place (hin v hv).1 (by have := (hin v hv).2; omega)
  rw [countP_uniq hc hj hq (by unfold inH; simp only [Bool.and_eq_true, beq_iff_eq]; exact ⟨hv, hl⟩) hp]
def inA (S : SS) (A : Nat → Bool) : List Nat := (List.range S.val.length).filter A
def secF (S : SS) (A : Nat → Bool) : Nat → Int
  | 0 => -1
  | k + 1 => if A k = true ∧ atI S.lev k < (S.hea.length : Int) ∧ (secF S A k < 0 ∨ atI S.lev k > atI S.lev (secF S A k).toNat) then (k : Int) else secF S A k
def befo (S : SS) (v w : Nat) : Prop := atI S.lev w < atI S.lev v ∨ (atI S.lev v = atI S.lev w ∧ v < w)
theorem secF_spec (A : Nat → Bool) : ∀ k, (secF S A k = -1 ∧ ∀ v, v < k → A v = true → ¬ atI S.lev v < (S.hea.length : Int)) ∨ ∃ s : Nat, s < k ∧ secF S A k = (s : Int) ∧ A s = true ∧ atI S.lev s < (S.hea.length : Int) ∧ ∀ v, v < k → A v = true → atI S.lev v < (S.hea.length : Int) → v ≠ s → befo S s v := by
  intro k
  induction k with
  | zero => exact .inl ⟨rfl, fun v hv => by omega⟩
  | succ k ih =>
    unfold secF
    rcases ih with ⟨e, h⟩ | ⟨s, hs, e, h1, h2, h3⟩
    · by_cases g : A k = true ∧ atI S.lev k < (S.hea.length : Int)
      · rw [if_pos ⟨g.1, g.2, .inl (by omega)⟩]
        refine .inr ⟨k, by omega, rfl, g.1, g.2, fun v hv hA hl hne => absurd hl (h v (by omega) hA)⟩
      · rw [if_neg (fun h => g ⟨h.1, h.2.1⟩)]
        refine .inl ⟨e, fun v hv hA hl => ?_⟩
        by_cases e : v = k
        · subst e; exact g ⟨hA, hl⟩
        · exact h v (by omega) hA hl
    · by_cases g : A k = true ∧ atI S.lev k < (S.hea.length : Int) ∧ atI S.lev k > atI S.lev s
      · rw [if_pos ⟨g.1, g.2.1, .inr (by rw [e]; exact g.2.2)⟩]
        refine .inr ⟨k, by omega, rfl, g.1, g.2.1, fun v hv hA hl hne => ?_⟩
        have : v = s ∨ befo S s v := by
          by_cases ev : v = s
          · exact .inl ev
          · exact .inr (h3 v (by omega) hA hl ev)
        unfold befo at *
        rcases this with rfl | g2 <;> omega
      · rw [if_neg (fun hh => g ⟨hh.1, hh.2.1, by rcases hh.2.2 with h0 | h0; · omega
                                                  · rw [e] at h0; exact h0⟩)]
        refine .inr ⟨s, by omega, e, h1, h2, fun v hv hA hl hne => ?_⟩
        by_cases ev : v = k
        · subst ev
          unfold befo
          have : ¬ atI S.lev v > atI S.lev s := fun h => g ⟨hA, hl, h⟩
          omega
        · exact h3 v (by omega) hA hl hne
def restF (S : SS) (A : Nat → Bool) : List Nat := (List.range S.val.length).filter fun v => A v && decide (atI S.lev v < (S.hea.length : Int)) && decide ((v : Int) ≠ secF S A S.val.length)
def headF (S : SS) (A : Nat → Bool) : List Nat := (List.range S.val.length).filter fun v => A v && (atI S.lev v == (S.hea.length : Int))
def lessF (S : SS) (A : Nat → Bool) : List Nat := headF S A ++ (if secF S A S.val.length ≥ 0 then [(secF S A S.val.length).toNat] else []) ++ restF S A
def levF (S : SS) (A : Nat → Bool) : Int := if secF S A S.val.length ≥ 0 then atI S.lev (secF S A S.val.length).toNat else 0
theorem range_sorted (n : Nat) (p : Nat → Bool) : ((List.range n).filter p).Pairwise (fun a b => a ≤ b) := (List.Pairwise.filter _ List.pairwise_lt_range).imp fun h => Nat.le_of_lt h
theorem nat_sorted {l m : List Nat} (hp : l.Perm m) (hl : l.Pairwise (fun a b => a ≤ b)) (hm : m.Pairwise (fun a b => a ≤ b)) : l = m := hp.eq_of_pairwise (fun _ _ _ _ h1 h2 => Nat.le_antisymm h1 h2) hl hm
theorem headF_eq {A : Nat → Bool} {u : Nat} (hu : A u = true) (hun : u < S.val.length) (hlu : atI S.lev u = (S.hea.length : Int)) (hone : ∀ v, A v = true → atI S.lev v = (S.hea.length : Int) → v = u) : headF S A = [u] := by
  refine nat_sorted ((List.perm_ext_iff_of_nodup (List.nodup_range.filter _) (by simp)).2 fun v => ?_) (range_sorted _ _) (by simp)
  simp only [List.mem_filter, List.mem_range, Bool.and_eq_true, beq_iff_eq, List.mem_singleton]
  exact ⟨fun h => hone v h.2.1 h.2.2, fun h => by subst h; exact ⟨hun, hu, hlu⟩⟩
theorem sorted_less {A : Nat → Bool} {u : Nat} (hlev : ∀ v, A v = true → atI S.lev v ≤ (S.hea.length : Int)) (hu : A u = true) (hun : u < S.val.length) (hlu : atI S.lev u = (S.hea.length : Int)) (hone : ∀ v, A v = true → atI S.lev v = (S.hea.length : Int) → v = u)
    {ws : List Nat} (hp : ws.Perm (inA S A)) (hs : ws.Pairwise (fun v w => ¬ befo S w v)) :
    (secF S A S.val.length = -1 ∧ ws = [u] ∧ restF S A = []) ∨ ∃ (s : Nat) (t : List Nat), secF S A S.val.length = (s : Int) ∧ ws = u :: s :: t ∧ t.Perm (restF S A) ∧ ∀ v ∈ t, atI S.lev v ≤ atI S.lev s := by
  have hmem : ∀ v, v ∈ ws ↔ v < S.val.length ∧ A v = true := fun v => by rw [hp.mem_iff]; unfold inA; simp
  have hnd : ws.Nodup := hp.nodup_iff.2 (List.nodup_range.filter _)
  cases ws with
  | nil => have := (hmem u).2 ⟨hun, hu⟩; simp at this
  | cons w0 ws' =>
    simp only [List.pairwise_cons] at hs
    simp only [List.nodup_cons] at hnd
    have e0 : w0 = u := by
      have hw := (hmem w0).1 (by simp)
      refine Classical.byContradiction fun hne => ?_
      have hin : u ∈ ws' := by
        have := (hmem u).2 ⟨hun, hu⟩
        simpa [Ne.symm hne] using this
      have h1 := hs.1 u hin
      have h2 := hlev w0 hw.2
      have h3 : atI S.lev w0 ≠ (S.hea.length : Int) := fun h => hne (hone w0 hw.2 h)
      unfold befo at h1
      omega
    subst e0
    have hmem' : ∀ v, v ∈ ws' ↔ v < S.val.length ∧ A v = true ∧ atI S.lev v < (S.hea.length : Int) := by
      intro v
      constructor
      · intro hv
        have h1 := (hmem v).1 (by simp [hv])
        have h2 := hlev v h1.2
        have h3 : atI S.lev v ≠ (S.hea.length : Int) := fun h => hnd.1 (hone v h1.2 h ▸ hv)
        exact ⟨h1.1, h1.2, by omega⟩
      · rintro ⟨h1, h2, h3⟩
        have := (hmem v).2 ⟨h1, h2⟩
        rcases List.mem_cons.1 this with rfl | h
        · omega
        · exact h
    rcases secF_spec (S := S) A S.val.length with ⟨e, h⟩ | ⟨s, hsn, e, h1, h2, h3⟩
    · left
      have hws : ws' = [] := by
        cases ws' with
        | nil => rfl
        | cons v r =>
          have := (hmem' v).1 (by simp)
          exact absurd this.2.2 (h v this.1 this.2.1)
      subst hws
      refine ⟨e, rfl, List.filter_eq_nil_iff.2 fun v hv => ?_⟩
      have := h v (List.mem_range.1 hv)
      simp only [Bool.and_eq_true, decide_eq_true_eq, not_and]
      intro g; exact absurd g.2 (this g.1)
    · right
      have hin : s ∈ ws' := (hmem' s).2 ⟨hsn, h1, h2⟩
      cases ws' with
      | nil => cases hin
      | cons y t =>
        simp only [List.pairwise_cons] at hs
        have hy := (hmem' y).1 (by simp)
        have ey : y = s := by
          refine Classical.byContradiction fun hne => ?_
          have g1 := h3 y hy.1 hy.2.1 hy.2.2 hne
          have g2 : s ∈ t := by simpa [Ne.symm hne] using hin
          exact hs.2.1 s g2 g1
        subst ey
        simp only [List.nodup_cons] at hnd
        refine ⟨y, t, e, rfl, (List.perm_ext_iff_of_nodup hnd.2.2 (List.nodup_range.filter _)).2 fun v => ?_, fun v hv => ?_⟩
        · unfold restF at *
          simp only [List.mem_filter, List.mem_range, Bool.and_eq_true, decide_eq_true_eq, e]
          constructor
          · intro hv
            have := (hmem' v).1 (by simp [hv])
            refine ⟨this.1, ⟨this.2.1, this.2.2⟩, fun hh => ?_⟩
            have : v = y := by omega
            subst this; exact hnd.2.1 hv
          · rintro ⟨g1, ⟨g2, g3⟩, g4⟩
            have := (hmem' v).2 ⟨g1, g2, g3⟩
            rcases List.mem_cons.1 this with rfl | h
            · exact absurd rfl g4
            · exact h
        · have := hs.2.1 v hv
          unfold befo at this
          omega
end Go.Sh

namespace Go.Sh
open Go Go.Lift Go.Cla Go.Sort
variable {h0 h h' : Heap} {x : S8} {S : SS} {nx : Int} {mp : Nat}
theorem sortI_of {s : Sl} {Q : Unit → Heap → Prop} (H : sortP (fun x y hh K => K (x - y) hh) s h Q) : sortI s h Q := by
  obtain ⟨blk, off, c, T, xs, cf, ha, hl, hs, hb, hx, hO, hcmp, H⟩ := H
  refine ⟨blk, off, c, T, xs, ha, hl, hs, hb, hx, fun ys os hp hso => H ys os hp (hso.imp fun {u v} h => ?_)⟩
  have := (hcmp xs #[] rfl v u).1
  omega
theorem lookup_mem {α : Type} {f : List (Int × α)} (hn : (f.map (·.1)).Nodup) {p : Int × α} (hp : p ∈ f) : f.lookup p.1 = some p.2 := by
  induction f with
  | nil => cases hp
  | cons q r ih =>
    simp only [List.map_cons, List.nodup_cons] at hn
    obtain ⟨k, v⟩ := q
    rcases List.mem_cons.1 hp with rfl | h
    · simp [List.lookup]
    · have : p.1 ≠ k := fun e => hn.1 (e ▸ List.mem_map_of_mem (f := (·.1)) h)
      have hb : (p.1 == k) = false := by simpa using this
      simp only [List.lookup, hb]
      exact ih hn.2 h
theorem MPg.rows {α : Type} {toV : α → Value} {A : Nat → Bool} {val : Nat → α} {g : Int → Option α} (p : MPg toV h mp g) (hg : ∀ k : Int, g k = if 0 ≤ k ∧ A k.toNat = true then some (val k.toNat) else none) (hA : ∀ v, A v = true → v < S.val.length) :
    ∃ f : List (Int × α), mapEs .i64 h (some mp) (vals toV f) ∧ (f.map (·.1)).Perm ((inA S A).map fun v : Nat => (v : Int)) ∧ (f.map (·.2)).Perm ((inA S A).map val) := by
  obtain ⟨f, h1, h2⟩ := p
  have hn : (f.map (·.1)).Nodup := by
    obtain ⟨es, c, _, he⟩ := h1
    have := he.keys
    unfold vals at this
    rw [List.map_map] at this
    exact this
  have hk : (f.map (·.1)).Perm ((inA S A).map fun v : Nat => (v : Int)) := by
    refine (List.perm_ext_iff_of_nodup hn (List.Pairwise.map _ (fun a b h => by intro e; exact h (by omega)) ((List.nodup_range (n := S.val.length)).filter A))).2 fun k => ?_
    have e1 : k ∈ f.map (·.1) ↔ (f.lookup k).isSome = true := by
      constructor
      · intro hk
        obtain ⟨p, hp, rfl⟩ := List.mem_map.1 hk
        rw [lookup_mem hn hp]; rfl
      · intro hk
        obtain ⟨v, hv⟩ := Option.isSome_iff_exists.1 hk
        exact List.mem_map_of_mem (f := (·.1)) (mem_lookup hv)
    rw [e1, h2, hg]
    simp only [inA, List.mem_map, List.mem_filter, List.mem_range]
    constructor
    · intro hh
      split at hh
      · rename_i g0
        exact ⟨k.toNat, ⟨hA _ g0.2, g0.2⟩, by omega⟩
      · cases hh
    · rintro ⟨v, ⟨_, hv⟩, rfl⟩
      rw [if_pos ⟨by omega, by simpa using hv⟩]; rfl
  refine ⟨f, h1, hk, ?_⟩
  have e2 : f.map (·.2) = (f.map (·.1)).map fun k => val k.toNat := by
    rw [List.map_map]
    refine List.map_congr_left fun p hp => ?_
    have := lookup_mem hn hp
    rw [h2, hg] at this
    split at this
    · exact (Option.some.inj this).symm
    · cases this
  rw [e2]
  refine (hk.map _).trans ?_
  rw [List.map_map]
  refine List.Perm.of_eq (List.map_congr_left fun v _ => by simp)
theorem inA_len (A : Nat → Bool) : (inA S A).length ≤ S.val.length := by
  have := List.length_filter_le A (List.range S.val.length)
  simpa [inA] using this
theorem collectV {c0 : Addr} {f : List (Int × Int)} {Q : Sl → Heap → Prop} (hc : cell? h c0 = some (Value.map (some mp))) (hm : mapEs .i64 h (some mp) (vals toI f)) (hl : f.length ≤ 1000000) (K : ∀ s h' zs, zs.Perm (f.map (·.2)) → Own toI h.size h' s zs → Ext h h' → Q s h') : slices_Collect_int (FnV.mk 63 [] [Value.pointer (some c0)]) h Q := by
  intro T
  generalize hB : h.push (.cells [Sl.toV Sl.nil].toArray T (0, 0)) = h1
  have e1 : Ext h h1 := by rw [← hB]; exact Ext.push _ _
  have c1 : cell? h1 ⟨h.size, 0, none⟩ = some (Sl.toV Sl.nil) := by rw [← hB]; exact cell_push_new _ _ _ _ _
  have f1 : frozen? h1 ⟨h.size, 0, none⟩ = false := by rw [← hB]; unfold frozen?; simp
  have s1 : h1.size = h.size + 1 := by rw [← hB]; simp
  clear hB
  refine .inl ⟨c0, rfl, mem_ext fun h2 e2 => ?_⟩
  have e12 := e1.trans e2
  have hlt : mp < h.size := by
    obtain ⟨es, c, h1, _⟩ := hm
    exact (Array.getElem?_eq_some_iff.1 h1).1
  have hm2 : mapEs .i64 h2 (some mp) (vals toI f) := by
    obtain ⟨es, c, g1, g2⟩ := hm
    exact ⟨es, c, (e12.same mp hlt (by simp)).trans g1, g2⟩
  have sz2 := e2.size
  have q : Bx h2 ⟨h.size, 0, none⟩ h2 [] := ⟨⟨Sl.nil, cell_keep e2 c1 (by simp), Own.nil⟩, frozen_keep e2 (by show h.size < _; omega) f1 (by simp), by show h.size < _; omega, Keep.refl _ _⟩
  refine collectL (sel := fun p => p.2) (cell_keep e12 hc (by simp)) hm2 hl q (by show mp ≠ h.size; omega) fun h' zs hp q' => ?_
  obtain ⟨s, c3, o3⟩ := q'.cell
  exact ⟨s, c3, K s h' zs hp (o3.mono (by omega)) (Keep.fresh e12 (Nat.le_refl _) q'.ext)⟩
theorem collectK {c0 : Addr} {f : List (Int × Bool)} {Q : Sl → Heap → Prop} (hc : cell? h c0 = some (Value.map (some mp))) (hm : mapEs .i64 h (some mp) (vals Value.bool f)) (hl : f.length ≤ 1000000) (K : ∀ s h' zs, zs.Perm (f.map (·.1)) → Own toI h.size h' s zs → Ext h h' → Q s h') : slices_Collect_int (FnV.mk 70 [] [Value.pointer (some c0)]) h Q := by
  intro T
  generalize hB : h.push (.cells [Sl.toV Sl.nil].toArray T (0, 0)) = h1
  have e1 : Ext h h1 := by rw [← hB]; exact Ext.push _ _
  have c1 : cell? h1 ⟨h.size, 0, none⟩ = some (Sl.toV Sl.nil) := by rw [← hB]; exact cell_push_new _ _ _ _ _
  have f1 : frozen? h1 ⟨h.size, 0, none⟩ = false := by rw [← hB]; unfold frozen?; simp
  have s1 : h1.size = h.size + 1 := by rw [← hB]; simp
  clear hB
  refine .inr ⟨c0, rfl, mem_ext fun h2 e2 => ?_⟩
  have e12 := e1.trans e2
  have hlt : mp < h.size := by
    obtain ⟨es, c, h1, _⟩ := hm
    exact (Array.getElem?_eq_some_iff.1 h1).1
  have hm2 : mapEs .i64 h2 (some mp) (vals Value.bool f) := by
    obtain ⟨es, c, g1, g2⟩ := hm
    exact ⟨es, c, (e12.same mp hlt (by simp)).trans g1, g2⟩
  have sz2 := e2.size
  have q : Bx h2 ⟨h.size, 0, none⟩ h2 [] := ⟨⟨Sl.nil, cell_keep e2 c1 (by simp), Own.nil⟩, frozen_keep e2 (by show h.size < _; omega) f1 (by simp), by show h.size < _; omega, Keep.refl _ _⟩
  refine collectL (sel := fun p => p.1) (cell_keep e12 hc (by simp)) hm2 hl q (by show mp ≠ h.size; omega) fun h' zs hp q' => ?_
  obtain ⟨s, c3, o3⟩ := q'.cell
  exact ⟨s, c3, K s h' zs hp (o3.mono (by omega)) (Keep.fresh e12 (Nat.le_refl _) q'.ext)⟩
theorem ownAt {B : Nat} {s : Sl} {xs : List Int} (ho : Own toI B h s xs) (hne : xs ≠ []) : ∃ b, s.a = some ⟨b, 0, none⟩ ∧ B ≤ b ∧ s.blk = some b := by
  rcases ho.own with ⟨h1, h2⟩ | ⟨b, c, T, h1, h2, _⟩
  · have := ho.r.cap
    have := ho.r.len
    exact absurd (List.eq_nil_of_length_eq_zero (by omega)) hne
  · exact ⟨b, h1, h2, by unfold Sl.blk; rw [h1]; rfl⟩
theorem sortedF_spec {c0 c1 : Addr} {f : List (Int × Int)} {Q : Sl → Heap → Prop} (hc : cell? h c0 = some (Value.map (some mp))) (hm : mapEs .i64 h (some mp) (vals toI f)) (hl : f.length ≤ 1000000) (hne : f ≠ []) (rd : SRd h x S nx) (hx : cells? h c1 8 0 = some (C_sl_sl_sl_sl_sl_sl_sl_i64 x))
    (K : ∀ s h' ys, ys.Perm (f.map (·.2)) → ys.Pairwise (fun u v => ¬ ordF S v u < 0) → Own toI h.size h' s ys → Ext h h' → Q s h') : slices_SortedFunc_int (FnV.mk 63 [] [Value.pointer (some c0)]) (FnV.mk 64 [] [Value.pointer (some c1)]) h Q := by
  refine collectV hc hm hl fun s h1 zs hp o1 e1 => ?_
  have hzl := hp.length_eq
  simp only [List.length_map] at hzl
  have hz : zs ≠ [] := fun e => by
    subst e
    exact hne (List.eq_nil_of_length_eq_zero hzl.symm)
  obtain ⟨b, ha, hb, _⟩ := ownAt o1 hz
  refine ⟨c1, rfl, Own.sorted (cf := ordF S) (pre := []) (by simpa using o1) hz ha ha o1.r.len (by omega) ordF_swo (fun hh k u v => ?_) fun ys h2 hp2 hs2 o2 k2 => ?_⟩
  · have e2 := Keep.fresh e1 hb k
    exact order_spec (rd.ext e2) (cells_ext e2 hx) fun h' e' => ⟨rfl, e'⟩
  · exact K s h2 ys (hp2.trans hp) hs2 (by simpa using o2) (Keep.fresh e1 hb k2)
theorem sortedK_spec {c0 : Addr} {f : List (Int × Bool)} {Q : Sl → Heap → Prop} (hc : cell? h c0 = some (Value.map (some mp))) (hm : mapEs .i64 h (some mp) (vals Value.bool f)) (hl : f.length ≤ 1000000) (hne : f ≠ [])
    (K : ∀ s h' ys, ys.Perm (f.map (·.1)) → ys.Pairwise (fun u v => u ≤ v) → Own toI h.size h' s ys → Ext h h' → Q s h') : slices_Sorted_int (FnV.mk 70 [] [Value.pointer (some c0)]) h Q := by
  refine collectK hc hm hl fun s h1 zs hp o1 e1 => ?_
  have hzl := hp.length_eq
  simp only [List.length_map] at hzl
  have hz : zs ≠ [] := fun e => by
    subst e
    exact hne (List.eq_nil_of_length_eq_zero hzl.symm)
  obtain ⟨b, ha, hb, _⟩ := ownAt o1 hz
  refine sortI_of (Own.sorted (cf := fun x y => x - y) (pre := []) (by simpa using o1) hz ha ha o1.r.len (by omega) ⟨fun x => by simp, fun x y z h1 h2 => by simp only [decide_eq_true_eq] at *; omega, fun x y z h1 h2 => by simp only [decide_eq_false_iff_not] at *; omega⟩ (fun hh k u v => ⟨rfl, Keep.refl _ _⟩) fun ys h2 hp2 hs2 o2 k2 => ?_)
  exact K s h2 ys (hp2.trans hp) (hs2.imp fun {u v} h => by omega) (by simpa using o2) (Keep.fresh e1 hb k2)
end Go.Sh
