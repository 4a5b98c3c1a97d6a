/-
  Laws that the proof of this claim's statement leans on, each proved under the conditions that it states.
-/
import Derived.Test.YtkjcocjkcjmafaaSpW
import Derived.Test.YtkjcocjkcjmafaaSpE
set_option linter.unusedVariables false
set_option linter.unusedSimpArgs false
namespace Go.Sh
open Go Go.Lift Go.Cla
variable {h h' h0 : Heap} {p : Addr} {x : S8} {S : SS} {nx : Int} {n : Nat}
structure Few8 (S : SS) : Prop where
  v : S.val.length ≤ 20
  c : S.cls.length ≤ 100
  w : S.wat.length ≤ 60
  t : S.tra.length ≤ 40
  h : S.hea.length ≤ 40
  l : ∀ i, (S.cl i).lits.length ≤ 20
  wl : ∀ w, (S.wt w).length ≤ 100
end Go.Sh

namespace Go.Sh
open Go Go.Lift Go.Cla
variable {h h' h0 hh : Heap} {p : Addr} {x : S8} {S : SS} {nx : Int} {n : Nat}
theorem rThere_spec {l : Int} {Q : Bool → Heap → Prop} (hn : n ≤ 1048576) (K : Q (decide (There n l)) h) : ref18uThere (n : Int) l h Q := by
  refine seq.cut (fun (b : Bool) h2 => h2 = h ∧ b = decide (There n l)) ?_ (fun b h2 ⟨e, hb⟩ => by subst e hb; exact K)
  have hw : IntKind.wrap .i64 (0 - (n : Int)) = -(n : Int) := by rw [w64 (by omega) (by omega)]; omega
  have yes : There n l → true = decide (There n l) := fun t => (decide_eq_true t).symm
  have no : ¬ There n l → false = decide (There n l) := fun t => (decide_eq_false t).symm
  refine ⟨fun h1 => ⟨fun h2 => ⟨rfl, yes ?_⟩, fun h2 => ⟨fun h3 => ?_, fun h3 => ⟨rfl, no ?_⟩⟩⟩, fun h1 => ⟨fun h3 => ⟨rfl, ?_⟩, fun h3 => ⟨rfl, no ?_⟩⟩⟩
  · simp only [ge_iff_le, decide_eq_true_eq] at h1 h2; unfold There; omega
  · simp only [ge_iff_le, decide_eq_true_eq] at h1 h3; omega
  · simp only [ge_iff_le, decide_eq_true_eq, decide_eq_false_iff_not] at h1 h2 h3; unfold There; omega
  · simp only [ge_iff_le, decide_eq_true_eq, decide_eq_false_iff_not] at h1 h3
    rw [hw, decide_eq_decide]; unfold There; omega
  · simp only [ge_iff_le, decide_eq_true_eq, decide_eq_false_iff_not] at h1 h3; unfold There; omega
theorem rTruth_spec {l : Int} {Q : Int → Heap → Prop} (hl : There n l) (hn : n ≤ 1048576) (K : Q (tr l : Int) h) : ref18uTruth l h Q := by
  unfold There at hl
  refine ⟨fun h1 => ?_, fun h1 => ?_⟩
  · simp only [decide_eq_true_eq] at h1
    rw [w64 (n := 0 - l) (by omega) (by omega), w64 (by omega) (by omega)]
    have : 0 - l - 1 = (tr l : Int) := by unfold tr; omega
    rw [this]; exact K
  · simp only [decide_eq_false_iff_not] at h1
    rw [w64 (by omega) (by omega)]
    have : l - 1 = (tr l : Int) := by unfold tr; omega
    rw [this]; exact K
theorem rSign_spec {l : Int} {Q : Int → Heap → Prop} (K : Q (sg l) h) : ref18uSign l h Q := by
  unfold sg at K
  refine ⟨fun h1 => ?_, fun h1 => ?_⟩
  · simp only [decide_eq_true_eq] at h1; rw [if_pos h1] at K; exact K
  · simp only [decide_eq_false_iff_not] at h1; rw [if_neg h1] at K; exact K
theorem rValue_spec {s : Sl} {V : List Int} {l : Int} {Q : Int → Heap → Prop} (hV : RJ h s V) (hn : V.length ≤ 1048576) (hl : There V.length l) (ht : atI V (tr l) = -1 ∨ atI V (tr l) = 0 ∨ atI V (tr l) = 1) (K : Q (vl V l) h) : ref18uValue s l h Q := by
  unfold ref18uValue
  rw [hV.len]
  refine rThere_spec hn ⟨fun hno => ?_, fun _ => ?_⟩
  · simp [hl] at hno
  · refine rTruth_spec hl hn (RJ.ld2E hV (Keep.refl _ _) (j := tr l) rfl hl.tr fun a hc => rSign_spec ⟨hc, ?_⟩)
    unfold vl at K
    rw [if_pos hl] at K
    have h4 := sg_or l
    rw [w64 (by rcases ht with g | g | g <;> rcases h4 with k | k <;> rw [g, k] <;> decide) (by rcases ht with g | g | g <;> rcases h4 with k | k <;> rw [g, k] <;> decide)]
    exact K
theorem rCount_spec {s : Sl} {L : List Int} {y : Int} {Q : Int → Heap → Prop} (hr : RJ h s L) (hl : L.length ≤ 1048576) (K : Q ((L.count y : Nat) : Int) h) : ref18ucount s y h Q := by
  have hlen := hr.len
  refine loop.inv (fun (s0 : Int × Int) hh => hh = h ∧ ∃ i : Nat, s0.2 = (i : Int) ∧ i ≤ L.length ∧ s0.1 = (((L.take i).count y : Nat) : Int)) (fun s0 _ => L.length - s0.2.toNat) ⟨rfl, 0, rfl, by omega, by simp⟩ ?_
  rintro ⟨_, _⟩ hh ⟨rfl, i, rfl, hi, rfl⟩
  dsimp only
  rw [hlen]
  refine ⟨fun hlt => ?_, fun hge => ?_⟩
  · simp only [decide_eq_true_eq] at hlt
    have hi' : i < L.length := by omega
    have htk := List.take_succ_eq_append_getElem hi'
    have hcl : (L.take i).count y ≤ (L.take i).length := List.count_le_length
    rw [List.length_take] at hcl
    refine seq.cut (fun t h2 => h2 = hh ∧ t = (((L.take (i + 1)).count y : Nat) : Int)) ?_ ?_
    · refine RJ.ld hr (j := i) rfl hi' ?_
      rw [at_get hi', htk, List.count_append]
      refine ⟨fun he => ?_, fun hne => ⟨rfl, ?_⟩⟩
      · have he : L[i] = y := by simpa using he
        rintro _ rfl
        rw [w64 (by omega) (by omega)]
        exact ⟨rfl, by simp [he]⟩
      · simp [List.count_cons, hne]
    · rintro t h2 ⟨rfl, rfl⟩
      rintro _ rfl
      rw [w64 (by omega) (by omega)]
      exact ⟨⟨rfl, i + 1, by simp, by omega, rfl⟩, by (try dsimp only); omega⟩
  · simp only [decide_eq_false_iff_not] at hge
    have : i = L.length := by omega
    subst this
    rw [List.take_length]; exact K
theorem rFits_spec {s : Sl} {L : List Int} {Q : Bool → Heap → Prop} (hr : RJ h s L) (hl : L.length ≤ 1048576) (hn : n ≤ 1048576) (K : ∀ b, (b = true ↔ FitsL n L) → Q b h) : ref18uFits (n : Int) s h Q := by
  have hlen := hr.len
  refine loop.inv (fun (s0 : Int) hh => hh = h ∧ ∃ i : Nat, s0 = (i : Int) ∧ i ≤ L.length ∧ (∀ l ∈ L.take i, There n l) ∧ ((L.take i).map tr).Nodup) (fun s0 _ => L.length - s0.toNat) ⟨rfl, 0, rfl, by omega, by simp, by simp⟩ ?_
  rintro _ hh ⟨rfl, i, rfl, hi, hth, hnd⟩
  rw [hlen]
  refine ⟨fun hlt => ?_, fun hge => ?_⟩
  · simp only [decide_eq_true_eq] at hlt
    have hi' : i < L.length := by omega
    have hmem := List.getElem_mem hi'
    have htk := List.take_succ_eq_append_getElem hi'
    refine RJ.ld hr (j := i) rfl hi' ?_
    rw [at_get hi']
    refine rThere_spec hn ⟨fun hno => K false ⟨nofun, fun F => ?_⟩, fun hy => ?_⟩
    · have : ¬ There n L[i] := by simpa using hno
      exact absurd (F.1 _ hmem) this
    have th : There n L[i] := by simpa using hy
    refine loop.inv (fun (s1 : Int) h2 => h2 = hh ∧ ∃ k : Nat, s1 = (k : Int) ∧ k ≤ i ∧ ∀ m, m < k → tr (atI L m) ≠ tr L[i]) (fun s1 _ => i - s1.toNat) ⟨rfl, 0, rfl, by omega, fun m hm => by omega⟩ ?_
    rintro _ h2 ⟨rfl, k, rfl, hk, hall⟩
    refine ⟨fun hlt2 => ?_, fun hge2 => ?_⟩
    · simp only [decide_eq_true_eq] at hlt2
      have hk' : k < L.length := by omega
      have thk : There n (atI L k) := by
        have : atI L k = L[k] := at_get hk'
        rw [this]
        refine hth _ ?_
        rw [List.mem_take_iff_getElem]
        exact ⟨k, by omega, rfl⟩
      refine RJ.ld hr (j := k) rfl hk' ?_
      refine RJ.ld2E hr (Keep.refl _ _) (j := i) rfl hi' fun a hc => ?_
      have ei : atI L i = L[i] := at_get hi'
      rw [ei] at hc ⊢
      refine rTruth_spec thk hn ⟨hc, rTruth_spec th hn ⟨fun he => K false ⟨nofun, fun F => ?_⟩, fun hne => ?_⟩⟩
      · have he : (tr (atI L k) : Int) = (tr L[i] : Int) := by simpa [at_atI] using he
        have := nodup_at F.2.1 hk' hi' (by rw [ei]; omega)
        omega
      · have hne : (tr (atI L k) : Int) ≠ (tr L[i] : Int) := by simpa [at_atI] using hne
        rintro _ rfl
        rw [w64 (by omega) (by omega)]
        refine ⟨⟨rfl, k + 1, by omega, by omega, fun m hm => ?_⟩, by omega⟩
        by_cases g : m = k
        · subst g; omega
        · exact hall m (by omega)
    · simp only [decide_eq_false_iff_not] at hge2
      rintro _ rfl
      rw [w64 (by omega) (by omega)]
      refine ⟨⟨rfl, i + 1, by omega, by omega, ?_, ?_⟩, by omega⟩
      · rw [htk]; intro l hl
        rcases List.mem_append.1 hl with hl | hl
        · exact hth l hl
        · rw [List.mem_singleton] at hl; rw [hl]; exact th
      · rw [htk, List.map_append, List.nodup_append]
        refine ⟨hnd, by simp, fun a ha b hb e => ?_⟩
        simp only [List.map_cons, List.map_nil, List.mem_singleton] at hb
        subst hb; subst e
        obtain ⟨y, hy, e⟩ := List.mem_map.1 ha
        rw [List.mem_take_iff_getElem] at hy
        obtain ⟨m, hm, e2⟩ := hy
        have e3 : atI L m = L[m]'(by omega) := at_get (by omega)
        exact hall m (by omega) (by rw [e3, e2]; exact e)
  · simp only [decide_eq_false_iff_not] at hge
    have : i = L.length := by omega
    subst this
    rw [List.take_length] at hth hnd
    refine K _ ?_
    rw [decide_eq_true_eq]
    unfold FitsL
    exact ⟨fun h => ⟨hth, hnd, by omega⟩, fun h => by have := h.2.2; omega⟩
end Go.Sh

namespace Go.Sh
open Go Go.Lift Go.Cla
variable {h h' h0 hh : Heap} {p : Addr} {x : S8} {S : SS} {nx : Int} {n : Nat}
def WhenL (S : SS) (i : Nat) (W : List Int) : Prop := W.length = S.val.length ∧ (∀ j, j < i → atI W (tr (tl S j)) = (j : Int)) ∧ ∀ v, v < S.val.length → (∀ j, j < i → tr (tl S j) ≠ v) → atI W v = -1
theorem WhenL.cases {W : List Int} {i : Nat} (w : WhenL S i W) {v : Nat} (hv : v < S.val.length) : (atI W v = -1 ∧ ∀ j, j < i → tr (tl S j) ≠ v) ∨ ∃ j, j < i ∧ tr (tl S j) = v ∧ atI W v = (j : Int) := by
  by_cases h : ∀ j, j < i → tr (tl S j) ≠ v
  · exact .inl ⟨w.2.2 v hv h, h⟩
  · have ⟨j, h⟩ := Classical.not_forall.1 h
    have ⟨hj, h⟩ := Classical.not_imp.1 h
    have h := Classical.not_not.1 h
    exact .inr ⟨j, hj, h, by rw [← h]; exact w.2.1 j hj⟩
theorem WhenL.succ {W : List Int} {i : Nat} (w : WhenL S i W) (hth : There S.val.length (tl S i)) (hf : ∀ j, j < i → tr (tl S j) ≠ tr (tl S i)) : WhenL S (i + 1) (W.set (tr (tl S i)) (i : Int)) := by
  have hl : tr (tl S i) < W.length := by rw [w.1]; exact hth.tr
  refine ⟨by rw [List.length_set]; exact w.1, fun j hj => ?_, fun v hv hn => ?_⟩
  · rw [at_setL _ _ _ _ hl]
    by_cases e : j = i
    · subst e; simp
    · rw [if_neg (hf j (by omega))]; exact w.2.1 j (by omega)
  · rw [at_setL _ _ _ _ hl, if_neg (fun e => hn i (by omega) e.symm)]
    exact w.2.2 v hv fun j hj => hn j (by omega)
theorem Own.stE {B : Nat} {s : Sl} {xs : List Int} (ho : Own toI B h s xs) {i : Int} {j : Nat} {y : Int} {k : Heap → Prop} (hij : i = (j : Int)) (hj : j < xs.length)
    (K : ∀ h', Own toI B h' s (xs.set j y) → Keep s.blk h h' → k h') : idxS s i 1 fun a => Lift.store a (Value.int .i64 y) h k := by
  subst hij
  obtain ⟨a, ha, hc⟩ := ho.r.get hj
  refine ⟨a, ha, ⟨by omega, by have := ho.r.len; omega⟩, ?_⟩
  simp only [Int.toNat_natCast, Nat.mul_one]
  exact ho.store hj ha y fun h' o k' _ => K h' o k'
theorem rRight_spec {Q : Bool → Heap → Prop} (q : SRd h x S nx) (f : Few8 S) (K : ∀ b h', (b = true ↔ RightS S nx) → Ext h h' → Q b h') : ref18uRight x h Q := by
  refine mem_ext fun h1 e => ?_
  have hv := q.val.len; have hw := q.wlen; have hl := q.lev.len; have hr := q.rea.len; have ht := q.tra.len; have hcn := q.clen; have hhn := q.hea.len
  have f1 := f.v; have f2 := f.c; have f3 := f.w; have f4 := f.t; have f5 := f.h
  have hll := f.l
  have hwl := f.wl
  have bad : ¬ RightS S nx → ∀ h', Ext h h' → Q false h' := fun hno h' e' => K false h' ⟨nofun, fun R => absurd R hno⟩ e'
  rintro _ rfl
  rw [hv]
  refine seq.cut (fun b h2 => h2 = h1 ∧ (b = true → ¬ RightS S nx) ∧ (b = false → S.wat.length = 2 * S.val.length ∧ S.lev.length = S.val.length ∧ S.rea.length = S.val.length ∧ 0 ≤ nx ∧ nx ≤ (S.tra.length : Int))) ?_ ?_
  · rw [hw, hl, hr, ht, q.nx, w64 (by omega) (by omega)]
    refine ⟨fun hb => ⟨rfl, fun _ R => ?_, nofun⟩, fun hb1 => ⟨fun hb => ⟨rfl, fun _ R => ?_, nofun⟩, fun hb2 => ⟨fun hb => ⟨rfl, fun _ R => ?_, nofun⟩, fun hb3 => ⟨fun hb => ⟨rfl, fun _ R => ?_, nofun⟩, fun hb4 => ⟨rfl, fun hb R => ?_, fun hb5 => ?_⟩⟩⟩⟩⟩
    · have := R.wlen; rw [this] at hb; simp at hb
    · have := R.llen; rw [this] at hb; simp at hb
    · have := R.rlen; rw [this] at hb; simp at hb
    · have := R.nlo; simp only [decide_eq_true_eq] at hb; omega
    · have := R.nhi; simp only [gt_iff_lt, decide_eq_true_eq] at hb; omega
    · have b1 : (S.wat.length : Int) = 2 * (S.val.length : Int) := by simpa using hb1
      have b2 : (S.lev.length : Int) = (S.val.length : Int) := by simpa using hb2
      have b3 : (S.rea.length : Int) = (S.val.length : Int) := by simpa using hb3
      have b4 : ¬ nx < 0 := by simpa using hb4
      have b5 : ¬ nx > (S.tra.length : Int) := by simpa using hb5
      exact ⟨by omega, by omega, by omega, by omega, by omega⟩
  rintro b h2 ⟨rfl, hbt, hbf⟩
  refine ⟨fun hb => bad (hbt hb) _ e, fun hb => ?_⟩
  obtain ⟨g1, g2, g3, g4, g5⟩ := hbf hb
  clear hbt hbf hb
  -- how many watch at all
  refine loop.inv (fun (s0 : Int × Int) h3 => h3 = h2 ∧ ∃ w : Nat, s0.2 = (w : Int) ∧ w ≤ S.wat.length ∧ s0.1 = ((total (S.wat.take w) : Nat) : Int) ∧ total (S.wat.take w) ≤ 100 * w) (fun s0 _ => S.wat.length - s0.2.toNat) ⟨rfl, 0, rfl, by omega, by simp [total], by simp [total]⟩ ?_
  rintro ⟨_, _⟩ h3 ⟨rfl, w, rfl, hwle, rfl, htot⟩
  dsimp only at htot ⊢
  rw [hw]
  refine ⟨fun hlt => ?_, fun hge => ?_⟩
  · simp only [decide_eq_true_eq] at hlt
    have hw' : w < S.wat.length := by omega
    refine q.wtE e (j := w) rfl hw' fun s hs => ?_
    have hx := total_take hw'
    have hsl := hs.len
    have hlw := hwl w
    have hgd : S.wat.getD w [] = S.wt w := rfl
    rw [hgd] at hx
    rw [hsl]
    rintro _ rfl _ rfl
    rw [w64 (by omega) (by omega), w64 (by omega) (by omega)]
    exact ⟨⟨rfl, w + 1, by simp, by omega, by rw [hx]; simp, by rw [hx]; omega⟩, by (try dsimp only); omega⟩
  simp only [decide_eq_false_iff_not] at hge
  have : w = S.wat.length := by omega
  subst this
  rw [List.take_length] at htot ⊢
  rw [hcn, w64 (by omega) (by omega)]
  refine ⟨fun hne => bad (fun R => ?_) _ e, fun heq => ?_⟩
  · have := R.tot; rw [this] at hne; simp at hne
  have htt : total S.wat = 2 * S.cls.length := by
    have : ((total S.wat : Nat) : Int) = 2 * (S.cls.length : Int) := by simpa using heq
    omega
  clear heq hge htot hwle
  -- each clause
  refine loop.inv (fun (s0 : Int) h4 => Ext h h4 ∧ ∃ i : Nat, s0 = (i : Int) ∧ i ≤ S.cls.length ∧ ∀ j, j < i → Ck S j ∧ ∀ k, k < 2 → Wk2 S j k) (fun s0 _ => S.cls.length - s0.toNat) ⟨e, 0, rfl, by omega, fun j hj => by omega⟩ ?_
  rintro _ h4 ⟨e4, i, rfl, hi, hall⟩
  refine ⟨fun hlt => ?_, fun hge => ?_⟩
  · simp only [decide_eq_true_eq] at hlt
    have hi' : i < S.cls.length := by omega
    refine q.clSE e4 (j := i) rfl hi' fun s hs => mem_ext fun h5 e5 => ?_
    have e05 := e4.trans e5
    refine seq.cut (fun b h6 => h6 = h5 ∧ (b = false ↔ Ck S i)) ?_ ?_
    · refine ⟨fun hneg => ⟨rfl, nofun, fun hk => ?_⟩, fun hpos => ?_⟩
      · have := hk.1; simp only [decide_eq_true_eq] at hneg; omega
      · simp only [decide_eq_false_iff_not] at hpos
        refine rFits_spec (R.ext hs e05) (by have := hll i; omega) (by omega) fun b hb => ⟨rfl, fun hf => ⟨by omega, hb.1 (by simpa using hf)⟩, fun hk => ?_⟩
        rw [hb.2 hk.2]; rfl
    rintro b h6 ⟨rfl, hb⟩
    refine ⟨fun hbt => bad (fun R => ?_) _ e05, fun hbf => ?_⟩
    · have := hb.2 (R.cls i hi'); rw [this] at hbt; cases hbt
    have hck := hb.1 hbf
    have F := hck.2
    have F2 := F.2.2
    refine loop.inv (fun (s1 : Int) h7 => h7 = h6 ∧ ∃ k : Nat, s1 = (k : Int) ∧ k ≤ 2 ∧ ∀ m, m < k → Wk2 S i m) (fun s1 _ => 2 - s1.toNat) ⟨rfl, 0, rfl, by omega, fun m hm => by omega⟩ ?_
    rintro _ h7 ⟨rfl, k, rfl, hk, hall2⟩
    refine ⟨fun hlt2 => ?_, fun hge2 => ?_⟩
    · simp only [decide_eq_true_eq] at hlt2
      have hk' : k < 2 := by omega
      have th := F.at (i := k) (by omega)
      have hkl : k < (S.cl i).lits.length := by omega
      refine RJ.ld (R.ext hs e05) (j := k) rfl hkl (rTruth_spec th (by omega) ?_)
      have htr := th.tr
      rintro _ rfl
      have hlk : at0 (S.cl i).lits k = lit S i k := rfl
      rw [hlk]
      rw [w64 (n := 2 * (tr (lit S i k) : Int)) (by omega) (by omega)]
      refine seq.cut (fun t h8 => h8 = h7 ∧ t = (wch (lit S i k) : Int)) ?_ ?_
      · refine RJ.ld (R.ext hs e05) (j := k) rfl hkl ⟨fun hneg => ?_, fun hpos => ⟨rfl, ?_⟩⟩
        · have hneg : lit S i k < 0 := of_decide_eq_true hneg
          rintro _ rfl
          rw [w64 (by omega) (by omega)]
          refine ⟨rfl, ?_⟩
          unfold wch; rw [if_neg (by omega)]
          omega
        · have hpos : ¬ lit S i k < 0 := of_decide_eq_false hpos
          have := th.1
          unfold wch; rw [if_pos (by omega)]
          omega
      rintro t h8 ⟨rfl, rfl⟩
      refine q.wtE e05 (j := wch (lit S i k)) rfl (by rw [g1]; exact wch_lt th) fun s2 hs2 => ?_
      refine rCount_spec (R.ext hs2 e05) (by have := hwl (wch (lit S i k)); omega) ⟨fun hne => bad (fun R => ?_) _ e05, fun heq => ?_⟩
      · have := R.wat i hi' k hk'
        unfold Wk2 at this; rw [this] at hne; simp at hne
      · have : Wk2 S i k := by
          have : (((S.wt (wch (lit S i k))).count (i : Int) : Nat) : Int) = 1 := by simpa using heq
          unfold Wk2; omega
        rintro _ rfl
        rw [w64 (by omega) (by omega)]
        refine ⟨⟨rfl, k + 1, by omega, by omega, fun m hm => ?_⟩, by omega⟩
        by_cases g : m = k
        · subst g; exact this
        · exact hall2 m (by omega)
    · simp only [decide_eq_false_iff_not] at hge2
      rintro _ rfl
      rw [w64 (by omega) (by omega)]
      refine ⟨⟨e05, i + 1, by omega, by omega, fun j hj => ?_⟩, by omega⟩
      by_cases g : j = i
      · subst g; exact ⟨hck, fun k hk => hall2 k (by omega)⟩
      · exact hall j (by omega)
  simp only [decide_eq_false_iff_not] at hge
  have hcls : ∀ j, j < S.cls.length → Ck S j := fun j hj => (hall j (by omega)).1
  have hwat : ∀ j, j < S.cls.length → ∀ k, k < 2 → Wk2 S j k := fun j hj => (hall j (by omega)).2
  clear hall hge hi
  -- when
  refine mk_rep (toV := toI) (a := 0) (m := S.val.length) rfl (by omega) (by decide) fun s h5 o5 e5 hsb => ?_
  have e05 := e4.trans e5
  have hsz := e4.size
  have keepE : ∀ {ha hb : Heap}, Ext h ha → Keep s.blk ha hb → Ext h hb := fun ea k => by rw [hsb] at k; exact ea.fresh hsz k
  refine loop.inv (fun (s0 : Int) h6 => Ext h h6 ∧ ∃ (v : Nat) (W : List Int), s0 = (v : Int) ∧ v ≤ S.val.length ∧ Own toI h4.size h6 s W ∧ W.length = S.val.length ∧ ∀ u, u < v → atI W u = -1) (fun s0 _ => S.val.length - s0.toNat) ⟨e05, 0, _, rfl, by omega, o5, by simp, fun u hu => by omega⟩ ?_
  rintro _ h6 ⟨e6, v, W, rfl, hvl, o6, hWl, hWu⟩
  refine ⟨fun hlt => ?_, fun hge => ?_⟩
  · simp only [decide_eq_true_eq] at hlt
    refine Own.stE o6 (j := v) rfl (by omega) fun h7 o7 k7 => ?_
    rintro _ rfl
    rw [w64 (by omega) (by omega)]
    refine ⟨⟨keepE e6 k7, v + 1, _, by omega, by omega, o7, by simp [hWl], fun u hu => ?_⟩, by omega⟩
    rw [at_setL _ _ _ _ (by omega)]
    by_cases g : u = v
    · rw [if_pos g]
    · rw [if_neg g]; exact hWu u (by omega)
  simp only [decide_eq_false_iff_not] at hge
  have w0 : WhenL S 0 W := ⟨hWl, fun j hj => by omega, fun u hu _ => hWu u (by omega)⟩
  clear hWl hWu hge hvl
  -- the trail
  refine loop.inv (fun (s0 : Int) h7 => Ext h h7 ∧ ∃ (i : Nat) (W : List Int), s0 = (i : Int) ∧ i ≤ S.tra.length ∧ Own toI h4.size h7 s W ∧ WhenL S i W ∧ ∀ j, j < i → Trk S j) (fun s0 _ => S.tra.length - s0.toNat) ⟨e6, 0, W, rfl, by omega, o6, w0, fun j hj => by omega⟩ ?_
  clear w0 o6 e6
  clear W
  rintro _ h7 ⟨e7, i, W, rfl, hi, o7, hW, hall⟩
  rw [ht]
  refine ⟨fun hlt => ?_, fun hge => ?_⟩
  · simp only [decide_eq_true_eq] at hlt
    have hi' : i < S.tra.length := by omega
    have badT : ¬ Trk S i → ∀ h', Ext h h' → Q false h' := fun hno h' e' => bad (fun R => hno (R.tra i hi')) h' e'
    refine q.tra.ldE e7 (j := i) rfl hi' ?_
    show seq _ _
    refine seq.cut (fun b h8 => h8 = h7 ∧ (b = true → ¬ Trk S i) ∧ (b = false → There S.val.length (tl S i) ∧ (∀ j, j < i → tr (tl S j) ≠ tr (tl S i)) ∧ atI S.val (tr (tl S i)) = sg (tl S i))) ?_ ?_
    · refine rThere_spec (by omega) ⟨fun hno => ⟨rfl, fun _ T => ?_, nofun⟩, fun hy => ?_⟩
      · have : ¬ There S.val.length (tl S i) := by simpa [tl] using hno
        exact this T.th
      have th : There S.val.length (tl S i) := by simpa [tl] using hy
      refine rTruth_spec th (by omega) (RJ.ld o7.r (j := tr (tl S i)) rfl (by rw [hW.1]; exact th.tr) ⟨fun hge => ⟨rfl, fun _ T => ?_, nofun⟩, fun hlt2 => ?_⟩)
      · have hge : atI W (tr (tl S i)) ≥ 0 := by simpa [at_atI] using hge
        have := hW.2.2 _ th.tr T.fst
        omega
      have hlt2 : ¬ atI W (tr (tl S i)) ≥ 0 := by simpa [at_atI] using hlt2
      have hfst : ∀ j, j < i → tr (tl S j) ≠ tr (tl S i) := fun j hj e => by
        have := hW.2.1 j hj
        rw [e] at this; omega
      refine rTruth_spec th (by omega) (q.val.ld2E e7 (j := tr (tl S i)) rfl th.tr fun a hca => rSign_spec ⟨cell_keep e7 hca (by simp), rfl, fun hne T => ?_, fun heq => ⟨th, hfst, by simpa [tl] using heq⟩⟩)
      exact absurd T.sgn (by simpa [tl] using hne)
    rintro b h8 ⟨rfl, hbt, hbf⟩
    refine ⟨fun hb => badT (hbt hb) _ e7, fun hb => ?_⟩
    obtain ⟨th, hfst, hsg⟩ := hbf hb
    refine rTruth_spec th (by omega) (Own.stE o7 (j := tr (tl S i)) rfl (by rw [hW.1]; exact th.tr) fun h9 o9 k9 => ?_)
    have e9 := keepE e7 k9
    have hW9 := hW.succ th hfst
    refine loop.inv (fun (s2 : Int) h10 => h10 = h9 ∧ ∃ m : Nat, s2 = (m : Int) ∧ m ≤ S.hea.length ∧ ∀ j, j < m → atI S.hea j ≤ (i : Int)) (fun s2 _ => S.hea.length - s2.toNat) ⟨rfl, 0, rfl, by omega, fun j hj => by omega⟩ ?_
    rintro _ h10 ⟨rfl, m, rfl, hm, hlo⟩
    refine seq.cut (fun b h3 => h3 = h10 ∧ (b = true → m < S.hea.length ∧ atI S.hea m ≤ (i : Int)) ∧ (b = false → IsLvl S.hea i m)) ?_ ?_
    · rw [hhn]
      refine ⟨fun hl => ?_, fun hl => ⟨rfl, nofun, fun _ => ⟨hm, hlo, fun h => ?_⟩⟩⟩
      · simp only [decide_eq_true_eq] at hl
        refine q.hea.ldE e9 (j := m) rfl (by omega) ⟨rfl, fun h => ⟨by omega, by simpa using h⟩, fun h => ⟨hm, hlo, fun _ => ?_⟩⟩
        have : ¬ atI S.hea m ≤ (i : Int) := by simpa using h
        omega
      · simp only [decide_eq_false_iff_not] at hl; omega
    rintro b h11 ⟨rfl, hbt, hbf⟩
    refine ⟨fun ht => ?_, fun hf => ?_⟩
    · obtain ⟨g1, g2⟩ := hbt ht
      rintro _ rfl
      rw [w64 (by omega) (by omega)]
      refine ⟨⟨rfl, m + 1, by omega, by omega, fun j hj => ?_⟩, by omega⟩
      by_cases g : j = m
      · subst g; exact g2
      · exact hlo j (by omega)
    · have lv := hbf hf
      refine rTruth_spec th (by omega) (q.lev.ldE e9 (j := tr (tl S i)) rfl (by have := th.tr; omega) ⟨fun hne => badT (fun T => ?_) _ e9, fun heq => ?_⟩)
      · obtain ⟨m2, l2, e2⟩ := T.lev
        have := lv.one l2
        subst this
        rw [e2] at hne; simp at hne
      · have T : Trk S i := ⟨th, hfst, hsg, m, lv, by simpa using heq⟩
        rintro _ rfl
        rw [w64 (by omega) (by omega)]
        refine ⟨⟨e9, i + 1, _, by omega, by omega, o9, hW9, fun j hj => ?_⟩, by omega⟩
        by_cases g : j = i
        · subst g; exact T
        · exact hall j (by omega)
  simp only [decide_eq_false_iff_not] at hge
  have : i = S.tra.length := by omega
  subst this
  clear hge hi
  -- where levels begin
  refine loop.inv (fun (s0 : Int) h8 => h8 = h7 ∧ ∃ i : Nat, s0 = (i : Int) ∧ i ≤ S.hea.length ∧ ∀ j, j < i → Hk S j) (fun s0 _ => S.hea.length - s0.toNat) ⟨rfl, 0, rfl, by omega, fun j hj => by omega⟩ ?_
  rintro _ h8 ⟨rfl, i, rfl, hi, hallH⟩
  rw [hhn]
  refine ⟨fun hlt => ?_, fun hge => ?_⟩
  · simp only [decide_eq_true_eq] at hlt
    have hi' : i < S.hea.length := by omega
    refine q.hea.ldE e7 (j := i) rfl hi' ?_
    refine seq.cut (fun b h2 => h2 = h8 ∧ (b = false ↔ Hk S i)) ?_ ?_
    · refine ⟨fun hneg => ⟨rfl, nofun, fun hk => ?_⟩, fun hpos => ?_⟩
      · simp only [decide_eq_true_eq] at hneg; have := hk.lo; omega
      simp only [decide_eq_false_iff_not] at hpos
      refine ⟨fun hge => ⟨rfl, nofun, fun hk => ?_⟩, fun hlt2 => ?_⟩
      · simp only [decide_eq_true_eq] at hge; have := hk.hi; omega
      simp only [decide_eq_false_iff_not] at hlt2
      obtain ⟨t, hte⟩ : ∃ t : Nat, atI S.hea i = (t : Int) := ⟨(atI S.hea i).toNat, by omega⟩
      have htt : t < S.tra.length := by omega
      have T := hall t htt
      have tail : (0 < i → atI S.hea (i - 1) < atI S.hea i) → idxS x.2.2.2.2.2.1 (atI S.hea i) 1 fun a_14 =>
                    Lift.load (Value.int .i64) a_14 h8 fun v_23 =>
                    ref18uTruth v_23 h8 fun v_24 h0u27 =>
                    idxS x.2.2.2.2.1 v_24 1 fun a_15 =>
                    Lift.load (Value.int .i64) a_15 h0u27 fun v_25 => (h0u27 = h8 ∧ ((v_25 != (-1)) = false ↔ Hk S i)) := by
        intro hmo
        refine q.tra.ldE e7 (j := t) hte htt (rTruth_spec T.th (by omega) ?_)
        refine q.rea.ldE e7 (j := tr (tl S t)) rfl (by have := T.th.tr; omega) ⟨rfl, ?_⟩
        have e1 : (atI S.hea i).toNat = t := by omega
        constructor
        · intro hb
          exact ⟨by omega, by omega, hmo, by rw [e1]; simpa using hb⟩
        · intro hk
          have := hk.re
          rw [e1] at this
          simp [this]
      refine ⟨fun hi0 => ?_, fun hi0 => ?_⟩
      · simp only [gt_iff_lt, decide_eq_true_eq] at hi0
        rw [w64 (by omega) (by omega)]
        refine q.hea.ldE e7 (j := i - 1) (by omega) (by omega) ⟨fun hle => ⟨rfl, nofun, fun hk => ?_⟩, fun hgt => ?_⟩
        · simp only [decide_eq_true_eq] at hle; have := hk.mo (by omega); omega
        · simp only [decide_eq_false_iff_not] at hgt
          exact tail fun _ => by omega
      · simp only [gt_iff_lt, decide_eq_false_iff_not] at hi0
        exact tail fun h => by omega
    rintro b h2 ⟨rfl, hb⟩
    refine ⟨fun hbt => bad (fun R => ?_) _ e7, fun hbf => ?_⟩
    · have := hb.2 (R.hea i hi'); rw [this] at hbt; cases hbt
    · rintro _ rfl
      rw [w64 (by omega) (by omega)]
      refine ⟨⟨rfl, i + 1, by omega, by omega, fun j hj => ?_⟩, by omega⟩
      by_cases g : j = i
      · subst g; exact hb.1 hbf
      · exact hallH j (by omega)
  simp only [decide_eq_false_iff_not] at hge
  have hhea : ∀ j, j < S.hea.length → Hk S j := fun j hj => hallH j (by omega)
  clear hallH hge hi
  clear i
  -- what is not told, and reasons
  refine loop.inv (fun (s0 : Int) h9 => h9 = h8 ∧ ∃ v : Nat, s0 = (v : Int) ∧ v ≤ S.val.length ∧ ∀ u, u < v → Fk S u ∧ RkR S u) (fun s0 _ => S.val.length - s0.toNat) ⟨rfl, 0, rfl, by omega, fun u hu => by omega⟩ ?_
  rintro _ h9 ⟨rfl, v, rfl, hvl, hfr⟩
  have W1 := hW.1
  refine ⟨fun hlt => ?_, fun hge => ?_⟩
  · simp only [decide_eq_true_eq] at hlt
    have hv' : v < S.val.length := by omega
    have badR : ¬ (Fk S v ∧ RkR S v) → ∀ h', Ext h h' → Q false h' := fun hno h' e' => bad (fun R => hno ⟨R.fre v hv', (rea_iff R.cls R.tra R.fre).1 R.rea v hv'⟩) h' e'
    refine seq.cut (fun (_ : Unit) h10 => h10 = h9 ∧ Fk S v ∧ RkR S v) ?_ ?_
    · refine seq.cut (fun b h10 => h10 = h9 ∧ (b = false ↔ Fk S v)) ?_ ?_
      · refine RJ.ld o7.r (j := v) rfl (by omega) ⟨fun hneg => ?_, fun hpos => ⟨rfl, fun _ free => ?_, fun _ => rfl⟩⟩
        · have hneg : atI W v < 0 := of_decide_eq_true hneg
          have free : ∀ i, i < S.tra.length → tr (tl S i) ≠ v := fun i hi e => by
            have := hW.2.1 i hi
            rw [e] at this; omega
          refine q.val.ldE e7 (j := v) rfl hv' ⟨fun hne => ⟨rfl, nofun, fun F => ?_⟩, fun h0 => ?_⟩
          · simp [(F free).1] at hne
          refine q.lev.ldE e7 (j := v) rfl (by omega) ⟨fun hne => ⟨rfl, nofun, fun F => ?_⟩, fun h1 => ?_⟩
          · simp [(F free).2.1] at hne
          refine q.rea.ldE e7 (j := v) rfl (by omega) ⟨rfl, fun h2 _ => ⟨by simpa using h0, by simpa using h1, by simpa using h2⟩, fun F => ?_⟩
          simp [(F free).2.2]
        · have hpos : ¬ atI W v < 0 := of_decide_eq_false hpos
          have := hW.2.2 v hv' free
          omega
      rintro b h10 ⟨rfl, hb⟩
      refine ⟨fun hbt => badR (fun hh => ?_) _ e7, fun hbf => ?_⟩
      · have := hb.2 hh.1; rw [this] at hbt; cases hbt
      have F := hb.1 hbf
      refine q.rea.ldE e7 (j := v) rfl (by omega) ⟨fun h0 => ⟨rfl, F, .inl (by simpa using h0)⟩, fun h0 => ?_⟩
      have hm1 : atI S.rea v ≠ -1 := by simpa using h0
      refine seq.cut (fun b h11 => h11 = h10 ∧ (b = true → ¬ RkR S v) ∧ (b = false → 0 ≤ atI S.rea v ∧ atI S.rea v < (S.cls.length : Int))) ?_ ?_
      · refine ⟨fun hneg => ⟨rfl, fun _ => ?_, nofun⟩, fun hpos => ⟨rfl, fun hb => ?_, fun hb => ?_⟩⟩
        · simp only [decide_eq_true_eq] at hneg
          rintro (h | ⟨c, h2, _⟩)
          · exact hm1 h
          · omega
        · simp only [ge_iff_le, decide_eq_true_eq] at hb
          rintro (h | ⟨c, h2, h3, _⟩)
          · exact hm1 h
          · omega
        · simp only [ge_iff_le, decide_eq_false_iff_not] at hb hpos; omega
      rintro b h11 ⟨rfl, hbt, hbf2⟩
      refine ⟨fun hb => badR (fun hh => absurd hh.2 (hbt hb)) _ e7, fun hb => ?_⟩
      obtain ⟨r1, r2⟩ := hbf2 hb
      obtain ⟨c, hce⟩ : ∃ c : Nat, atI S.rea v = (c : Int) := ⟨(atI S.rea v).toNat, by omega⟩
      have hcc : c < S.cls.length := by omega
      have FL := (hcls c hcc).2
      have no : ∀ {P : Prop}, (RkR S v → P) → (¬ P) → ¬ (Fk S v ∧ RkR S v) := fun f np hh => np (f hh.2)
      have only : RkR S v → (∀ m ∈ (S.cl c).lits, tr m ≠ v → (∃ j i, i < S.tra.length ∧ tr (tl S i) = v ∧ j < i ∧ tr (tl S j) = tr m) ∧ vl S.val m = -1) ∧ ∃ m ∈ (S.cl c).lits, tr m = v ∧ sg m = atI S.val v := by
        rintro (h | ⟨c2, h2, h3, h4⟩)
        · exact absurd h hm1
        · have : c2 = c := by omega
          subst this; exact h4
      have vOk : ∀ l, There S.val.length l → (∃ j, j < S.tra.length ∧ tr (tl S j) = tr l) → atI S.val (tr l) = -1 ∨ atI S.val (tr l) = 0 ∨ atI S.val (tr l) = 1 := fun l _ ⟨j, hj, e⟩ => by
        have := (hall j hj).sgn
        rw [e] at this; rw [this]
        rcases sg_or (tl S j) with g | g <;> rw [g] <;> simp
      refine loop.inv (fun (s3 : Bool × Int) h12 => h12 = h11 ∧ ∃ k : Nat, s3.2 = (k : Int) ∧ k ≤ (S.cl c).lits.length ∧ (∀ m ∈ (S.cl c).lits.take k, tr m ≠ v → (∃ j i, i < S.tra.length ∧ tr (tl S i) = v ∧ j < i ∧ tr (tl S j) = tr m) ∧ vl S.val m = -1) ∧ (s3.1 = true ↔ ∃ m ∈ (S.cl c).lits.take k, tr m = v ∧ sg m = atI S.val v)) (fun s3 _ => (S.cl c).lits.length - s3.2.toNat)
        ⟨rfl, 0, rfl, by omega, fun m hm => by simp at hm, by simp⟩ ?_
      rintro ⟨mine, _⟩ h12 ⟨rfl, k, rfl, hk, hA, hB⟩
      dsimp only at hA hB ⊢
      refine q.clE e7 (j := c) hce hcc fun s2 hs2 => ?_
      have hsl := hs2.len
      have hlc := hll c
      rw [hsl]
      refine ⟨fun hlt2 => ?_, fun hge2 => ?_⟩
      · simp only [decide_eq_true_eq] at hlt2
        have hk' : k < (S.cl c).lits.length := by omega
        have hmk := List.getElem_mem hk'
        have htk := List.take_succ_eq_append_getElem hk'
        have hat : atI (S.cl c).lits k = (S.cl c).lits[k] := at_get hk'
        generalize hme : (S.cl c).lits[k] = m at *
        have th := FL.1 m hmk
        refine seq.cut (fun b h13 => h13 = h12 ∧ (∀ m ∈ (S.cl c).lits.take (k + 1), tr m ≠ v → (∃ j i, i < S.tra.length ∧ tr (tl S i) = v ∧ j < i ∧ tr (tl S j) = tr m) ∧ vl S.val m = -1) ∧ (b = true ↔ ∃ m ∈ (S.cl c).lits.take (k + 1), tr m = v ∧ sg m = atI S.val v)) ?_ ?_
        · refine q.clE e7 (j := c) hce hcc fun s4 hs4 => ?_
          refine hs4.ldE e7 (j := k) rfl hk' ?_
          rw [hat]
          refine rTruth_spec th (by omega) ⟨fun he => ?_, fun hne => ?_⟩
          · have he : tr m = v := by have : (tr m : Int) = (v : Int) := by simpa using he
                                     omega
            refine q.val.ld2E e7 (j := v) rfl hv' fun a hca => rSign_spec ⟨cell_keep e7 hca (by simp), rfl, ?_, ?_⟩
            · rw [htk]; intro y hy hne
              rcases List.mem_append.1 hy with hy | hy
              · exact hA y hy hne
              · rw [List.mem_singleton] at hy; subst hy; exact absurd he hne
            · rw [beq_iff_eq, htk]
              constructor
              · intro hs; exact ⟨m, by simp, he, hs⟩
              · rintro ⟨y, hy, e1, e2⟩
                rcases List.mem_append.1 hy with hy | hy
                · exfalso
                  rw [List.mem_take_iff_getElem] at hy
                  obtain ⟨a, ha, e3⟩ := hy
                  have := nodup_at FL.2.1 (i := a) (j := k) (by omega) hk' (by rw [hat, he, ← e1, ← e3]; exact congrArg tr (at_get (by omega)))
                  omega
                · rw [List.mem_singleton] at hy; subst hy; exact e2
          · have hne : tr m ≠ v := by have : (tr m : Int) ≠ (v : Int) := by simpa using hne
                                      omega
            have fin : ((∃ j i, i < S.tra.length ∧ tr (tl S i) = v ∧ j < i ∧ tr (tl S j) = tr m) ∧ vl S.val m = -1) → (∀ m ∈ (S.cl c).lits.take (k + 1), tr m ≠ v → (∃ j i, i < S.tra.length ∧ tr (tl S i) = v ∧ j < i ∧ tr (tl S j) = tr m) ∧ vl S.val m = -1) ∧ (mine = true ↔ ∃ m ∈ (S.cl c).lits.take (k + 1), tr m = v ∧ sg m = atI S.val v) := by
              intro hok
              refine ⟨?_, ?_⟩
              · rw [htk]; intro y hy hne
                rcases List.mem_append.1 hy with hy | hy
                · exact hA y hy hne
                · rw [List.mem_singleton] at hy; subst hy; exact hok
              · rw [hB, htk]
                constructor
                · rintro ⟨y, hy, e⟩; exact ⟨y, List.mem_append_left _ hy, e⟩
                · rintro ⟨y, hy, e⟩
                  rcases List.mem_append.1 hy with hy | hy
                  · exact ⟨y, hy, e⟩
                  · rw [List.mem_singleton] at hy; subst hy; exact absurd e.1 hne
            -- its own truth was told
            have told : ∃ i, i < S.tra.length ∧ tr (tl S i) = v ∧ atI W v = (i : Int) := by
              rcases hW.cases hv' with ⟨_, hno⟩ | ⟨i, hi, e1, e2⟩
              · exact absurd (F hno).2.2 hm1
              · exact ⟨i, hi, e1, e2⟩
            obtain ⟨i, hi, ei, hWi⟩ := told
            refine seq.cut (fun b h13 => h13 = h12 ∧ (b = false ↔ ((∃ j i, i < S.tra.length ∧ tr (tl S i) = v ∧ j < i ∧ tr (tl S j) = tr m) ∧ vl S.val m = -1))) ?_ ?_
            · have htm := th.tr
              refine rTruth_spec th (by omega) (RJ.ld o7.r (j := tr m) rfl (by omega) ⟨fun hneg => ⟨rfl, nofun, fun hh => ?_⟩, fun hpos => ?_⟩)
              · have hneg : atI W (tr m) < 0 := of_decide_eq_true hneg
                obtain ⟨⟨j, i2, h1, h2, h3, h4⟩, _⟩ := hh
                have := hW.2.1 j (by omega)
                rw [h4] at this; omega
              have hpos : ¬ atI W (tr m) < 0 := of_decide_eq_false hpos
              obtain ⟨j, hj, ej, hWj⟩ : ∃ j, j < S.tra.length ∧ tr (tl S j) = tr m ∧ atI W (tr m) = (j : Int) := by
                rcases hW.cases htm with ⟨h1, _⟩ | h1
                · omega
                · exact h1
              refine RJ.ld2E o7.r (Keep.refl _ _) (j := v) rfl (by omega) fun a hca => rTruth_spec th (by omega) ⟨hca, ?_⟩
              refine RJ.ld o7.r (j := tr m) rfl (by omega) ⟨fun hge => ⟨rfl, nofun, fun hh => ?_⟩, fun hlt3 => ?_⟩
              · have hge : atI W (tr m) ≥ atI W v := by simpa [at_atI] using hge
                obtain ⟨⟨j2, i2, h1, h2, h3, h4⟩, _⟩ := hh
                have : i2 = i := trk_one hall h1 hi (by rw [h2, ei])
                have : j2 = j := trk_one hall (by omega) hj (by rw [h4, ej])
                omega
              have hlt3 : ¬ atI W (tr m) ≥ atI W v := by simpa [at_atI] using hlt3
              refine rValue_spec (R.ext q.val e7) (by omega) th (vOk m th ⟨j, hj, ej⟩) ⟨rfl, fun hb => ⟨⟨j, i, hi, ei, by omega, ej⟩, by simpa using hb⟩, fun hh => ?_⟩
              simp [hh.2]
            rintro b h13 ⟨rfl, hb⟩
            refine ⟨fun hbt => badR (no only (fun hh => ?_)) _ e7, fun hbf => ⟨rfl, fin (hb.1 hbf)⟩⟩
            have := hb.2 (hh.1 m hmk hne); rw [this] at hbt; cases hbt
        rintro b h13 ⟨rfl, hA', hB'⟩
        rintro _ rfl
        rw [w64 (by omega) (by omega)]
        exact ⟨⟨rfl, k + 1, by simp, by omega, hA', hB'⟩, by (try dsimp only); omega⟩
      · simp only [decide_eq_false_iff_not] at hge2
        have : k = (S.cl c).lits.length := by omega
        subst this
        rw [List.take_length] at hA hB
        refine ⟨fun hm => badR (no only (fun hh => ?_)) _ e7, fun hm => ⟨rfl, F, .inr ⟨c, hce, hcc, hA, hB.1 (by simpa using hm)⟩⟩⟩
        have := hB.2 hh.2; rw [this] at hm; simp at hm
    rintro _ h10 ⟨rfl, hF, hR⟩
    rintro _ rfl
    rw [w64 (by omega) (by omega)]
    refine ⟨⟨rfl, v + 1, by omega, by omega, fun u hu => ?_⟩, by omega⟩
    by_cases g : u = v
    · subst g; exact ⟨hF, hR⟩
    · exact hfr u (by omega)
  · simp only [decide_eq_false_iff_not] at hge
    have hfre : ∀ u, u < S.val.length → Fk S u := fun u hu => (hfr u (by omega)).1
    refine K true h9 ⟨fun _ => ?_, fun _ => rfl⟩ e7
    exact ⟨g1, g2, g3, g4, g5, hcls, htt, hwat, hall, hhea, hfre, (rea_iff hcls hall hfre).2 fun u hu => (hfr u (by omega)).2⟩
end Go.Sh

namespace Go.Sh
open Go Go.Lift Go.Cla
variable {h h' h0 hh : Heap} {x : S8} {S : SS} {nx : Int}
end Go.Sh
