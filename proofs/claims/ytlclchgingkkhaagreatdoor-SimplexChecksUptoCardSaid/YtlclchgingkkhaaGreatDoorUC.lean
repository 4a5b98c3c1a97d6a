/-
  Laws that the proof of this claim's statement leans on, each proved under the conditions that it states.
-/
import Derived.Test.YtlclchgingkkhaaGreatDoorUB
set_option linter.unusedVariables false
set_option linter.unusedSimpArgs false
namespace Go.Sh
open Go Go.Lift
variable {h0 h : Heap} {x : S5} {t : TT} {L B : Nat}
def psA (t : TT) (i : Nat) : Rat × PL := t.ps.getD i (0, [])
theorem br {i : Nat} (hi : i < t.ps.length) : psA t i = t.ps[i] := by unfold psA; rw [List.getD_eq_getElem?_getD, List.getElem?_eq_getElem hi]; rfl
structure RowOk (t : TT) (i : Nat) : Prop where
  lo : 0 ≤ at0 t.bs i
  hi : at0 t.bs i < (t.vs.length : Int)
  me : rowI t.bs (at0 t.bs i) = (i : Int)
  c : (psA t i).1 = 0
  m : ∀ m ∈ (psA t i).2, m.1 < (t.vs.length : Int) ∧ rowI t.bs m.1 < 0
  v : valV (atD t.vs) (psA t i).2 = atD t.vs (at0 t.bs i)
structure RightT (t : TT) : Prop where
  lb : t.bs.length = t.ps.length
  ll : t.lo.length = t.vs.length
  lu : t.up.length = t.vs.length
  lo : ∀ e ∈ t.lo, e.1 = 0 → e.2 = (0, 0)
  up : ∀ e ∈ t.up, e.1 = 0 → e.2 = (0, 0)
  rows : ∀ i, i < t.ps.length → RowOk t i
theorem wB {h : Heap} {y : X4} {p : Rat × PL} (q : PQ h y p) : y.2.1.len = 0 ↔ p.1 = 0 := by
  have := q.c.num.len_zero
  rw [this, Int.natAbs_eq_zero, Rat.num_eq_zero]
theorem wh {Q : Bool → Heap → Prop} (q : TQ h0 x t) (e0 : Ext h0 h) (z : TSz t L B) (hL : L * (2 * B + 4) + 2 * B + 4 ≤ 2700) (hL1 : L ≤ 1000) (hB : B ≤ 200) (K : ∀ b h', (b = true ↔ RightT t) → Ext h h' → Q b h') : ij x h Q := by
  have nb := z.nb; have np := z.np; have nv := z.nv; have nl := z.nl; have nu := z.nu
  have l1 := q.bas.len; have l2 := q.rows.len; have l3 := q.vals.len; have l4 := q.lo.len; have l5 := q.up.len
  have K0 : ¬ RightT t → ∀ h', Ext h h' → Q false h' := fun hn h' e => K false h' ⟨nofun, fun hh => absurd hh hn⟩ e
  refine ae fun h1 e1 => ?_
  rw [l1, l2, l3, l4, l5]
  rintro _ rfl
  refine seq.cut (fun b h2 => h2 = h1 ∧ (b = true → ¬ RightT t) ∧ (b = false → t.bs.length = t.ps.length ∧ t.lo.length = t.vs.length ∧ t.up.length = t.vs.length)) ?_ ?_
  · have ne : ∀ {a b : Nat}, (((a : Nat) : Int) != ((b : Nat) : Int)) = true → a ≠ b := fun h e => by rw [e] at h; simp at h
    have eq : ∀ {a b : Nat}, (((a : Nat) : Int) != ((b : Nat) : Int)) = false → a = b := fun h => by
      have := (bne_eq_false_iff_eq).1 h; omega
    refine ⟨fun hb => ⟨rfl, fun _ R => ne hb R.lb, nofun⟩, fun b1 => ⟨fun hb => ⟨rfl, fun _ R => ne hb R.ll, nofun⟩, fun b2 => ⟨rfl, fun hb R => ne hb R.lu, fun b3 => ⟨eq b1, eq b2, eq b3⟩⟩⟩⟩
  rintro b h2 ⟨rfl, hbt, hbf⟩
  refine ⟨fun hb => K0 (hbt hb) _ e1, fun hb => ?_⟩
  obtain ⟨g1, g2, g3⟩ := hbf hb
  clear hbt hbf hb
  -- numbers, bounds
  refine loop.inv (fun s h' => Ext h h' ∧ ∃ j : Nat, s = (j : Int) ∧ j ≤ t.vs.length ∧ (∀ e ∈ t.lo.take j, e.1 = 0 → e.2 = (0, 0)) ∧ ∀ e ∈ t.up.take j, e.1 = 0 → e.2 = (0, 0)) (fun s _ => t.vs.length - s.toNat) ⟨e1, 0, rfl, by omega, fun e he => by simp at he, fun e he => by simp at he⟩ ?_
  rintro _ h3 ⟨e3, j, rfl, hj, ha1, ha2⟩
  have e03 := e0.trans e3
  refine ⟨fun hlt => ?_, fun hge => ?_⟩
  · simp only [decide_eq_true_eq] at hlt
    have hv' : j < t.vs.length := by omega
    have hl' : j < t.lo.length := by omega
    have hu' : j < t.up.length := by omega
    have sv := z.v _ (List.getElem_mem hv')
    have sl := z.lo _ (List.getElem_mem hl')
    have su := z.up _ (List.getElem_mem hu')
    refine seq.cut (fun b h4 => Ext h h4 ∧ b = false) ?_ ?_
    · refine q.vals.ldE e03 (j := j) rfl hv' fun y1 r1 => ?_
      refine iz (x := y1) (r1.ext e03) (by omega) fun h4 e4 => ⟨fun h => (by cases h), fun _ => ?_⟩
      refine q.lo.atE (e03.trans e4) (j := j) rfl hl' fun a2 y2 hc2 r2 => ⟨eD y2, yQ hc2, ?_⟩
      refine iz (x := eD y2) (r2.2.ext (e03.trans e4)) (by omega) fun h5 e5 => ⟨fun h => (by cases h), fun _ => ?_⟩
      refine q.up.atE (e03.trans (e4.trans e5)) (j := j) rfl hu' fun a3 y3 hc3 r3 => ⟨eD y3, yQ hc3, ?_⟩
      exact iz (x := eD y3) (r3.2.ext (e03.trans (e4.trans e5))) (by omega) fun h6 e6 => ⟨e3.trans (e4.trans (e5.trans e6)), rfl⟩
    rintro b h4 ⟨e4, rfl⟩
    refine ⟨nofun, fun _ => ?_⟩
    have e04 := e0.trans e4
    refine seq.cut (fun b h5 => Ext h h5 ∧ (b = false ↔ ((t.lo[j].1 = 0 → t.lo[j].2 = (0, 0)) ∧ (t.up[j].1 = 0 → t.up[j].2 = (0, 0))))) ?_ ?_
    · have upp : ∀ {h5 : Heap} {J : Bool → Heap → Prop}, Ext h h5 → (∀ b h', (b = false ↔ (t.up[j].1 = 0 → t.up[j].2 = (0, 0))) → Ext h5 h' → J b h') →
          idxS x.2.2.2.2 (j : Int) 7 fun a_5 => Lift.load (Value.int .i64) (a_5.add 0) h5 fun v_9 => iteB (v_9 == 0) (idxS x.2.2.2.2 (j : Int) 7 fun a_6 => aD C6 6 (a_6.add 1) h5 fun v_10 =>
            bE (v_10.1, v_10.2.1, v_10.2.2.1, v_10.2.2.2.1, v_10.2.2.2.2.1, v_10.2.2.2.2.2) (false, Sl.nil, Sl.nil, false, Sl.nil, Sl.nil) h5 fun v_11 h0u9 => J (!v_11) h0u9) (J false h5) := by
        intro h5 J e5 k
        refine q.up.atE (e0.trans e5) (j := j) rfl hu' fun a y hc r => ⟨y.1, fH hc, fun hz => ?_, fun hz => ?_⟩
        · have hz : t.up[j].1 = 0 := by rw [← r.1]; simpa using hz
          refine q.up.atE (e0.trans e5) (j := j) rfl hu' fun a2 y2 hc2 r2 => ⟨eD y2, yQ hc2, ?_⟩
          refine gM (x := eD y2) (y := d0) (r2.2.ext (e0.trans e5)) DQ.zero fun h6 e6 => k _ h6 ?_ e6
          simp [hz]
        · have hz : ¬ t.up[j].1 = 0 := by rw [← r.1]; simpa using hz
          exact k false h5 ⟨fun _ h => absurd h hz, fun _ => rfl⟩ (Keep.refl _ _)
      refine q.lo.atE e04 (j := j) rfl hl' fun a y hc r => ⟨y.1, fH hc, fun hz => ?_, fun hz => ?_⟩
      · have hz : t.lo[j].1 = 0 := by rw [← r.1]; simpa using hz
        refine q.lo.atE e04 (j := j) rfl hl' fun a2 y2 hc2 r2 => ⟨eD y2, yQ hc2, ?_⟩
        refine gM (x := eD y2) (y := d0) (r2.2.ext e04) DQ.zero fun h6 e6 => ⟨fun hne => ⟨e4.trans e6, nofun, fun hh => ?_⟩, fun he => ?_⟩
        · have : ¬ t.lo[j].2 = (0, 0) := by simpa using hne
          exact absurd (hh.1 hz) this
        · have he : t.lo[j].2 = (0, 0) := by simpa using he
          refine upp (J := fun b h5 => Ext h h5 ∧ (b = false ↔ ((t.lo[j].1 = 0 → t.lo[j].2 = (0, 0)) ∧ (t.up[j].1 = 0 → t.up[j].2 = (0, 0))))) (e4.trans e6) fun b h7 hb e7 => ⟨e4.trans (e6.trans e7), ?_⟩
          rw [hb]; exact ⟨fun h => ⟨fun _ => he, h⟩, fun h => h.2⟩
      · have hz : ¬ t.lo[j].1 = 0 := by rw [← r.1]; simpa using hz
        refine upp (J := fun b h5 => Ext h h5 ∧ (b = false ↔ ((t.lo[j].1 = 0 → t.lo[j].2 = (0, 0)) ∧ (t.up[j].1 = 0 → t.up[j].2 = (0, 0))))) e4 fun b h7 hb e7 => ⟨e4.trans e7, ?_⟩
        rw [hb]; exact ⟨fun h => ⟨fun h2 => absurd h2 hz, h⟩, fun h => h.2⟩
    rintro b h5 ⟨e5, hb⟩
    refine ⟨fun hbt => K0 (fun R => ?_) _ e5, fun hbf => ?_⟩
    · have := hb.2 ⟨R.lo _ (List.getElem_mem hl'), R.up _ (List.getElem_mem hu')⟩
      rw [this] at hbt; cases hbt
    · obtain ⟨p1, p2⟩ := hb.1 hbf
      rintro _ rfl
      rw [w64 (by omega) (by omega)]
      refine ⟨⟨e5, j + 1, by omega, by omega, ?_, ?_⟩, by omega⟩
      · rw [List.take_succ_eq_append_getElem hl']; intro e he
        rcases List.mem_append.1 he with he | he
        · exact ha1 e he
        · rw [List.mem_singleton] at he; subst he; exact p1
      · rw [List.take_succ_eq_append_getElem hu']; intro e he
        rcases List.mem_append.1 he with he | he
        · exact ha2 e he
        · rw [List.mem_singleton] at he; subst he; exact p2
  simp only [decide_eq_false_iff_not] at hge
  rw [List.take_of_length_le (by omega)] at ha1 ha2
  -- rows
  refine loop.inv (fun s h' => Ext h h' ∧ ∃ i : Nat, s = (i : Int) ∧ i ≤ t.ps.length ∧ ∀ k, k < i → RowOk t k) (fun s _ => t.ps.length - s.toNat) ⟨e3, 0, rfl, by omega, fun k hk => by omega⟩ ?_
  clear e03 e3 h3 hj hge; clear j
  rintro _ h3 ⟨e3, i, rfl, hi, hall⟩
  have e03 := e0.trans e3
  refine ⟨fun hlt => ?_, fun hge => ?_⟩
  · simp only [decide_eq_true_eq] at hlt
    have hi' : i < t.ps.length := by omega
    have hib : i < t.bs.length := by omega
    have hmem := List.getElem_mem hi'
    have hpi := br hi'
    have pl := z.pl _ hmem; have pc := z.pc _ hmem; have pm := z.pm _ hmem; have prt := z.rt _ hmem
    have bad : ¬ RowOk t i → ∀ h', Ext h h' → Q false h' := fun hn => K0 fun R => hn (R.rows i hi')
    refine RJ.ld (R.ext q.bas e03) (j := i) rfl hib ?_
    refine seq.cut (fun b h4 => Ext h h4 ∧ (b = true → ¬ RowOk t i) ∧ (b = false → 0 ≤ at0 t.bs i ∧ at0 t.bs i < (t.vs.length : Int) ∧ rowI t.bs (at0 t.bs i) = (i : Int) ∧ (psA t i).1 = 0)) ?_ ?_
    · refine ⟨fun hb => ⟨e3, fun _ R => ?_, nofun⟩, fun b1 => ⟨fun hb => ⟨e3, fun _ R => ?_, nofun⟩, fun b2 => ?_⟩⟩
      · have := of_decide_eq_true hb; have := R.lo; omega
      · have := of_decide_eq_true hb; have := R.hi; omega
      have b1 := of_decide_eq_false b1; have b2 := of_decide_eq_false b2
      refine sX (R.ext q.bas e03) (by omega) fun h4 e4 => ⟨fun hb => ⟨e3.trans e4, fun _ R => ?_, nofun⟩, fun b3 => ?_⟩
      · have := R.me; rw [this] at hb; simp at hb
      have b3 : rowI t.bs (at0 t.bs i) = (i : Int) := by simpa using b3
      have e04 := e03.trans e4
      refine q.rows.ldE e04 (j := i) rfl hi' fun y r => ?_
      have hml := r.m.len
      refine lW (x := y) (PQ.raw r (by omega) (fun m hm => by have := pm m hm; omega)) e04 (by omega) fun b5 h5 hb5 e5 => ⟨fun hb => ?_, fun _ => ?_⟩
      · have : b5 = true := hb5.2 ⟨_, r, prt⟩
        rw [this] at hb; cases hb
      refine q.rows.atE (e04.trans e5) (j := i) rfl hi' fun a6 y6 hc6 r6 => ⟨y6.2.1, ?_, e3.trans (e4.trans e5), fun hb R => ?_, fun hb => ⟨by omega, by omega, b3, ?_⟩⟩
      · have := cells?_get _ _ _ hc6 1 (by simp [CP, ah])
        simpa [CP, ah, aS] using this
      · have := of_decide_eq_true hb
        have h7 := (wB r6).2 (by have := R.c; rw [hpi] at this; exact this)
        omega
      · have := of_decide_eq_false hb
        rw [hpi]
        exact (wB r6).1 (by omega)
    rintro b h4 ⟨e4, hbt, hbf⟩
    refine ⟨fun hb => bad (hbt hb) _ e4, fun hb => ?_⟩
    obtain ⟨b1, b2, b3, b4⟩ := hbf hb
    refine loop.inv (fun s h' => Ext h h' ∧ ∃ k : Nat, s = (k : Int) ∧ k ≤ (psA t i).2.length ∧ ∀ m ∈ (psA t i).2.take k, m.1 < (t.vs.length : Int) ∧ rowI t.bs m.1 < 0) (fun s _ => (psA t i).2.length - s.toNat) ⟨e4, 0, rfl, by omega, fun m hm => by simp at hm⟩ ?_
    rw [hpi] at b4 ⊢
    rintro _ h5 ⟨e5, k, rfl, hk, hms⟩
    have e05 := e0.trans e5
    refine q.rows.atE e05 (j := i) rfl hi' fun a6 y6 hc6 r6 => ⟨y6.2.2.2, ?_, ?_⟩
    · have := cells?_get _ _ _ hc6 3 (by simp [CP, ah])
      simpa [CP, ah, aS] using this
    have hml := r6.m.len
    dsimp only
    rw [hml]
    refine ⟨fun hlt2 => ?_, fun hge2 => ?_⟩
    · simp only [decide_eq_true_eq] at hlt2
      have hk' : k < t.ps[i].2.length := by omega
      have htk := List.take_succ_eq_append_getElem hk'
      have hmm := List.getElem_mem hk'
      refine q.rows.atE e05 (j := i) rfl hi' fun a7 y7 hc7 r7 => ⟨y7.2.2.2, ?_, ?_⟩
      · have := cells?_get _ _ _ hc7 3 (by simp [CP, ah])
        simpa [CP, ah, aS] using this
      refine r7.m.atE e05 (i := (k : Int)) (j := k) rfl hk' fun a8 y8 hc8 hv8 _ => ⟨y8.1, dX hc8, ?_⟩
      rw [hv8]
      refine seq.cut (fun b h6 => Ext h h6 ∧ (b = false ↔ (t.ps[i].2[k].1 < (t.vs.length : Int) ∧ rowI t.bs t.ps[i].2[k].1 < 0))) ?_ ?_
      · refine ⟨fun hb => ⟨e5, nofun, fun hh => ?_⟩, fun hb => ?_⟩
        · have := of_decide_eq_true hb; omega
        · have hb := of_decide_eq_false hb
          refine sX (R.ext q.bas e05) (by omega) fun h6 e6 => ⟨e5.trans e6, ?_⟩
          rw [decide_eq_false_iff_not]
          constructor
          · intro h; exact ⟨by omega, by omega⟩
          · intro h; omega
      rintro b h6 ⟨e6, hb⟩
      refine ⟨fun hbt => bad (fun R => ?_) _ e6, fun hbf => ?_⟩
      · have := hb.2 (R.m _ (by rw [hpi]; exact hmm)); rw [this] at hbt; cases hbt
      · rintro _ rfl
        rw [w64 (by omega) (by omega)]
        refine ⟨⟨e6, k + 1, by omega, by omega, ?_⟩, by omega⟩
        rw [htk]; intro m hm
        rcases List.mem_append.1 hm with hm | hm
        · exact hms m hm
        · rw [List.mem_singleton] at hm; subst hm; exact hb.1 hbf
    · simp only [decide_eq_false_iff_not] at hge2
      rw [List.take_of_length_le (by omega)] at hms
      refine q.rows.ldE e05 (j := i) rfl hi' fun y7 r7 => ?_
      obtain ⟨bi, hbi⟩ : ∃ bi : Nat, at0 t.bs i = (bi : Int) := ⟨(at0 t.bs i).toNat, by omega⟩
      have hbv : bi < t.vs.length := by omega
      have hat : atD t.vs (at0 t.bs i) = t.vs[bi] := by rw [qG (by omega)]; congr 1; omega
      refine q.vals.atE e05 (j := bi) hbi hbv fun a8 y8 hc8 r8 => ⟨y8, hc8, ?_⟩
      rw [← hat] at r8
      have hlL : t.ps[i].2.length * (2 * B + 4) ≤ L * (2 * B + 4) := Nat.mul_le_mul_right _ pl
      have inv : inV t.vs.length t.ps[i].2 := fun m hm => ⟨prt.nn m hm, (hms m hm).1⟩
      refine vp (x := y7) e05 r7 q.vals inv pm z.v (by omega) hB (by omega) (by omega) fun r9 h9 hr9 e9 => ⟨?_, ?_⟩
      · have := cx e9 hc8
        simpa [C6, aa] using this
      have fB := iL z.v
      have hvs := aar fB pm
      have hvb := fB (at0 t.bs i)
      refine f5 (x := y8) (r8.ext (e05.trans e9)) (by omega) fun r10 h10 hr10 e10 => ?_
      refine pD (hr9.ext e10) hr10 (by omega) fun h11 e11 => ?_
      have e511 := e5.trans (e9.trans (e10.trans e11))
      refine ⟨fun hne => bad (fun R => ?_) _ e511, fun he => ?_⟩
      · have h12 := R.v
        rw [hpi] at h12
        have : (cmpD (valV (atD t.vs) t.ps[i].2) (atD t.vs (at0 t.bs i)) == 0) = true := by rw [sQ]; exact decide_eq_true h12
        simp [bne, this] at hne
      · have he : (cmpD (valV (atD t.vs) t.ps[i].2) (atD t.vs (at0 t.bs i)) == 0) = true := by simpa [bne] using he
        rw [sQ, decide_eq_true_iff] at he
        rintro _ rfl
        rw [w64 (by omega) (by omega)]
        refine ⟨⟨e511, i + 1, by omega, by omega, fun k hk => ?_⟩, by omega⟩
        by_cases g : k = i
        · subst g
          exact ⟨b1, b2, b3, by rw [hpi]; exact b4, by rw [hpi]; exact hms, by rw [hpi]; exact he⟩
        · exact hall k (by omega)
  · simp only [decide_eq_false_iff_not] at hge
    exact K true h3 ⟨fun _ => ⟨g1, g2, g3, ha1, ha2, fun k hk => hall k (by omega)⟩, fun _ => rfl⟩ e3
end Go.Sh

namespace Go.Sh
open Go Go.Lift
variable {h0 h : Heap} {x : S5} {t : TT} {L B : Nat}
abbrev CT := aC
end Go.Sh

namespace Go.Sh
open Go Go.Lift
section
variable {B : Nat} {h : Heap} {s : Sl} {ys : List One} {a : Addr}
theorem Own.can (ho : Own (Subtype.val : One → Value) B h s ys) (ha : s.a = some a) : ∀ (n i : Nat), i + n ≤ ys.length → dV h a n i
  | 0, _, _ => trivial
  | n + 1, i, hi => by
    obtain ⟨h1, h2, _⟩ := ho.store (i := i) (by omega) ha (⟨.bool true, rfl⟩ : One) (k := fun _ => True) (fun _ _ _ _ => trivial)
    exact ⟨h1, h2, Own.can ho ha n (i + 1) (by omega)⟩
theorem Own.stL (ho : Own (Subtype.val : One → Value) B h s ys) (ha : s.a = some a) : ∀ (vs : List One) (i : Nat), i + vs.length ≤ ys.length → ∃ zs : List One, Own (Subtype.val : One → Value) B (bH h a (vs.map Subtype.val) i) s zs ∧ Keep s.blk h (bH h a (vs.map Subtype.val) i) ∧ (bH h a (vs.map Subtype.val) i).size = h.size ∧
    zs.length = ys.length ∧ ∀ k, zs[k]? = if i ≤ k ∧ k < i + vs.length then vs[k - i]? else ys[k]? := by
  intro vs
  induction vs generalizing h ys with
  | nil => intro i hi; exact ⟨ys, ho, Keep.refl _ _, rfl, rfl, fun k => by rw [if_neg (by simp)]⟩
  | cons v vs ih =>
    intro i hi
    simp only [List.length_cons] at hi
    obtain ⟨_, _, o1, k1, s1⟩ := ho.store (i := i) (by omega) ha v (k := fun h' => Own (Subtype.val : One → Value) B h' s (ys.set i v) ∧ Keep s.blk h h' ∧ h'.size = h.size) (fun h' a b c => ⟨a, b, c⟩)
    obtain ⟨zs, o2, k2, s2, l2, g2⟩ := ih o1 (i + 1) (by rw [List.length_set]; omega)
    refine ⟨zs, o2, k1.trans k2, s2.trans s1, by rw [l2, List.length_set], fun k => ?_⟩
    rw [g2]
    by_cases e : k = i
    · subst e
      rw [if_neg (by omega), if_pos (by simp), List.getElem?_set_self (by omega)]
      simp
    · by_cases g : i + 1 ≤ k ∧ k < i + 1 + vs.length
      · rw [if_pos g, if_pos (by simp only [List.length_cons]; omega)]
        have : k - i = (k - (i + 1)) + 1 := by omega
        rw [this, List.getElem?_cons_succ]
      · rw [if_neg g, if_neg (by simp only [List.length_cons]; omega), List.getElem?_set_ne (by omega)]
end
theorem sW {h : Heap} {a : Addr} {n : Nat} : ∀ (vs : List Value) (i : Nat), bH h (a.add n) vs i = bH h a vs (n + i) := by
  intro vs
  induction vs generalizing h with
  | nil => intro i; rfl
  | cons v vs ih => intro i; simp only [bH]; rw [aS, ih]; rfl
theorem pM {h : Heap} {a : Addr} {n : Nat} : ∀ (m i : Nat), dV h (a.add n) m i ↔ dV h a m (n + i)
  | 0, _ => Iff.rfl
  | m + 1, i => by simp only [dV]; rw [aS, pM m (i + 1)]; rfl
section
variable {α : Type} {toC : α → List Value} {sz B : Nat} {h h' : Heap} {s : Sl} {xs : List α}
theorem abn (hsz : ∀ x, (toC x).length = sz) {xs : List α} {j : Nat} {y : α} (hj : j < xs.length) (h0 : 0 < sz) : ∀ k, (flat toC (xs.set j y))[k]? = if j * sz ≤ k ∧ k < j * sz + sz then (toC y)[k - j * sz]? else (flat toC xs)[k]? := by
  intro k
  have hl1 := cm hsz (xs.set j y)
  have hl2 := cm hsz xs
  rw [List.length_set] at hl1
  by_cases hk : k < xs.length * sz
  · have hi : k / sz < xs.length := by rw [Nat.div_lt_iff_lt_mul h0]; exact hk
    have hr := Nat.mod_lt k h0
    have he : k / sz * sz + k % sz = k := by rw [Nat.mul_comm]; exact Nat.div_add_mod k sz
    have g1 := kZ hsz (xs.set j y) (k / sz) (by rw [List.length_set]; exact hi) (k % sz) hr
    have g2 := kZ hsz xs (k / sz) hi (k % sz) hr
    rw [he] at g1 g2
    rw [g1, g2]
    by_cases e : k / sz = j
    · have hjk : j * sz ≤ k ∧ k < j * sz + sz := by rw [e] at he; omega
      rw [if_pos hjk]
      have : k % sz = k - j * sz := by rw [e] at he; omega
      rw [this]
      congr 1
      simp [e]
    · have hjk : ¬ (j * sz ≤ k ∧ k < j * sz + sz) := by
        rintro ⟨h1, h2⟩
        apply e
        exact Nat.div_eq_of_lt_le (by omega) (by rw [Nat.add_mul, Nat.one_mul]; omega)
      rw [if_neg hjk]
      congr 1
      rw [List.getElem_set_ne (fun h => e h.symm)]
  · have : (j + 1) * sz ≤ xs.length * sz := Nat.mul_le_mul_right _ hj
    rw [Nat.add_mul, Nat.one_mul] at this
    rw [if_neg (by omega), List.getElem?_eq_none (l := flat toC (xs.set j y)) (by omega), List.getElem?_eq_none (l := flat toC xs) (by omega)]
theorem OwnS.stS {i : Int} {j : Nat} {y : α} {k : Heap → Prop} (ho : OwnS toC sz B h s xs) (hsz : ∀ x, (toC x).length = sz) (h0 : 0 < sz) (hone : aF (toC y) = true) (hij : i = (j : Int)) (hj : j < xs.length)
    (K : ∀ h', OwnS toC sz B h' s (xs.set j y) → Keep s.blk h h' → h'.size = h.size → k h') : idxS s i sz fun a => dU a (toC y) h k := by
  subst hij
  obtain ⟨hl, ys, h1, h2⟩ := ho
  obtain ⟨vs, hv⟩ := nI hone
  have hvl : vs.length = sz := by have := congrArg List.length hv; rw [hsz, List.length_map] at this; exact this.symm
  have hyl : ys.length = xs.length * sz := by have := congrArg List.length h1; rw [cm hsz, List.length_map] at this; exact this.symm
  have hjs : j * sz + sz ≤ ys.length := by
    have : (j + 1) * sz ≤ xs.length * sz := Nat.mul_le_mul_right _ hj
    rw [Nat.add_mul, Nat.one_mul] at this; omega
  obtain ⟨a, ha, _⟩ := h2.r.get (i := j * sz) (by omega)
  have ha' : (Sl.sc sz s).a = some a := ha
  refine ⟨a, ha, ⟨by omega, by omega⟩, ?_⟩
  simp only [Int.toNat_natCast]
  rw [dU, hsz, pM, sW, Nat.add_zero]
  refine ⟨Own.can h2 ha' sz (j * sz) hjs, ?_⟩
  obtain ⟨zs, o, kk, ss, lz, gz⟩ := Own.stL h2 ha' vs (j * sz) (by omega)
  rw [← hv] at o kk ss
  refine K _ ⟨by rw [List.length_set]; exact hl, zs, ?_, o⟩ (by simpa [Sl.sc_blk] using kk) ss
  apply List.ext_getElem?
  intro k
  rw [abn hsz hj h0, List.getElem?_map, gz, hvl]
  by_cases g : j * sz ≤ k ∧ k < j * sz + sz
  · rw [if_pos g, if_pos g, hv, List.getElem?_map]
  · rw [if_neg g, if_neg g, h1, List.getElem?_map]
theorem acR {α : Type} {toC : α → List Value} {sz bytes n : Nat} {z : α} {zs : List Value} {i : Int} {h : Heap} {k : Sl → Heap → Prop} (hi : i = (n : Int)) (hn : n ≤ 100000) (hb : bytes ≤ 200) (hzs : zs = toC z) (hsz : ∀ x, (toC x).length = sz) (hone : aF (toC z) = true)
    (K : ∀ s h', OwnS toC sz h.size h' s (List.replicate n z) → Ext h h' → s.blk = some h.size → h'.size = h.size + 1 → k s h') : mkS zs bytes i i h k := by
  subst hi hzs
  have hbb : n * bytes ≤ 100000 * 200 := Nat.mul_le_mul hn hb
  refine ⟨⟨by omega, by omega, ?_⟩, fun T => ?_⟩
  · have : ((n * bytes : Nat) : Int) ≤ 2 ^ 46 := by have : (n * bytes : Nat) ≤ 2 ^ 46 := by omega
                                                    exact_mod_cast this
    rw [← Int.natCast_mul]; exact this
  · simp only [Int.toNat_natCast]
    have e : List.flatten (List.replicate n (toC z)) = flat toC (List.replicate n z) := by simp [flat]
    rw [e]
    have ho1 : aF (flat toC (List.replicate n z)) = true := by
      unfold flat aF
      rw [List.all_flatten, List.all_eq_true]
      intro l hl
      obtain ⟨y, hy, rfl⟩ := List.mem_map.1 hl
      rw [(List.mem_replicate.1 hy).2]; exact hone
    obtain ⟨us, hu⟩ := nI ho1
    have hul : us.length = n * sz := by have := congrArg List.length hu; rw [cm hsz, List.length_replicate, List.length_map] at this; exact this.symm
    have ho := Own.new (toV := (Subtype.val : One → Value)) (h := h) (ys := us) (cs := flat toC (List.replicate n z)) (T := T) hu
    rw [hul] at ho
    exact K _ _ ⟨by simp, us, hu, ho⟩ (Ext.push _ _) rfl (by simp)
end
end Go.Sh
