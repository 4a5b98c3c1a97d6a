/-
  Laws that the proof of this claim's statement leans on, each proved under the conditions that it states.
-/
import Derived.Test.YtmcfhickfcmkkaaGreatDoorTV
import Derived.Test.YtmcfhickfcmkkaaGreatDoorTA
import Derived.Test.YtmcfhickfcmkkaaGreatDoorNW
import Derived.Test.YtmcfhickfcmkkaaGreatDoorTB
set_option linter.unusedVariables false
set_option linter.unusedSimpArgs false
namespace Go.Sh.Pk
open Go Go.Lift
section
variable {h h0 : Heap}
def outB (n : Int) : Bool := decide (n < 0) || decide (n > 1152921504606846976)
theorem ajA {n : Int} {Q : Bool → Heap → Prop} (K : Q (outB n) h) : dO n h Q := by
  unfold outB at K
  refine seq.dup ⟨fun b => ?_, fun b => ?_⟩
  · rw [b] at K; exact K
  · rw [b] at K; exact K
theorem ah8 {s : Sl} {xs : List Int} {Q : Bool → Heap → Prop} (hr : RJ' h s xs) (hl : xs.length ≤ 1048576) (K : Q (xs.any outB) h) : aL s h Q := by
  have hlen := hr.len
  refine anyI (body := fun s0 h0 R => idxS s s0 1 fun a => Lift.load (Value.int .i64) a h0 fun v => dO v h0 R) (n := xs.length) (J := fun _ h' => h' = h) (p := fun i => outB (at0 xs i)) (by rw [hlen]) hl rfl (fun i h' hi hI R hR => ?_) fun h' i hI => ?_
  · subst hI
    exact RJ.ld hr rfl hi (ajA (hR _ rfl))
  · subst hI
    rw [sI (f := outB) fun i hi => by rw [jV hi]]
    exact K
def ai1 (sc : List Int) (u v : Int) : Bool := if (at0 sc u.toNat != at0 sc v.toNat) = true then decide (at0 sc u.toNat > at0 sc v.toNat) else decide (u < v)
theorem ahd {q : Addr} {s t : Sl} {sc l : List Int} {i j : Int} {m n : Nat} {Q : Bool → Heap → Prop} (c0 : cell? h (q.add 0) = some (Sl.toV s)) (c1 : cell? h (q.add 1) = some (Sl.toV t)) (hs : RJ' h s sc) (ht : RJ' h t l) (hi : i = (m : Int)) (hj : j = (n : Int)) (hm : m < l.length) (hn : n < l.length)
    (hu : 0 ≤ at0 l m ∧ at0 l m < (sc.length : Int)) (hv : 0 ≤ at0 l n ∧ at0 l n < (sc.length : Int)) (K : ∀ h', Ext h h' → Q (ai1 sc (at0 l m) (at0 l n)) h') : il (some q) i j h Q := by
  refine ak fun h1 e1 => ?_
  have d0 := ao e1 c0 (by simp)
  have d1 := ao e1 c1 (by simp)
  have hs1 := R.ext hs e1
  have ht1 := R.ext ht e1
  have K1 := K h1 e1
  unfold ai1 at K1
  refine ⟨q, rfl, _, d1, RJ.ld ht1 hi hm ⟨q, rfl, _, d1, RJ.ld ht1 hj hn ⟨q, rfl, _, d0, RJ.ld hs1 (j := (at0 l m).toNat) (by omega) (by omega) ⟨q, rfl, _, d0, RJ.ld hs1 (j := (at0 l n).toNat) (by omega) (by omega) ⟨fun b => ?_, fun b => ?_⟩⟩⟩⟩⟩
  · rw [if_pos b] at K1; exact K1
  · rw [if_neg (by rw [b]; simp)] at K1; exact K1
open Classical in
noncomputable def badQ (sc l : List Int) (i : Nat) : Bool := !(decide (0 ≤ at0 l i ∧ at0 l i < (sc.length : Int))) || (decide (∃ j, j < i ∧ at0 l j = at0 l i) || (decide (0 < i) && !(ai1 sc (at0 l ((i - 1) / 2)) (at0 l i))))
noncomputable def qB (sc l : List Int) : Bool := if (List.range l.length).any (badQ sc l) = true then false else !(sc.any outB)
theorem afz {q : Addr} {s : Sl} {sc : List Int} {v : Int} {Q : Bool → Heap → Prop} (c0 : cell? h (q.add 0) = some (Sl.toV s)) (hs : RJ' h s sc) (K : Q (decide (0 ≤ v ∧ v < (sc.length : Int))) h) : m6 (some q) v h Q := by
  have hlen := hs.len
  refine seq.dup ⟨fun b => ⟨q, rfl, _, c0, ?_⟩, fun b => ?_⟩
  · have b := of_decide_eq_true b
    show Q (decide (v < ((s.len : Nat) : Int))) h
    rw [hlen]
    have e : decide (v < (sc.length : Int)) = decide (0 ≤ v ∧ v < (sc.length : Int)) := by rw [decide_eq_decide]; exact ⟨fun h => ⟨b, h⟩, fun h => h.2⟩
    rw [e]; exact K
  · have b := of_decide_eq_false b
    rw [decide_eq_false (fun hh => b hh.1)] at K
    exact K
theorem aeo {q : Sl × Sl} {sc l : List Int} {Q : Bool → Heap → Prop} (hs : RJ' h q.1 sc) (ht : RJ' h q.2 l) (hsl : sc.length ≤ 1048576) (hll : l.length ≤ 1048576) (K : ∀ h', Ext h h' → Q (qB sc l) h') : jG q h Q := by
  refine tF fun b h1 c1 hb1 e1 n1 => MPg.new (toV := Value.bool) fun h2 m2 e2 n2 => ?_
  have k0 := (c1.cell 0 (by simp)).1
  have k1 := (c1.cell 1 (by simp)).1
  have e12 := e1.trans e2
  have hlen := ht.len
  refine ⟨q.2, ao e2 k1 (by simp), ?_⟩
  dsimp only
  rw [hlen]
  refine loop.inv (fun (s0 : Int) h' => ∃ i : Nat, s0 = (i : Int) ∧ i ≤ l.length ∧ Ext h1 h' ∧ (∃ g : Int → Option Bool, MPg Value.bool h' h1.size g ∧ ∀ k, (g k).getD false = true ↔ ∃ j, j < i ∧ at0 l j = k) ∧ ∀ j, j < i → badQ sc l j = false) (fun s0 _ => l.length - s0.toNat) ⟨0, rfl, Nat.zero_le _, e2, ⟨_, m2, fun k => ⟨fun h => by simp at h, fun ⟨j, hj, _⟩ => by omega⟩⟩, fun j hj => by omega⟩ ?_
  rintro _ h3 ⟨i, rfl, hi, e3, ⟨g, mg, hg⟩, hall⟩
  have e13 := e1.trans e3
  have hb1l : b.block < h1.size := by omega
  refine ⟨fun hlt => ?_, fun hge => ?_⟩
  · simp only [decide_eq_true_eq] at hlt
    have hil : i < l.length := by omega
    refine RJ.ld (R.ext ht e13) (j := i) rfl hil ?_
    have inr : ∀ j, j < i → 0 ≤ at0 l j ∧ at0 l j < (sc.length : Int) := fun j hj => by
      have := hall j hj
      unfold badQ at this
      rw [Bool.or_eq_false_iff] at this
      simpa using this.1
    refine seq.cut (fun (t : Bool) h' => Ext h3 h' ∧ t = badQ sc l i) ?_ ?_
    · refine afz (ao e3 k0 (by simp)) (R.ext hs e13) ⟨fun hn => ⟨Keep.refl _ _, ?_⟩, fun hn => ?_⟩
      · unfold badQ; rw [hn]; rfl
      have hn' : decide (0 ≤ at0 l i ∧ at0 l i < (sc.length : Int)) = true := by
        cases hh : decide (0 ≤ at0 l i ∧ at0 l i < (sc.length : Int)) with
        | true => rfl
        | false => rw [hh] at hn; cases hn
      have hv := of_decide_eq_true hn'
      refine mg.look (zero := false) ⟨fun hs2 => ⟨Keep.refl _ _, ?_⟩, fun hs2 => ?_⟩
      · have := (hg _).1 hs2
        unfold badQ; rw [hn', decide_eq_true this]; rfl
      have hns : ¬ ∃ j, j < i ∧ at0 l j = at0 l i := fun hh => by have := (hg _).2 hh; have hs2 : (g (at0 l i)).getD false = false := hs2; rw [hs2] at this; cases this
      refine ⟨fun hp => ?_, fun hp => ⟨Keep.refl _ _, ?_⟩⟩
      · have hp : 0 < i := by have := of_decide_eq_true hp; omega
        have hq : IntKind.wrap .i64 (Int.tdiv (IntKind.wrap .i64 ((i : Int) - 1)) 2) = (((i - 1) / 2 : Nat) : Int) := by
          have ed : ((i : Int) - 1) = ((i - 1 : Nat) : Int) := by omega
          rw [ed, w64 (n := ((i - 1 : Nat) : Int)) (by omega) (by omega), show (2 : Int) = ((2 : Nat) : Int) from rfl, ← Int.ofNat_tdiv, w64 (by omega) (by omega)]
        refine ahd (ao e3 k0 (by simp)) (ao e3 k1 (by simp)) (R.ext hs e13) (R.ext ht e13) hq rfl (by omega) hil (inr _ (by omega)) hv fun h4 e4 => ⟨e4, ?_⟩
        unfold badQ; rw [hn', decide_eq_false hns, decide_eq_true hp]; simp
      · have hp : ¬ 0 < i := by have := of_decide_eq_false hp; omega
        unfold badQ; rw [hn', decide_eq_false hns, decide_eq_false hp]; simp
    rintro t h4 ⟨e4, rfl⟩
    have e14 := e1.trans (e3.trans e4)
    refine ⟨fun hbad => ?_, fun hok => ?_⟩
    · have : (List.range l.length).any (badQ sc l) = true := List.any_eq_true.2 ⟨i, List.mem_range.2 hil, hbad⟩
      have := K h4 e14
      unfold qB at this
      rw [if_pos (by assumption)] at this
      exact this
    · refine (mg.keep e4 (by simp)).set fun h5 m5 k5 s5 => ?_
      rw [w64 (by omega) (by omega)]
      refine ⟨⟨i + 1, rfl, hil, (e3.trans e4).fresh (Nat.le_refl _) k5, ⟨_, m5, fun k => ?_⟩, fun j hj => ?_⟩, by omega⟩
      · constructor
        · intro hh
          by_cases e : k = at0 l i
          · exact ⟨i, by omega, e.symm⟩
          · rw [if_neg e] at hh
            obtain ⟨j, hj, he⟩ := (hg k).1 hh
            exact ⟨j, by omega, he⟩
        · rintro ⟨j, hj, he⟩
          by_cases e : k = at0 l i
          · rw [if_pos e]; rfl
          · rw [if_neg e]
            refine (hg k).2 ⟨j, ?_, he⟩
            by_cases eji : j = i
            · subst eji; exact absurd he.symm e
            · omega
      · by_cases eji : j = i
        · subst eji; exact hok
        · exact hall j (by omega)
  · simp only [decide_eq_false_iff_not] at hge
    have hil : i = l.length := by omega
    refine ⟨q.1, ao e3 k0 (by simp), ah8 (R.ext hs e13) hsl ?_⟩
    have : ¬ (List.range l.length).any (badQ sc l) = true := by
      rw [List.any_eq_true]
      rintro ⟨j, hj, hb⟩
      rw [hall j (by have := List.mem_range.1 hj; omega)] at hb; cases hb
    have := K h3 e13
    unfold qB at this
    rw [if_neg (by assumption)] at this
    exact this
structure UV where
  v : Int
  up : Bool
  e : Eg
  at_ : Int
def UQ (h : Heap) (y : U10) (u : UV) : Prop := y.1 = u.v ∧ EQ h (y.2.2.1, y.2.2.2.1, y.2.2.2.2.1, y.2.2.2.2.2.1, y.2.2.2.2.2.2.1, y.2.2.2.2.2.2.2.1, y.2.2.2.2.2.2.2.2.1) u.e ∧ y.2.2.2.2.2.2.2.2.2 = u.at_
theorem ahi {y : E7} {m : Eg} {Q : Bool → Heap → Prop} (ht : Tab h) (q : EQ h y m) (hs : szD m.2 ≤ 1000) (K : ∀ h', Ext h h' → Q (decide (m.1 = 0 → m.2 = (0, 0))) h') : nq y h Q := by
  obtain ⟨q1, q2⟩ := q
  have hz : 0 < h.size := by have := _root_.Go.Lift.R.lt ht rfl (by decide); omega
  have hs' := hs
  unfold szD at hs
  have both : ∀ {hh : Heap}, Ext h hh → ∀ {J : Bool → Heap → Prop}, (∀ h3, Ext h h3 → J true h3) → bq (y.2.1, y.2.2.1, y.2.2.2.1) hh fun v h1 => iteB v (bq (y.2.2.2.2.1, y.2.2.2.2.2.1, y.2.2.2.2.2.2) h1 fun v h2 => J v h2) (J false h1) := by
    intro hh e J HJ
    refine gQ (x := dA (eD y)) (R.ext ht e) (q2.ext e).a (by omega) fun h2 e2 => ⟨fun _ => ?_, fun h => by cases h⟩
    exact gQ (x := dB (eD y)) (R.ext ht (e.trans e2)) (q2.ext (e.trans e2)).b (by omega) fun h3 e3 => HJ h3 (e.trans (e2.trans e3))
  refine ak fun h1 e1 => ⟨fun h0 => ?_, fun h0 => ?_⟩
  · have h0 : m.1 = 0 := by rw [← q1]; simpa using h0
    have hcond : decide (m.1 = 0 → m.2 = (0, 0)) = decide (m.2 = (0, 0)) := by rw [decide_eq_decide]; simp [h0]
    rw [hcond] at K
    refine seq.dup (adL (x := eD y) (y := d0) (q2.ext e1) DQ.zero (by rw [wq]; omega) (by have := e1.size; omega) fun h2 e2 => ⟨fun hb => ?_, fun hb => ?_⟩)
    · rw [yv] at hb
      rw [hb] at K
      exact both (e1.trans e2) K
    · rw [yv] at hb
      rw [hb] at K
      exact K h2 (e1.trans e2)
  · have h0 : ¬ m.1 = 0 := by rw [← q1]; simpa using h0
    have hcond : decide (m.1 = 0 → m.2 = (0, 0)) = true := decide_eq_true fun h => absurd h h0
    rw [hcond] at K
    exact seq.dup (both e1 K)
def uD : UV := ⟨0, false, (0, (0, 0)), 0⟩
def ale (us : List UV) (i : Nat) : Int := if i = 0 then 0 else (us.getD (i - 1) uD).at_
def badU (nv nt : Nat) (us : List UV) (i : Nat) : Bool := decide ((us.getD i uD).v < 0) || (decide ((us.getD i uD).v ≥ (nv : Int)) || (decide ((us.getD i uD).at_ < ale us i) || (decide ((us.getD i uD).at_ ≥ (nt : Int)) || !(decide ((us.getD i uD).e.1 = 0 → (us.getD i uD).e.2 = (0, 0))))))
theorem ahy (x : Pt) (n1 n2 n3 n4 n5 n6 : Int) (h : Heap) (Q : Bool → Heap → Prop) : ja (mk33 x n1 n2 n3 n4 n5 n6) h Q = mem h fun h => loop (fun (s0 : Int × Int) h1 (K0 : (Int × Int) → Heap → Prop) =>
   iteB (decide (s0.2 < ((x.2.2.2.2.2.1.len : Nat) : Int))) (idxS x.2.2.2.2.2.1 s0.2 10 fun a => cg CU 10 a h1 fun v => mem h1 fun h2 =>
    seq (fun (K1 : Bool → Heap → Prop) => iteB (decide (v.1 < 0)) (K1 true h2) (iteB (decide (v.1 ≥ ((x.2.2.2.2.1.2.2.1.len : Nat) : Int))) (K1 true h2) (iteB (decide (v.2.2.2.2.2.2.2.2.2 < s0.1)) (K1 true h2) (iteB (decide (v.2.2.2.2.2.2.2.2.2 ≥ ((x.2.2.1.2.2.2.2.2.1.len : Nat) : Int))) (K1 true h2)
      (nq (v.2.2.1, v.2.2.2.1, v.2.2.2.2.1, v.2.2.2.2.2.1, v.2.2.2.2.2.2.1, v.2.2.2.2.2.2.2.1, v.2.2.2.2.2.2.2.2.1) h2 fun v1 h3 => K1 (!v1) h3))))) (fun t h3 => iteB t (Q false h3) (K0 (v.2.2.2.2.2.2.2.2.2, IntKind.wrap .i64 (s0.2 + 1)) h3))) (Q true h1)) (0, 0) h := by kernel_rfl
theorem aea {x : Pt} {n1 n2 n3 n4 n5 n6 : Int} {us : List UV} {nv nt : Nat} {Q : Bool → Heap → Prop} (ht : Tab h0) (e0 : Ext h0 h) (hu : RowQ CU 10 UQ h0 x.2.2.2.2.2.1 us) (hl : us.length ≤ 1000) (hz : ∀ u ∈ us, szD u.e.2 ≤ 1000) (hv : x.2.2.2.2.1.2.2.1.len = nv) (htr : x.2.2.1.2.2.2.2.2.1.len = nt)
    (K : ∀ h', Ext h h' → Q (!((List.range us.length).any (badU nv nt us))) h') : ja (mk33 x n1 n2 n3 n4 n5 n6) h Q := by
  rw [ahy]
  have hlen := hu.len
  rw [hlen, hv, htr]
  refine ak fun h1 e1 => ?_
  refine loop.inv (fun (s0 : Int × Int) h' => ∃ i : Nat, s0 = (ale us i, (i : Int)) ∧ i ≤ us.length ∧ Ext h h' ∧ ∀ j, j < i → badU nv nt us j = false) (fun s0 _ => us.length - s0.2.toNat) ⟨0, rfl, Nat.zero_le _, e1, fun j hj => by omega⟩ ?_
  rintro _ h2 ⟨i, rfl, hi, e2, hall⟩
  dsimp only
  refine ⟨fun hlt => ?_, fun hge => ?_⟩
  · simp only [decide_eq_true_eq] at hlt
    have hil : i < us.length := by omega
    refine hu.ldE (e0.trans e2) (i := (i : Int)) rfl hil fun y hy => ak fun h3 e3 => ?_
    have e23 := e2.trans e3
    have hg : us.getD i uD = us[i] := jw hil
    obtain ⟨y1, y2, y3⟩ := hy
    rw [← hg] at y1 y2 y3
    have hzi : szD (us.getD i uD).e.2 ≤ 1000 := by rw [hg]; exact hz _ (List.getElem_mem hil)
    refine seq.cut (fun (t : Bool) h' => Ext h h' ∧ t = badU nv nt us i) ?_ ?_
    · rw [y1, y3]
      unfold badU
      refine ⟨fun b => ⟨e23, by rw [b]; rfl⟩, fun b1 => ⟨fun b => ⟨e23, by rw [b1, b]; rfl⟩, fun b2 => ⟨fun b => ⟨e23, by rw [b1, b2, b]; rfl⟩, fun b3 => ⟨fun b => ⟨e23, by rw [b1, b2, b3, b]; rfl⟩, fun b4 => ?_⟩⟩⟩⟩
      refine ahi (R.ext ht (e0.trans e23)) (y2.ext (e0.trans e23)) hzi fun h4 e4 => ⟨e23.trans e4, ?_⟩
      rw [b1, b2, b3, b4]; rfl
    rintro t h4 ⟨e4, rfl⟩
    refine ⟨fun hbad => ?_, fun hok => ?_⟩
    · have := K h4 e4
      rw [List.any_eq_true.2 ⟨i, List.mem_range.2 hil, hbad⟩] at this
      exact this
    · rw [w64 (by omega) (by omega)]
      refine ⟨⟨i + 1, ?_, hil, e4, fun j hj => ?_⟩, by omega⟩
      · rw [y3]; unfold ale; rw [if_neg (by omega), Nat.add_sub_cancel]; rfl
      · by_cases eji : j = i
        · subst eji; exact hok
        · exact hall j (by omega)
  · simp only [decide_eq_false_iff_not] at hge
    have hil : i = us.length := by omega
    have := K h2 e2
    have hn : (List.range us.length).any (badU nv nt us) = false := by
      rw [List.any_eq_false]
      intro j hj
      rw [hall j (by have := List.mem_range.1 hj; omega)]; simp
    rw [hn] at this
    exact this
theorem ahP {s : Sl} {L : List Int} {v : Int} {Q : Bool → Heap → Prop} (hr : RJ' h s L) (hl : L.length ≤ 1048576) (K : Q (decide (v ∈ L)) h) : aC s v h Q := by
  have hlen := hr.len
  unfold aC cB
  refine loop.inv (fun (s0 : Int) hh => hh = h ∧ ∃ i : Nat, s0 = (i : Int) ∧ i ≤ L.length ∧ ∀ j, j < i → at0 L j ≠ v) (fun s0 _ => L.length - s0.toNat) ⟨rfl, 0, rfl, by omega, fun j hj => by omega⟩ ?_
  rintro _ hh ⟨rfl, i, rfl, hi, hall⟩
  rw [hlen]
  refine ⟨fun hlt => ?_, fun hge => ?_⟩
  · simp only [decide_eq_true_eq] at hlt
    have hil : i < L.length := by omega
    refine RJ.ld hr (j := i) rfl hil ⟨fun b => ?_, fun b => ?_⟩
    · rw [beq_iff_eq] at b
      have : v ∈ L := by rw [b, jV hil]; exact List.getElem_mem hil
      rw [decide_eq_true this] at K
      have e : decide ((i : Int) ≥ 0) = true := by simp
      rw [e]; exact K
    · rw [beq_eq_false_iff_ne] at b
      rw [w64 (by omega) (by omega)]
      refine ⟨⟨rfl, i + 1, rfl, hil, fun j hj => ?_⟩, by omega⟩
      by_cases e : j = i
      · subst e; exact fun h => b h.symm
      · exact hall j (by omega)
  · simp only [decide_eq_false_iff_not] at hge
    have hil : i = L.length := by omega
    have : ¬ v ∈ L := fun hm => by
      obtain ⟨j, hj, he⟩ := List.getElem_of_mem hm
      exact hall j (by omega) (by rw [jV hj]; exact he)
    rw [decide_eq_false this] at K
    exact K
def aer (vs hp : List Int) (i : Nat) : Bool := (at0 vs i == 0) && !(decide ((i : Int) ∈ hp))
theorem ai4 (x : Pt) (n1 n2 n3 n4 n5 n6 : Int) (h : Heap) (Q : Bool → Heap → Prop) : jc (mk33 x n1 n2 n3 n4 n5 n6) h Q = mem h fun h => loop (fun (s0 : Int) h1 (K0 : Int → Heap → Prop) =>
   iteB (decide (s0 < ((x.2.2.1.2.2.1.len : Nat) : Int))) (idxS x.2.2.1.2.2.1 s0 1 fun a => Lift.load (Value.int .i64) a h1 fun v => seq (fun (K1 : Bool → Heap → Prop) => iteB (v == 0) (wG x.2.2.2.1 s0 h1 fun v1 h3 => K1 (!v1) h3) (K1 false h1)) (fun t h2 => iteB t (Q false h2) (K0 (IntKind.wrap .i64 (s0 + 1)) h2))) (Q true h1)) 0 h := by kernel_rfl
theorem afh {x : Pt} {n1 n2 n3 n4 n5 n6 : Int} {vs hp : List Int} {Q : Bool → Heap → Prop} (e0 : Ext h0 h) (hv : RJ' h0 x.2.2.1.2.2.1 vs) (hq : RJ' h0 x.2.2.2.1.2 hp) (hl : vs.length ≤ 1048576) (hl2 : hp.length ≤ 1048576)
    (K : ∀ h', Ext h h' → Q (!((List.range vs.length).any (aer vs hp))) h') : jc (mk33 x n1 n2 n3 n4 n5 n6) h Q := by
  rw [ai4]
  have hlen := hv.len
  rw [hlen]
  refine ak fun h1 e1 => ?_
  refine loop.inv (fun (s0 : Int) h' => ∃ i : Nat, s0 = (i : Int) ∧ i ≤ vs.length ∧ Ext h h' ∧ ∀ j, j < i → aer vs hp j = false) (fun s0 _ => vs.length - s0.toNat) ⟨0, rfl, Nat.zero_le _, e1, fun j hj => by omega⟩ ?_
  rintro _ h2 ⟨i, rfl, hi, e2, hall⟩
  refine ⟨fun hlt => ?_, fun hge => ?_⟩
  · simp only [decide_eq_true_eq] at hlt
    have hil : i < vs.length := by omega
    refine RJ.ld (R.ext hv (e0.trans e2)) (j := i) rfl hil ?_
    refine seq.cut (fun (t : Bool) h' => Ext h h' ∧ t = aer vs hp i) ?_ ?_
    · unfold aer
      refine ⟨fun b => ak fun h3 e3 => ahP (R.ext hq (e0.trans (e2.trans e3))) hl2 ⟨e2.trans e3, by rw [b]; rfl⟩, fun b => ⟨e2, by rw [b]; rfl⟩⟩
    rintro t h4 ⟨e4, rfl⟩
    refine ⟨fun hbad => ?_, fun hok => ?_⟩
    · have := K h4 e4
      rw [List.any_eq_true.2 ⟨i, List.mem_range.2 hil, hbad⟩] at this
      exact this
    · rw [w64 (by omega) (by omega)]
      refine ⟨⟨i + 1, rfl, hil, e4, fun j hj => ?_⟩, by omega⟩
      by_cases eji : j = i
      · subst eji; exact hok
      · exact hall j (by omega)
  · simp only [decide_eq_false_iff_not] at hge
    have hil : i = vs.length := by omega
    have := K h2 e2
    have hn : (List.range vs.length).any (aer vs hp) = false := by
      rw [List.any_eq_false]
      intro j hj
      rw [hall j (by have := List.mem_range.1 hj; omega)]; simp
    rw [hn] at this
    exact this
end
end Go.Sh.Pk

namespace Go.Sh.Pk
open Go Go.Lift
def qOf (l : LR) : Rat := mkRat (Zn l.1 l.2.1) (Dn l.2.2)
def dOf (d : LD) : Rat × Rat := (qOf d.1, qOf d.2)
def pOf (p : LP) : Rat × PL := (qOf p.1, p.2.map fun m => (m.1, qOf m.2))
def eOf (e : LE) : Eg := (e.1, dOf e.2)
def aOf (a : LA) : AT := ⟨a.1, a.2.1, a.2.2.1, dOf a.2.2.2⟩
def uOf (u : LU) : UV := ⟨u.1, u.2.1, eOf u.2.2.1, u.2.2.2⟩
section
variable {h : Heap} {α β γ : Type} {enc : α → List Nat}
theorem RX.rq {x : Bool × Sl × Sl} {l : LR} (hx : RX h x l) : RQ h x (qOf l) := by
  obtain ⟨q, hq⟩ := hx.xl.isQ.2 hx.q
  have e := XR.qval hx.xl.x hq
  rw [hx.xl.neg] at e
  unfold qOf
  rw [← e]; exact hq
theorem RX.sz {x : Bool × Sl × Sl} {l : LR} (hx : RX h x l) : 4 * szQ (qOf l) + 17 ≤ (encR l).length := by
  obtain ⟨_, _, h1, _, h3⟩ := XR.rq hx.xl.x hx.rq
  rw [kA]
  have a1 := rP (k := l.2.1.length) hx.xl.x.lnum (Nat.le_refl _)
  have a2 := rP (k := l.2.2.length) hx.xl.x.lden (Nat.le_refl _)
  have e1 : (qOf l).num.natAbs = val 4294967296 l.2.1 := by rw [h1, aib]
  unfold szQ
  rw [e1, ← h3]
  omega
theorem DX.dq {x : X6} {d : LD} (hx : DX h x d) : DQ h x (dOf d) := ⟨hx.1.rq, hx.2.rq⟩
theorem DX.sz {x : X6} {d : LD} (hx : DX h x d) : 4 * szD (dOf d) + 34 ≤ (encD d).length := by
  have a := hx.1.sz; have b := hx.2.sz
  unfold encD szD dOf
  rw [List.length_append]
  dsimp only
  omega
theorem All2.mapR {R : β → α → Prop} {S : β → γ → Prop} {g : α → γ} {l : List β} {m : List α} (h : All2 R l m) (hR : ∀ y v, R y v → S y (g v)) : All2 S l (m.map g) := by
  induction h with
  | nil => exact .nil
  | cons h _ ih => exact .cons (hR _ _ h) ih
theorem RowQ.map {toC : β → List Value} {sz : Nat} {R : Heap → β → α → Prop} {S : Heap → β → γ → Prop} {g : α → γ} {s : Sl} {ms : List α} (q : RowQ toC sz R h s ms) (hR : ∀ y v, R h y v → S h y (g v)) : RowQ toC sz S h s (ms.map g) := by
  obtain ⟨c, ys, r, a⟩ := q
  exact ⟨c, ys, r, All2.mapR a hR⟩
theorem RowQ.all {toC : β → List Value} {sz : Nat} {R : Heap → β → α → Prop} {S : α → Prop} {s : Sl} {ms : List α} (q : RowQ toC sz R h s ms) (hR : ∀ y v, R h y v → S v) : ∀ m ∈ ms, S m := by
  obtain ⟨c, ys, r, a⟩ := q
  clear r c
  induction a with
  | nil => intro m hm; simp at hm
  | cons h _ ih => intro m hm; rcases List.mem_cons.1 hm with rfl | hm; exact hR _ _ h; exact ih m hm
theorem PX.pq {x : X4} {p : LP} (hx : PX h x p) : PQ h x (pOf p) := by
  obtain ⟨c, ys, r, a⟩ := hx.2
  refine ⟨hx.1.rq, MK.of_all r c ?_⟩
  exact All2.mapR a (g := fun m : LM => (m.1, qOf m.2)) fun y m hm => ⟨hm.1, hm.2.rq⟩
theorem EX.eq {x : E7} {e : LE} (hx : EX h x e) : EQ h x (eOf e) := ⟨hx.1, hx.2.dq⟩
theorem AX.aq {x : A9} {a : LA} (hx : AX h x a) : AQ h x (aOf a) := ⟨hx.1, hx.2.1, hx.2.2.1, hx.2.2.2.dq⟩
theorem UX.uq {x : U10} {u : LU} (hx : UX h x u) : UQ h x (uOf u) := ⟨hx.1, hx.2.2.1.eq, hx.2.2.2⟩
theorem aeY (v : α) (l : List α) : (eN enc (v :: l)).length = (enc v).length + (eN enc l).length := by unfold eN; simp
theorem su {v : α} {l : List α} (hv : v ∈ l) : (enc v).length ≤ (eN enc l).length := by
  induction l with
  | nil => simp at hv
  | cons w l ih => rw [aeY]; rcases List.mem_cons.1 hv with rfl | hv; omega; have := ih hv; omega
theorem eN_k {l : List α} {k : Nat} (hk : ∀ v, k ≤ (enc v).length) : k * l.length ≤ (eN enc l).length := by
  induction l with
  | nil => simp
  | cons w l ih => rw [aeY, List.length_cons, Nat.mul_add, Nat.mul_one]; have := hk w; omega
theorem aj0 {f : α → Nat} {l : List α} (hf : ∀ m ∈ l, 4 * f m ≤ (enc m).length) : 4 * (l.map f).sum ≤ (eN enc l).length := by
  induction l with
  | nil => simp
  | cons w l ih =>
    rw [aeY, List.map_cons, List.sum_cons]
    have h1 := hf w (List.mem_cons_self ..)
    have h2 := ih fun m hm => hf m (List.mem_cons_of_mem _ hm)
    omega
theorem akt {l : List α} (f g : α → Nat) : (l.map fun x => f x + g x).sum = (l.map f).sum + (l.map g).sum := by
  induction l with
  | nil => rfl
  | cons x l ih => simp only [List.map_cons, List.sum_cons]; omega
theorem alc (g : Nat → Nat) : ∀ (n : Nat) (l : List Nat), l.Pairwise (· < ·) → (∀ x ∈ l, x < n) → (l.map g).sum ≤ ((List.range n).map g).sum := by
  intro n
  induction n with
  | zero =>
    intro l _ h
    cases l with
    | nil => simp
    | cons x l => have := h x (List.mem_cons_self ..); omega
  | succ n ih =>
    intro l hp h
    rw [List.range_succ, List.map_append, List.sum_append]
    by_cases hl : l = []
    · subst hl; simp
    obtain ⟨l', x, rfl⟩ : ∃ l' x, l = l' ++ [x] := ⟨_, _, (List.dropLast_concat_getLast hl).symm⟩
    rw [List.map_append, List.sum_append]
    rw [List.pairwise_append] at hp
    have hx := h x (by simp)
    have hl' : ∀ y ∈ l', y < x := fun y hy => hp.2.2 y hy x (by simp)
    by_cases e : x = n
    · subst e
      have := ih l' hp.1 hl'
      simp only [List.map_cons, List.map_nil] at *
      omega
    · have := ih (l' ++ [x]) (List.pairwise_append.2 hp) fun y hy => by
        rcases List.mem_append.1 hy with hy | hy
        · have := hl' y hy; omega
        · simp at hy; omega
      rw [List.map_append, List.sum_append] at this
      omega
theorem aih {vs : DL} : ((List.range vs.length).map fun i => szD (vs.getD i (0, 0))).sum = (vs.map szD).sum := by
  congr 1
  refine List.ext_getElem (by simp) fun i h1 h2 => ?_
  have hi : i < vs.length := by simpa using h2
  simp [List.getD_eq_getElem?_getD, List.getElem?_eq_getElem hi]
theorem akR {l : PL} {vs : DL} (hs : Rt (0, l) ∨ ∃ c, Rt (c, l)) (hv : ∀ m ∈ l, m.1 < (vs.length : Int)) : (l.map fun m => szD (atD vs m.1)).sum ≤ (vs.map szD).sum := by
  obtain ⟨c, hr⟩ : ∃ c, Rt (c, l) := hs.elim (fun h => ⟨0, h⟩) id
  have hsrt : l.Pairwise fun a b => a.1 < b.1 := hr.srt
  have hnn : ∀ m ∈ l, 0 ≤ m.1 := hr.nn
  have e : (l.map fun m => szD (atD vs m.1)) = ((l.map fun m => m.1.toNat).map fun i => szD (vs.getD i (0, 0))) := by rw [List.map_map]; rfl
  rw [e, ← aih]
  refine alc _ _ _ ?_ ?_
  · rw [List.pairwise_map]
    refine hsrt.imp_of_mem fun {a b} ha hb hab => ?_
    have := hnn a ha; have := hnn b hb
    omega
  · intro x hx
    obtain ⟨m, hm, rfl⟩ := List.mem_map.1 hx
    have := hv m hm; have := hnn m hm
    omega
theorem PX.fit {x : X4} {p : LP} (hx : PX h x p) (hl : (eP p).length ≤ 3000) : PFit (pOf p) ∧ 4 * ((pOf p).2.map fun m => szQ m.2 + 4).sum ≤ (eN eM p.2).length := by
  have hm : ∀ m ∈ p.2, 4 * (szQ (qOf m.2) + 4) ≤ (eM m).length := by
    refine RowQ.all (S := fun m : LM => 4 * (szQ (qOf m.2) + 4) ≤ (eM m).length) hx.2 fun y m hm => ?_
    have := hm.2.sz
    unfold eM encI
    rw [List.length_append, aF]
    omega
  have hc := hx.1.sz
  have he : (eP p).length = (encR p.1).length + (8 + (eN eM p.2).length) := by unfold eP; rw [List.length_append, fu]
  have hk := eN_k (enc := eM) (l := p.2) (k := 8) fun v => by unfold eM encI; rw [List.length_append, aF]; omega
  refine ⟨⟨?_, ?_, ?_⟩, ?_⟩
  · show (p.2.map _).length ≤ 1000
    rw [List.length_map]; omega
  · show szQ (qOf p.1) ≤ 1000; omega
  · intro m hm'
    obtain ⟨m0, h0, rfl⟩ := List.mem_map.1 hm'
    have h1 := hm m0 h0
    have h2 := su (enc := eM) h0
    show szQ (qOf m0.2) ≤ 1000
    omega
  · have e : ((pOf p).2.map fun m => szQ m.2 + 4) = p.2.map fun m => szQ (qOf m.2) + 4 := by unfold pOf; rw [List.map_map]; rfl
    rw [e]
    exact aj0 (enc := eM) hm
theorem PsX.fit {s : Sl} {ps : List LP} (hx : PsX h s ps) (hl : (encL eP ps).length ≤ 3000) : ∀ p ∈ ps, PFit (pOf p) ∧ 4 * ((pOf p).2.map fun m => szQ m.2 + 4).sum ≤ 3000 ∧ ∃ y, PX h y p := by
  rw [fu] at hl
  intro p hp
  have h1 := su (enc := eP) hp
  obtain ⟨y, hy⟩ := RowQ.all (S := fun p => ∃ y, PX h y p) hx (fun y v hv => ⟨y, hv⟩) p hp
  obtain ⟨f1, f2⟩ := hy.fit (by omega)
  have he : (eP p).length = (encR p.1).length + (8 + (eN eM p.2).length) := by unfold eP; rw [List.length_append, fu]
  exact ⟨f1, by omega, y, hy⟩
theorem iu {l : List α} {k : Nat} (hk : ∀ v, k ≤ (enc v).length) : k * l.length + 8 ≤ (encL enc l).length := by rw [fu]; have := eN_k (enc := enc) (l := l) hk; omega
theorem fg (l : List Int) : 8 * l.length + 8 ≤ (j8 l).length := iu fun v => by unfold encI; rw [aF]; exact Nat.le_refl _
def tOf (v : LTb) : TT := ⟨v.1, v.2.1.map pOf, v.2.2.1.map dOf, v.2.2.2.1.map eOf, v.2.2.2.2.map eOf⟩
theorem DX.all {s : Sl} {ds : List LD} (hx : RowQ C6 6 DX h s ds) : ∀ d ∈ ds, 4 * szD (dOf d) + 34 ≤ (encD d).length := RowQ.all (S := fun d : LD => 4 * szD (dOf d) + 34 ≤ (encD d).length) hx fun _ _ h => h.sz
theorem EX.all {s : Sl} {es : List LE} (hx : RowQ C7 7 EX h s es) (hl : (encL eE es).length ≤ 3000) : ∀ e ∈ es.map eOf, szD e.2 ≤ 1000 := by
  intro e he
  obtain ⟨e0, h0, rfl⟩ := List.mem_map.1 he
  have h1 := RowQ.all (S := fun e : LE => 4 * szD (dOf e.2) + 34 ≤ (eE e).length) hx (fun _ _ h => by have := h.2.sz; unfold eE; rw [List.length_append]; omega) e0 h0
  have h2 := su (enc := eE) h0
  rw [fu] at hl
  show szD (dOf e0.2) ≤ 1000
  omega
theorem TbX.tq {x : S5} {v : LTb} (hx : TbX h x v) : TQ h x (tOf v) :=
  ⟨hx.1, RowQ.map hx.2.1 fun _ _ h => h.pq, RowQ.map hx.2.2.1 fun _ _ h => h.dq, RowQ.map hx.2.2.2.1 fun _ _ h => h.eq, RowQ.map hx.2.2.2.2 fun _ _ h => h.eq⟩
theorem TbX.fit {x : S5} {v : LTb} (hx : TbX h x v) (hl : (eTb v).length ≤ 3000) : TFit (tOf v) := by
  obtain ⟨x1, x2, x3, x4, x5⟩ := hx
  unfold eTb at hl
  simp only [List.length_append] at hl
  have n1 := fg v.1
  have n2 := iu (enc := eP) (l := v.2.1) (k := 17) fun v => by unfold eP; rw [List.length_append, kA]; omega
  have n3 := iu (enc := encD) (l := v.2.2.1) (k := 34) fun v => by unfold encD; rw [List.length_append, kA, kA]; omega
  have n4 := iu (enc := eE) (l := v.2.2.2.1) (k := 8) fun v => by unfold eE encI; rw [List.length_append, aF]; omega
  have n5 := iu (enc := eE) (l := v.2.2.2.2) (k := 8) fun v => by unfold eE encI; rw [List.length_append, aF]; omega
  have fp := PsX.fit x2 (by omega)
  have fd := DX.all x3
  have l3 : (encL encD v.2.2.1).length = 8 + (eN encD v.2.2.1).length := fu _
  have hsum : 4 * ((v.2.2.1.map dOf).map szD).sum ≤ (eN encD v.2.2.1).length := by
    rw [List.map_map]
    exact aj0 (enc := encD) fun d hd => by have := fd d hd; simp only [Function.comp]; omega
  refine ⟨?_, ?_, ?_, ?_, EX.all x4 (by omega), EX.all x5 (by omega), ?_, ?_, ?_, ?_, ?_, ?_⟩
  · intro p hp
    obtain ⟨p0, h0, rfl⟩ := List.mem_map.1 hp
    exact (fp p0 h0).1.n
  · intro p hp
    obtain ⟨p0, h0, rfl⟩ := List.mem_map.1 hp
    exact (fp p0 h0).1.c
  · intro p hp
    obtain ⟨p0, h0, rfl⟩ := List.mem_map.1 hp
    exact (fp p0 h0).1.m
  · intro d hd
    obtain ⟨d0, h0, rfl⟩ := List.mem_map.1 hd
    have h1 := fd d0 h0
    have h2 := su (enc := encD) h0
    omega
  · show v.1.length ≤ 1000; omega
  · show (v.2.1.map pOf).length ≤ 1000; rw [List.length_map]; omega
  · show (v.2.2.1.map dOf).length ≤ 1000; rw [List.length_map]; omega
  · show (v.2.2.2.1.map eOf).length ≤ 1000; rw [List.length_map]; omega
  · show (v.2.2.2.2.map eOf).length ≤ 1000; rw [List.length_map]; omega
  · intro p hp hr hm
    obtain ⟨p0, h0, rfl⟩ := List.mem_map.1 hp
    have h1 := (fp p0 h0).2.1
    have h2 := akR (l := (pOf p0).2) (vs := (tOf v).vs) (.inr ⟨_, hr⟩) hm
    have h3 : wsum (atD (tOf v).vs) (pOf p0).2 = ((pOf p0).2.map fun m => szQ m.2 + 4).sum + ((pOf p0).2.map fun m => szD (atD (tOf v).vs m.1)).sum := by
      rw [← akt]; unfold wsum
      congr 1
      refine List.map_congr_left fun m _ => ?_
      omega
    have h4 : ((tOf v).vs.map szD).sum = ((v.2.2.1.map dOf).map szD).sum := rfl
    omega
theorem ProbX.pbx {x : S7} {v : afj} (hx : ProbX h x v) (hl : (aak v).length ≤ 3000) : PBX h x (v.2.2.1.map pOf) (v.2.2.2.1.map aOf) v.2.2.2.2.1 := by
  obtain ⟨x1, x2, x3, x4, x5, x6, x7⟩ := hx
  unfold aak at hl
  simp only [List.length_append] at hl
  have n2 := iu (enc := eP) (l := v.2.2.1) (k := 17) fun v => by unfold eP; rw [List.length_append, kA]; omega
  have n3 := iu (enc := eA) (l := v.2.2.2.1) (k := 8) fun v => by unfold eA encI; rw [List.length_append, aF]; omega
  have n4 : 8 * v.2.2.2.2.1.length + 8 ≤ (eLL v.2.2.2.2.1).length := iu (enc := j8) fun v => by have := fg v; omega
  have fp := PsX.fit x3 (by omega)
  refine ⟨RowQ.map x3 fun _ _ h => h.pq, RowQ.map x4 fun _ _ h => h.aq, x5, by rw [List.length_map]; omega, by rw [List.length_map]; omega, by omega, ?_, ?_, ?_⟩
  · intro p hp
    obtain ⟨p0, h0, rfl⟩ := List.mem_map.1 hp
    exact (fp p0 h0).1
  · intro a ha
    obtain ⟨a0, h0, rfl⟩ := List.mem_map.1 ha
    have h1 := RowQ.all (S := fun a : LA => 4 * szD (dOf a.2.2.2) + 34 ≤ (eA a).length) x4 (fun _ _ h => by have := h.2.2.2.sz; unfold eA; simp only [List.length_append]; omega) a0 h0
    have h2 := su (enc := eA) h0
    rw [fu] at n3 hl
    show szD (dOf a0.2.2.2) ≤ 1000
    rw [fu (enc := eA)] at hl
    omega
  · intro xs hxs
    have h2 := su (enc := j8) hxs
    have h3 := fg xs
    have h4 : (eLL v.2.2.2.2.1).length = 8 + (eN j8 v.2.2.2.2.1).length := fu _
    omega
end
end Go.Sh.Pk
