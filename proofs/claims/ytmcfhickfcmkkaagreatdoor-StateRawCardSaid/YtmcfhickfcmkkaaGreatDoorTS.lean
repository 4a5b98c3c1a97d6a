/-
  Laws that the proof of this claim's statement leans on, each proved under the conditions that it states.
-/
import Derived.Test.YtmcfhickfcmkkaaGreatDoorTR
import Derived.Test.YtmcfhickfcmkkaaGreatDoorTB
import Derived.Test.YtmcfhickfcmkkaaGreatDoorSK
import Derived.Test.YtmcfhickfcmkkaaGreatDoorBB
set_option linter.unusedVariables false
set_option linter.unusedSimpArgs false
namespace Go.Sh.Pk
open Go Go.Lift
def aj2 (v : afj) : Prop := v.2.2.2.2.2.1.length = v.2.2.2.2.2.2.length ∧ ∀ p ∈ v.2.2.2.2.2.2, Rt (pOf p)
section
variable {h h0 : Heap}
theorem agC {x : S7} {v : afj} {Q : Bool → Heap → Prop} (ht : Tab h0) (e0 : Ext h0 h) (hx : ProbX h0 x v) (hl : (aak v).length ≤ 3000) (K : ∀ b h', Ext h h' → (b = true ↔ aj2 v) → Q b h') : nO x h Q := by
  obtain ⟨x1, x2, x3, x4, x5, x6, x7⟩ := hx
  simp only [aak, List.length_append] at hl
  have hlen := x7.len
  have hll := x6.len
  have fp := PsX.fit x7 (by omega)
  have hcnt := iu (enc := eP) (l := v.2.2.2.2.2.2) (k := 17) fun v => by unfold eP; rw [List.length_append, kA]; omega
  have hpq : RowQ CP 4 PQ h0 x.2.2.2.2.2.2 (v.2.2.2.2.2.2.map pOf) := RowQ.map x7 fun _ _ h => h.pq
  refine ak fun h1 e1 => seq.dup ⟨fun b => ?_, fun b => ?_⟩
  · have b : v.2.2.2.2.2.1.length = v.2.2.2.2.2.2.length := by
      have := beq_iff_eq.1 b
      rw [hlen, hll] at this; omega
    open Classical in
    refine anyI (Q := fun v h => Q (!v) h) (body := fun s0 h0 R => idxS x.2.2.2.2.2.2 s0 4 fun a => cg CP 4 a h0 fun v => md (v.1, v.2.1, v.2.2.1, v.2.2.2) h0 R) (n := v.2.2.2.2.2.2.length) (len := ((x.2.2.2.2.2.2.len : Nat) : Int)) (J := fun _ h' => Ext h h') (p := fun i => !(decide (Rt ((v.2.2.2.2.2.2.map pOf).getD i (0, []))))) (by rw [hlen]) (by omega) e1 (fun i h' hi hI R hR => ?_) fun h' i hI => ?_
    · have hi2 : i < (v.2.2.2.2.2.2.map pOf).length := by rw [List.length_map]; exact hi
      refine hpq.ldE (e0.trans hI) (i := (i : Int)) rfl hi2 fun y hy => ak fun h2 e2 => ?_
      have hfit : PFit (v.2.2.2.2.2.2.map pOf)[i] := by rw [List.getElem_map]; exact (fp _ (List.getElem_mem hi)).1
      refine adX (x := y) ht ((e0.trans hI).trans e2) hy hfit fun b h3 hb e3 => ?_
      have := hR h3 (hI.trans (e2.trans e3))
      rw [jw hi2] at this
      have eb : b = decide (Rt (v.2.2.2.2.2.2.map pOf)[i]) := by
        cases b
        · exact (decide_eq_false fun hh => by cases hb.2 hh).symm
        · exact (decide_eq_true (hb.1 rfl)).symm
      rw [← eb] at this
      exact this
    · refine K _ h' hI ?_
      rw [Bool.not_eq_true', List.any_eq_false]
      constructor
      · intro hh
        refine ⟨b, fun p hp => ?_⟩
        obtain ⟨j, hj, rfl⟩ := List.getElem_of_mem hp
        have := hh j (List.mem_range.2 hj)
        rw [jw (by rw [List.length_map]; exact hj), List.getElem_map] at this
        simpa using this
      · rintro ⟨_, hh⟩ j hj
        have hj := List.mem_range.1 hj
        rw [jw (by rw [List.length_map]; exact hj), List.getElem_map]
        have := hh _ (List.getElem_mem hj)
        simp [this]
  · refine K false h1 e1 ⟨nofun, fun hh => ?_⟩
    rw [hlen, hll, hh.1] at b
    simp at b
abbrev z33 : S33 := (0, 0, Sl.nil, Sl.nil, Sl.nil, Sl.nil, Sl.nil, 0, 0, Sl.nil, Sl.nil, Sl.nil, Sl.nil, Sl.nil, Sl.nil, Sl.nil, 0, Sl.nil, Sl.nil, Sl.nil, Sl.nil, Sl.nil, Sl.nil, Sl.nil, Sl.nil, 0, Sl.nil, 0, 0, 0, 0, 0, 0)
abbrev prS (s : S33) : S7 := (s.1, s.2.1, s.2.2.1, s.2.2.2.1, s.2.2.2.2.1, s.2.2.2.2.2.1, s.2.2.2.2.2.2.1)
theorem ahv (b : Sl) (h : Heap) (Q : S33 × Int → Heap → Prop) : eX b h Q = mem h fun h => xn b h fun v h => mem h fun h => aR v h fun v1 h => iteB (v1 != 1) (Q (z33, 3) h) (jI v h fun s h => mem h fun h =>
   seq (fun (K : Bool → Heap → Prop) => lM v h fun d h1 => iteB (d != 0) (K true h1) (nO (prS s) h1 fun n h2 => iteB (!n) (K true h2) (fO s h2 fun r h3 => K (!r) h3))) fun t h1 => iteB t (Q (z33, 3) h1) (Q (s, 0) h1)) := by kernel_rfl
def akO (bs : List Nat) : Prop := ∀ r1 v, pI bs = some (1, r1) → pW r1 = some (v, []) → aj2 v.1.1 → ∃ hb x n1 n2 n3 n4 n5 n6, PtX hb x v.1 ∧ v.2 = [n1, n2, n3, n4, n5, n6] ∧ yZ x v.1 n1 n2 n3 n4 n5 n6 = false
theorem rH {b : Sl} {bs : List Nat} {Q : S33 × Int → Heap → Prop} (ht : Tab h0) (e0 : Ext h0 h) (hr : RI .u8 h b bs) (hlim : Lim 256 bs) (hl : bs.length ≤ 3000)
    (K1 : akO bs → ∀ h', Ext h h' → Q (z33, 3) h')
    (K2 : ∀ hb x v n1 n2 n3 n4 n5 n6 h', Ext h hb → Ext hb h' → PtX hb x v → bs = bsBE 8 1 ++ eW (v, [n1, n2, n3, n4, n5, n6]) → (∃ r1, pI bs = some (1, r1) ∧ pW r1 = some ((v, [n1, n2, n3, n4, n5, n6]), [])) → (eV v).length ≤ 3000 → yZ x v n1 n2 n3 n4 n5 n6 = true → Q (mk33 x n1 n2 n3 n4 n5 n6, 0) h') : eX b h Q := by
  rw [ahv]
  have hz : 0 < h0.size := by have := _root_.Go.Lift.R.lt ht rfl (by decide); omega
  have hs0 := e0.size
  refine ak fun h1 e1 => yo (R.ext hr e1) (by omega) fun r h2 hr2 e2 hb2 => tF fun a h3 c3 ha e3 n3 => ?_
  have hs1 := e1.size; have hs2 := e2.size
  have k0 := (c3.cell 0 (by simp)); have k1 := (c3.cell 1 (by simp))
  have pj : PJ h0 a 0 h3.size h3 (some bs) := by
    refine ⟨⟨c3.spot, ⟨r, k0.1, k1.1, R.ext hr2 e3, ?_, ?_, fun b hb => ?_⟩, k0.2, k1.2, by omega, by omega, by omega, Nat.le_refl _, hlim, ?_⟩, ((e0.trans e1).trans e2).trans e3, ht, by omega, by omega⟩
    · intro hh; have := (hb2 _ hh).2; omega
    · intro hh; have := (hb2 _ hh).1; omega
    · have := (hb2 _ hb).2; omega
    · show bs.length ≤ 1000000; omega
  have e03 := (e1.trans e2).trans e3
  have han : h.size ≤ a.block := by omega
  refine ak fun h4 e4 => ts_I (pj.ext e4) fun v1 h5 p5 k5 d5 => ?_
  have e05 : Ext h h5 := fI (e03.trans e4) k5 fun b hb => by cases hb; exact han
  refine ⟨fun hne => K1 (fun r1 v hp _ => ?_) h5 e05, fun heq => ?_⟩
  · have := (d5 1 r1 hp).now
    rw [this] at hne; cases hne
  have heq : v1 = 1 := by simpa [bne] using heq
  subst heq
  refine ajQ p5 fun s h6 p6 k6 d6 => ak fun h7 e7 => ?_
  have e57 : Ext h h7 := (fI e05 k6 fun b hb => by cases hb; exact han).trans e7
  refine seq.cut (fun t h' => Ext h7 h' ∧ (t = true → akO bs) ∧ (t = false → ∃ x v n1 n2 n3 n4 n5 n6, s = mk33 x n1 n2 n3 n4 n5 n6 ∧ PtX h7 x v ∧ bs = bsBE 8 1 ++ eW (v, [n1, n2, n3, n4, n5, n6]) ∧ (∃ r1, pI bs = some (1, r1) ∧ pW r1 = some ((v, [n1, n2, n3, n4, n5, n6]), [])) ∧ (eV v).length ≤ 3000 ∧ yZ x v n1 n2 n3 n4 n5 n6 = true)) ?_ ?_
  · refine aik (p6.ext e7).p ⟨fun hne => ⟨Keep.refl _ _, fun _ r1 v hp hw => ?_, nofun⟩, fun heq => ?_⟩
    · have n1 : nx pI (some bs) = some r1 := by unfold nx; rw [Option.bind_some, hp]; rfl
      have n2 : nx pW (some r1) = some [] := by unfold nx; rw [Option.bind_some, hw]; rfl
      rw [n1, n2] at hne
      simp at hne
    have hst : nx pW (nx pI (some bs)) = some [] := by
      by_cases hh : nx pW (nx pI (some bs)) = some []
      · exact hh
      · rw [if_neg hh] at heq; cases heq
    obtain ⟨w, r1, hp⟩ : ∃ w r1, pI bs = some (w, r1) := by
      cases hp : pI bs with
      | none => have : nx pI (some bs) = none := by unfold nx; rw [Option.bind_some, hp]; rfl
                rw [this] at hst; cases hst
      | some y => exact ⟨y.1, y.2, rfl⟩
    have hw1 : (1 : Int) = w := (d5 w r1 hp).now
    subst hw1
    have n1 : nx pI (some bs) = some r1 := by unfold nx; rw [Option.bind_some, hp]; rfl
    rw [n1] at hst d6
    obtain ⟨v, hw⟩ : ∃ v, pW r1 = some (v, []) := by
      cases hw : pW r1 with
      | none => have : nx pW (some r1) = none := by unfold nx; rw [Option.bind_some, hw]; rfl
                rw [this] at hst; cases hst
      | some y =>
        have : nx pW (some r1) = some y.2 := by unfold nx; rw [Option.bind_some, hw]; rfl
        rw [this] at hst
        have hy := Option.some.inj hst
        exact ⟨y.1, by rw [← hy]⟩
    have hW : WX h7 s v := (d6 v [] hw).to e7
    have hbs1 := ai6 bs 1 r1 hlim hp
    have hl1 : Lim 256 r1 := fun y hy => hlim y (by rw [hbs1]; exact List.mem_append_right _ hy)
    have hbs2 := amE r1 v [] hl1 hw
    rw [List.append_nil] at hbs2
    have e1b : encI 1 = bsBE 8 1 := rfl
    rw [hbs2, e1b] at hbs1
    have uniq : ∀ r1' v', pI bs = some (1, r1') → pW r1' = some (v', []) → v' = v := by
      intro r1' v' g1 g2
      rw [hp] at g1
      cases g1
      rw [hw] at g2
      cases g2
      rfl
    obtain ⟨x, n1, n2, n3, n4, n5, n6, rfl, hpt, hv⟩ := hW
    obtain ⟨v, ns⟩ := v
    dsimp only at hpt hv
    subst hv
    have hlen : (eV v).length ≤ 3000 ∧ (aak v.1).length ≤ 3000 := by
      have := congrArg List.length hbs1
      rw [List.length_append, aF] at this
      simp only [eW, List.length_append] at this
      have h2 : (aak v.1).length ≤ (eV v).length := by unfold eV; rw [List.length_append]; omega
      omega
    have et7 : Tab h7 := R.ext ht (e0.trans e57)
    refine agC (x := x.1) (v := v.1) et7 (Keep.refl _ _) hpt.pr hlen.2 fun b h8 e8 hb => ⟨fun hno => ⟨e8, fun _ r1' v' g1 g2 g3 => ?_, nofun⟩, fun hyes => ?_⟩
    · rw [uniq r1' v' g1 g2] at g3
      rw [hb.2 g3] at hno; cases hno
    refine adt et7 e8 hpt hlen.1 fun h9 e9 => ⟨e8.trans e9, fun hbad r1' v' g1 g2 _ => ?_, fun hgood => ?_⟩
    · rw [uniq r1' v' g1 g2]
      exact ⟨h7, x, n1, n2, n3, n4, n5, n6, hpt, rfl, by simpa using hbad⟩
    · exact ⟨x, v, n1, n2, n3, n4, n5, n6, rfl, hpt, hbs1, ⟨r1, hp, hw⟩, hlen.1, by simpa using hgood⟩
  rintro t h8 ⟨e8, hbad, hgood⟩
  refine ⟨fun ht1 => K1 (hbad ht1) h8 (e57.trans e8), fun hf => ?_⟩
  obtain ⟨x, v, n1, n2, n3, n4, n5, n6, rfl, hpt, g1, g0, g2, g3⟩ := hgood hf
  exact K2 h7 x v n1 n2 n3 n4 n5 n6 h8 e57 e8 hpt g1 g0 g2 g3
def law1 (b : Sl) (r : S33 × Int) (h : Heap) (K : Bool → Heap → Prop) : Prop := iteB (r.2 == 0) (yM b h fun v4 => jx r.1 h fun v5 h6 => ajr b h6 v4 ∧ yM v5 h6 fun v6 => iteB (v6.toList == v4.toList) (fO r.1 h6 fun v7 h7 => K v7 h7) (K false h6)) (K false h)
theorem alQ (b : Sl) (h : Heap) (Q : Bool → Heap → Prop) : jL b h Q = iX h fun v h => iteB (!v) (Q false h) (iteB (decide (((b.len : Nat) : Int) > 3000)) (Q true h) (new [] h fun a h => aP 1 1 (⟨some a, 0, 0⟩ : Sl) b h fun c h => eX c h fun r h => mem h fun h => seq (fun (K : Bool → Heap → Prop) => iteB (r.2 == 3) (iteB (r.1.1 == 0) (K true h) (law1 b r h K)) (law1 b r h K)) fun t h => Q t h)) := by kernel_rfl
theorem ai8 (SP : ∀ {h : Heap} {Q : Bool → Heap → Prop}, Tab h → (∀ h', Ext h h' → Q true h') → iX h Q) {b : Sl} {bs : List Nat} {Q : Bool → Heap → Prop} (ht : Tab h) (hr : RI .u8 h b bs) (hlim : Lim 256 bs) (K : ∀ h', Ext h h' → Q true h') : jL b h Q := by
  rw [alQ]
  refine SP ht fun h1 e1 => ⟨nofun, fun _ => ⟨fun _ => K h1 e1, fun hle => ?_⟩⟩
  have hlen := hr.len
  have hl : bs.length ≤ 3000 := by have := of_decide_eq_false hle; omega
  refine aig (R.ext hr e1) (by omega) fun c h2 hc e2 _ => ?_
  have e02 := e1.trans e2
  refine rH (h0 := h) ht e02 hc hlim hl (fun _ h3 e3 => ak fun h4 e4 => seq.dup ⟨fun _ => ⟨fun _ => K h4 ((e02.trans e3).trans e4), nofun⟩, nofun⟩) fun hb x v n1 n2 n3 n4 n5 n6 h3 eb e3 hpt hbs _ hlv hrt => ak fun h4 e4 => seq.dup ⟨nofun, fun _ => ⟨fun _ => ?_, nofun⟩⟩
  have e04 := ((e02.trans eb).trans e3).trans e4
  refine kO (R.ext hr e04) ?_
  refine ads (hb := hb) (v := (v, [n1, n2, n3, n4, n5, n6])) ⟨x, n1, n2, n3, n4, n5, n6, rfl, hpt, rfl⟩ (e3.trans e4) (by rw [← hbs]; omega) fun r h5 hr5 e5 => ?_
  have e05 := (e02.trans eb).trans e5
  refine ⟨kO (R.ext hr e05) rfl, kO hr5 ⟨fun _ => ?_, fun hne => ?_⟩⟩
  · refine adt (R.ext ht (e02.trans eb)) e5 hpt hlv fun h6 e6 => ?_
    rw [hrt]
    exact K h6 (e05.trans e6)
  · rw [← hbs] at hne
    simp at hne
end
end Go.Sh.Pk

namespace Go.Sh.Pk
open Go Go.Lift
structure Em (x : Pt) : Prop where
  a1 : x.1.1 = 0
  a2 : x.1.2.1 = 0
  a3 : x.1.2.2.1.len = 0
  a4 : x.1.2.2.2.1.len = 0
  a5 : x.1.2.2.2.2.1.len = 0
  a6 : x.1.2.2.2.2.2.1.len = 0
  a7 : x.1.2.2.2.2.2.2.len = 0
  b1 : x.2.1.1 = 2
  b2 : x.2.1.2 = 0
  c1 : x.2.2.1.1.len = 0
  c2 : x.2.2.1.2.1.len = 0
  c3 : x.2.2.1.2.2.1.len = 0
  c4 : x.2.2.1.2.2.2.1.len = 0
  c5 : x.2.2.1.2.2.2.2.1.len = 0
  c6 : x.2.2.1.2.2.2.2.2.1.len = 0
  c7 : x.2.2.1.2.2.2.2.2.2.1.len = 0
  c8 : x.2.2.1.2.2.2.2.2.2.2 = 0
  d1 : x.2.2.2.1.1.len = 0
  d2 : x.2.2.2.1.2.len = 0
  e1 : x.2.2.2.2.1.1.len = 0
  e2 : x.2.2.2.2.1.2.1.len = 0
  e3 : x.2.2.2.2.1.2.2.1.len = 0
  e4 : x.2.2.2.2.1.2.2.2.1.len = 0
  e5 : x.2.2.2.2.1.2.2.2.2.len = 0
  f : x.2.2.2.2.2.1.len = 0
  g : x.2.2.2.2.2.2.1 = 0
  i : x.2.2.2.2.2.2.2.len = 0
def v0 : LV := ((0, 0, [], [], [], [], []), (2, 0), ((([], []), [[], [], [], [], []]), 0), ([], []), ([], [], [], [], []), [], 0, [])
def ns0 : List Int := [0, 0, 0, 0, 64, 0]
def bs0 : List Nat := bsBE 8 1 ++ eW (v0, ns0)
section
variable {h h0 : Heap} {a : Addr} {s : Sl} {bs : List Nat}
theorem ac4 {Q : S33 × Int → Heap → Prop} (K : ∀ x h', Em x → Ext h h' → Q (mk33 x 0 0 0 0 64 0, 0) h') : mV (0, 0, Sl.nil, Sl.nil, Sl.nil, Sl.nil, Sl.nil) (2, 0) h Q :=
  Nw.akV fun w a b c s ta tb tc ph k h' ⟨w1, w2, w3, w4, w5, w6, w7, w8, w9, w10⟩ e => by
    subst w10
    exact K ((0, 0, Sl.nil, Sl.nil, Sl.nil, Sl.nil, Sl.nil), (2, 0), (Sl.nil, w, a, b, c, Sl.nil, Sl.nil, 0), (s, Sl.nil), (Sl.nil, Sl.nil, ta, tb, tc), Sl.nil, 0, ph) h' ⟨rfl, rfl, rfl, rfl, rfl, rfl, rfl, rfl, rfl, rfl, w1, w2, w3, w4, rfl, rfl, rfl, w5, rfl, rfl, rfl, w6, w7, w8, rfl, rfl, w9⟩ e
theorem end0 {body : Int → Heap → (Int → Heap → Prop) → Prop} {P : Heap → Prop} (K : P h) : loop (fun (s0 : Int) h1 (K0 : Int → Heap → Prop) => iteB (decide (s0 < ((0 : Nat) : Int))) (body s0 h1 K0) (P h1)) 0 h :=
  Nw.lO fun _ => Nw.iteF rfl K
theorem alC {l : Sl} {q : Option Addr} {Q : Unit → Heap → Prop} (hl : l.len = 0) (p : OE h0 h a s bs) (hb : bs.length ≤ 1000) (K : ∀ s' h', OE h0 h' a s' (bs ++ bsBE 8 0) → Q () h') : bH (some (a.add 0)) l q h Q := by
  rw [add0]; unfold bH; rw [hl]; exact zE p (by omega) fun s' h' p' _ => end0 (P := fun h => Q () h) (K s' h' p')
theorem alE {l : Sl} {q : Option Addr} {Q : Unit → Heap → Prop} (hl : l.len = 0) (p : OE h0 h a s bs) (hb : bs.length ≤ 1000) (K : ∀ s' h', OE h0 h' a s' (bs ++ bsBE 8 0) → Q () h') : bG (some (a.add 0)) l q h Q := by
  rw [add0]; unfold bG; rw [hl]; exact zE p (by omega) fun s' h' p' _ => end0 (P := fun h => Q () h) (K s' h' p')
theorem z_LL {l : Sl} {q : Option Addr} {Q : Unit → Heap → Prop} (hl : l.len = 0) (p : OE h0 h a s bs) (hb : bs.length ≤ 1000) (K : ∀ s' h', OE h0 h' a s' (bs ++ bsBE 8 0) → Q () h') : bP (some (a.add 0)) l q h Q := by
  rw [add0]; unfold bP; rw [hl]; exact zE p (by omega) fun s' h' p' _ => end0 (P := fun h => Q () h) (K s' h' p')
theorem z_I {l : Sl} {q : Option Addr} {Q : Unit → Heap → Prop} (hl : l.len = 0) (p : OE h0 h a s bs) (hb : bs.length ≤ 1000) (K : ∀ s' h', OE h0 h' a s' (bs ++ bsBE 8 0) → Q () h') : cH (some (a.add 0)) l q h Q := by
  rw [add0]; unfold cH; rw [hl]; exact zE p (by omega) fun s' h' p' _ => end0 (P := fun h => Q () h) (K s' h' p')
theorem z_C {l : Sl} {q : Option Addr} {Q : Unit → Heap → Prop} (hl : l.len = 0) (p : OE h0 h a s bs) (hb : bs.length ≤ 1000) (K : ∀ s' h', OE h0 h' a s' (bs ++ bsBE 8 0) → Q () h') : ba (some (a.add 0)) l q h Q := by
  rw [add0]; unfold ba; rw [hl]; exact zE p (by omega) fun s' h' p' _ => end0 (P := fun h => Q () h) (K s' h' p')
theorem z_D {l : Sl} {q : Option Addr} {Q : Unit → Heap → Prop} (hl : l.len = 0) (p : OE h0 h a s bs) (hb : bs.length ≤ 1000) (K : ∀ s' h', OE h0 h' a s' (bs ++ bsBE 8 0) → Q () h') : bB (some (a.add 0)) l q h Q := by
  rw [add0]; unfold bB; rw [hl]; exact zE p (by omega) fun s' h' p' _ => end0 (P := fun h => Q () h) (K s' h' p')
theorem z_E {l : Sl} {q : Option Addr} {Q : Unit → Heap → Prop} (hl : l.len = 0) (p : OE h0 h a s bs) (hb : bs.length ≤ 1000) (K : ∀ s' h', OE h0 h' a s' (bs ++ bsBE 8 0) → Q () h') : aW (some (a.add 0)) l q h Q := by
  rw [add0]; unfold aW; rw [hl]; exact zE p (by omega) fun s' h' p' _ => end0 (P := fun h => Q () h) (K s' h' p')
theorem z_U {l : Sl} {q : Option Addr} {Q : Unit → Heap → Prop} (hl : l.len = 0) (p : OE h0 h a s bs) (hb : bs.length ≤ 1000) (K : ∀ s' h', OE h0 h' a s' (bs ++ bsBE 8 0) → Q () h') : aV (some (a.add 0)) l q h Q := by
  rw [add0]; unfold aV; rw [hl]; exact zE p (by omega) fun s' h' p' _ => end0 (P := fun h => Q () h) (K s' h' p')
theorem z_B {l : Sl} {q : Option Addr} {Q : Unit → Heap → Prop} (hl : l.len = 0) (p : OE h0 h a s bs) (hb : bs.length ≤ 1000) (K : ∀ s' h', OE h0 h' a s' (bs ++ bsBE 8 0) → Q () h') : bN (some (a.add 0)) l q h Q := by
  rw [add0]; unfold bN; rw [hl]; exact zE p (by omega) fun s' h' p' _ => end0 (P := fun h => Q () h) (K s' h' p')
theorem Cs.sub {c : Addr} {L : List Value} (q : Cs h c L) (i : Nat) {ds : List Value} {n : Nat} (hn : ds.length = n) (hd : ∀ j, j < n → i + j < L.length ∧ L[i + j]? = ds[j]?) : cells? h (c.add i) n 0 = some ds := by
  subst hn
  refine cells?_mk (h := h) (a := c.add i) ds 0 fun j hj => ?_
  obtain ⟨h1, h2⟩ := hd j hj
  rw [Nat.zero_add, b7, (q.cell (i + j) h1).1, ← List.getElem?_eq_getElem h1, h2, List.getElem?_eq_getElem hj]
theorem int0 {n : Int} {Q : Unit → Heap → Prop} (p : OE h0 h a s bs) (hb : bs.length ≤ 1000) (K : ∀ s' h', OE h0 h' a s' (bs ++ bsBE 8 (toU n)) → Q () h') : ai (some (a.add 0)) n h Q := by
  rw [add0]; exact zE p (by omega) fun s' h' p' _ => K s' h' p'
def zs : Nat → List Nat → List Nat
  | 0, bs => bs
  | n + 1, bs => zs n (bs ++ bsBE 8 0)
theorem so : ∀ n bs, (zs n bs).length = bs.length + 8 * n := by
  intro n
  induction n with
  | zero => intro bs; rfl
  | succ n ih => intro bs; show (zs n _).length = _; rw [ih, List.length_append, aF]; omega
theorem aip {l : Sl} {Q : Unit → Heap → Prop} (hl : l.len = 0) (p : OE h0 h a s bs) (hb : bs.length ≤ 1000) (K : ∀ s' h', OE h0 h' a s' (bs ++ bsBE 8 0) → Q () h') : b9 (some a) l h Q := ⟨a, rfl, a, rfl, z_I hl p hb K⟩
theorem aic {l : Sl} {Q : Unit → Heap → Prop} (hl : l.len = 0) (p : OE h0 h a s bs) (hb : bs.length ≤ 1000) (K : ∀ s' h', OE h0 h' a s' (bs ++ bsBE 8 0) → Q () h') : gJ (some a) l h Q := ⟨a, rfl, alC hl p hb K⟩
theorem ln {n : Nat} {l : List Nat} {k m : Nat} (h : l.length ≤ m) (hm : m + 8 ≤ k) : (l ++ bsBE 8 n).length ≤ k := by rw [List.length_append, aF]; omega
theorem am1 {x : S7} {Q : Unit → Heap → Prop} (e1 : x.1 = 0) (e2 : x.2.1 = 0) (e3 : x.2.2.1.len = 0) (e4 : x.2.2.2.1.len = 0) (e5 : x.2.2.2.2.1.len = 0) (e6 : x.2.2.2.2.2.1.len = 0) (e7 : x.2.2.2.2.2.2.len = 0) (p : OE h0 h a s bs) (hb : bs.length ≤ 500) (K : ∀ s' h', OE h0 h' a s' (zs 7 bs) → Q () h') : gV (some a) x h Q := by
  obtain ⟨x1, x2, x3⟩ := x
  dsimp only at e1 e2 e3 e4 e5 e6 e7
  subst e1; subst e2
  exact ak fun h1 q1 => ⟨a, rfl, int0 (p.ext q1).1 (by omega) fun _ _ p => ⟨a, rfl, int0 p (ln hb (by decide)) fun _ _ p => aic e3 p (ln (ln hb (Nat.le_refl _)) (by decide)) fun _ _ p => ⟨a, rfl, alE e4 p (ln (ln (ln hb (Nat.le_refl _)) (Nat.le_refl _)) (by decide)) fun _ _ p => ⟨a, rfl, z_LL e5 p (ln (ln (ln (ln hb (Nat.le_refl _)) (Nat.le_refl _)) (Nat.le_refl _)) (by decide)) fun _ _ p =>
    aip e6 p (ln (ln (ln (ln (ln hb (Nat.le_refl _)) (Nat.le_refl _)) (Nat.le_refl _)) (Nat.le_refl _)) (by decide)) fun _ _ p => aic e7 p (ln (ln (ln (ln (ln (ln hb (Nat.le_refl _)) (Nat.le_refl _)) (Nat.le_refl _)) (Nat.le_refl _)) (Nat.le_refl _)) (by decide)) fun s' h' p => K s' h' p⟩⟩⟩⟩
theorem ahr : ∀ n bs, zs n bs ++ bsBE 8 0 = zs (n + 1) bs := by
  intro n
  induction n with
  | zero => intro bs; rfl
  | succ n ih => intro bs; exact ih (bs ++ bsBE 8 0)
theorem akH {x : S8} {Q : Unit → Heap → Prop} (e1 : x.1.len = 0) (e2 : x.2.1.len = 0) (e3 : x.2.2.1.len = 0) (e4 : x.2.2.2.1.len = 0) (e5 : x.2.2.2.2.1.len = 0) (e6 : x.2.2.2.2.2.1.len = 0) (e7 : x.2.2.2.2.2.2.1.len = 0) (e8 : x.2.2.2.2.2.2.2 = 0) (p : OE h0 h a s bs) (hb : bs.length ≤ 500) (K : ∀ s' h', OE h0 h' a s' (zs 8 bs) → Q () h') : iq (some a) x h Q := by
  refine ak fun h1 q1 => ⟨a, rfl, z_C e1 (p.ext q1).1 (by omega) fun s2 h2 p2 => ⟨a, rfl, z_LL e2 p2 (ln hb (by decide)) fun s3 h3 p3 => ?_⟩⟩
  have p3 : OE h0 h3 a s3 (zs 2 bs) := p3
  refine loop.inv (fun (t : Int) h' => ∃ i : Nat, t = (i : Int) ∧ i ≤ 5 ∧ ∃ s', OE h0 h' a s' (zs (2 + i) bs)) (fun t _ => 5 - t.toNat) ⟨0, rfl, by omega, s3, p3⟩ ?_
  rintro _ h4 ⟨i, rfl, hi, s4, p4⟩
  refine ⟨fun hlt => ?_, fun hge => ?_⟩
  · have hlt : i < 5 := by have := of_decide_eq_true hlt; omega
    have hg : ∃ y : Sl, ([Sl.toV x.2.2.1, Sl.toV x.2.2.2.1, Sl.toV x.2.2.2.2.1, Sl.toV x.2.2.2.2.2.1, Sl.toV x.2.2.2.2.2.2.1] : List Value)[i]? = some (Sl.toV y) ∧ y.len = 0 := by
      match i, hlt with
      | 0, _ => exact ⟨_, rfl, e3⟩
      | 1, _ => exact ⟨_, rfl, e4⟩
      | 2, _ => exact ⟨_, rfl, e5⟩
      | 3, _ => exact ⟨_, rfl, e6⟩
      | 4, _ => exact ⟨_, rfl, e7⟩
    obtain ⟨y, hy, hy0⟩ := hg
    refine ⟨⟨by omega, by omega⟩, y, by rw [Int.toNat_natCast, Nat.mul_one]; exact hy, aip hy0 p4 (by rw [so]; omega) fun s5 h5 p5 => ?_⟩
    rw [w64 (by omega) (by omega)]
    rw [ahr] at p5
    exact ⟨⟨i + 1, rfl, hlt, s5, p5⟩, by omega⟩
  · have hge : i = 5 := by have := of_decide_eq_false hge; omega
    subst hge
    refine ⟨a, rfl, int0 p4 (by rw [so]; omega) fun s5 h5 p5 => ?_⟩
    rw [e8] at p5
    have p5 : OE h0 h5 a s5 (zs 7 bs ++ bsBE 8 0) := p5
    rw [ahr] at p5
    exact K s5 h5 p5
theorem al4 {x : S5} {Q : Unit → Heap → Prop} (e1 : x.1.len = 0) (e2 : x.2.1.len = 0) (e3 : x.2.2.1.len = 0) (e4 : x.2.2.2.1.len = 0) (e5 : x.2.2.2.2.len = 0) (p : OE h0 h a s bs) (hb : bs.length ≤ 500) (K : ∀ s' h', OE h0 h' a s' (zs 5 bs) → Q () h') : i8 (some a) x h Q :=
  ak fun h1 q1 => aip e1 (p.ext q1).1 (by omega) fun _ _ p => aic e2 p (ln hb (by decide)) fun _ _ p => ⟨a, rfl, a, rfl, z_D e3 p (ln (ln hb (Nat.le_refl _)) (by decide)) fun _ _ p => ⟨a, rfl, z_E e4 p (ln (ln (ln hb (Nat.le_refl _)) (Nat.le_refl _)) (by decide)) fun _ _ p => ⟨a, rfl, z_E e5 p (ln (ln (ln (ln hb (Nat.le_refl _)) (Nat.le_refl _)) (Nat.le_refl _)) (by decide)) fun s' h' p => K s' h' p⟩⟩⟩
theorem ahX (x : Pt) (n1 n2 n3 n4 n5 n6 : Int) (h : Heap) (Q : Sl → Heap → Prop) : de (mk33 x n1 n2 n3 n4 n5 n6) h Q = new (C33 (mk33 x n1 n2 n3 n4 n5 n6)) h fun c h => new [Sl.toV Sl.nil] h fun a h => ai (some (a.add 0)) 1 h fun _ h =>
   cg aG 7 (c.add 0) h fun v => gV (some a) v h fun _ h => Lift.load (Value.int .i64) ((c.add 7).add 0) h fun v => ai (some (a.add 0)) v h fun _ h => Lift.load (Value.int .i64) ((c.add 7).add 1) h fun v => ai (some (a.add 0)) v h fun _ h =>
   cg ag 8 (c.add 9) h fun v => iq (some a) v h fun _ h => Lift.load Sl.toV ((c.add 17).add 0) h fun v => b9 (some a) v h fun _ h => Lift.load Sl.toV ((c.add 17).add 1) h fun v => b9 (some a) v h fun _ h =>
   cg cD 5 (c.add 19) h fun v => i8 (some a) v h fun _ h => Lift.load Sl.toV (c.add 24) h fun v => aV (some (a.add 0)) v (some a) h fun _ h => Lift.load (Value.int .i64) (c.add 25) h fun v => ai (some (a.add 0)) v h fun _ h =>
   Lift.load Sl.toV (c.add 26) h fun v => bN (some (a.add 0)) v (some (a.add 0)) h fun _ h => jX (some c) h fun w h =>
   loop (fun (s0 : Int) h1 (K0 : Int → Heap → Prop) => iteB (decide (s0 < 6)) (idxV Value.pointer [Value.pointer w.1, Value.pointer w.2.1, Value.pointer w.2.2.1, Value.pointer w.2.2.2.1, Value.pointer w.2.2.2.2.1, Value.pointer w.2.2.2.2.2] 6 s0 1 fun v => ah v fun b => Lift.load (Value.int .i64) b h1 fun n => ai (some (a.add 0)) n h1 fun _ h2 => K0 (IntKind.wrap .i64 (s0 + 1)) h2) (kH (some (a.add 0)) h1 fun r h2 => Q r h2)) 0 h := by kernel_rfl
def bsA : List Nat := zs 5 (zs 2 (zs 8 (zs 7 (bsBE 8 1) ++ bsBE 8 2 ++ bsBE 8 0))) ++ bsBE 8 0 ++ bsBE 8 0 ++ bsBE 8 0
theorem alI : bsA ++ eN encI ns0 = bs0 := by kernel_rfl
theorem aku : bsA.length = 224 := by kernel_rfl
theorem lL {x : Pt} {Q : Sl → Heap → Prop} (e : Em x) (K : ∀ r h', RI .u8 h' r bs0 → Ext h h' → Q r h') : de (mk33 x 0 0 0 0 64 0) h Q := by
  rw [ahX]
  refine tF fun c h1 q hc e1 n1 => ?_
  intro T
  have hoo := OO.new (h := h1) T
  have e2 : Ext h1 (h1.push (.cells [Sl.toV Sl.nil].toArray T (0, 0))) := Ext.push _ _
  have hs2 : (h1.push (.cells [Sl.toV Sl.nil].toArray T (0, 0)) : Heap).size = h1.size + 1 := by simp
  generalize (h1.push (.cells [Sl.toV Sl.nil].toArray T (0, 0)) : Heap) = h2 at *
  generalize ha : (⟨h1.size, 0, none⟩ : Addr) = a at *
  have hab : a.block = h1.size := by rw [← ha]
  have p2 : OE h1 h2 a Sl.nil [] := ⟨hoo, e2, by omega, by simp [Sl.blk, Sl.nil], by omega⟩
  have g : ∀ {hh : Heap}, Ext h1 hh → ∀ i (hi : i < 33), cell? hh (c.add i) = some ((C33 (mk33 x 0 0 0 0 64 0))[i]'hi) := fun ex i hi => ao ex (q.cell i hi).1 (by simp)
  have d7 : cells? h1 (c.add 0) 7 0 = some (aG x.1) := Cs.sub q 0 rfl fun j hj => ⟨by show 0 + j < 33; omega, by
    match j, hj with
    | 0, _ => rfl
    | 1, _ => rfl
    | 2, _ => rfl
    | 3, _ => rfl
    | 4, _ => rfl
    | 5, _ => rfl
    | 6, _ => rfl⟩
  have d8 : cells? h1 (c.add 9) 8 0 = some (ag x.2.2.1) := Cs.sub q 9 rfl fun j hj => ⟨by show 9 + j < 33; omega, by
    match j, hj with
    | 0, _ => rfl
    | 1, _ => rfl
    | 2, _ => rfl
    | 3, _ => rfl
    | 4, _ => rfl
    | 5, _ => rfl
    | 6, _ => rfl
    | 7, _ => rfl⟩
  have d5 : cells? h1 (c.add 19) 5 0 = some (cD x.2.2.2.2.1) := Cs.sub q 19 rfl fun j hj => ⟨by show 19 + j < 33; omega, by
    match j, hj with
    | 0, _ => rfl
    | 1, _ => rfl
    | 2, _ => rfl
    | 3, _ => rfl
    | 4, _ => rfl⟩
  refine int0 p2 (by simp) fun s3 h3 p3 => ⟨x.1, aO p3.e d7, am1 e.a1 e.a2 e.a3 e.a4 e.a5 e.a6 e.a7 p3 (ln (m := 0) (Nat.le_refl _) (by decide)) fun s4 h4 p4 => ?_⟩
  have p4 : OE h1 h4 a s4 (zs 7 (bsBE 8 1)) := p4
  have l4 : (zs 7 (bsBE 8 1)).length ≤ 64 := by decide
  refine ⟨x.2.1.1, by rw [b7]; exact g p4.e 7 (by decide), int0 p4 (by omega) fun s5 h5 p5 => ⟨x.2.1.2, by rw [b7]; exact g p5.e 8 (by decide), int0 p5 (ln l4 (by decide)) fun s6 h6 p6 => ?_⟩⟩
  rw [e.b1, e.b2] at p6
  have p6 : OE h1 h6 a s6 (zs 7 (bsBE 8 1) ++ bsBE 8 2 ++ bsBE 8 0) := p6
  refine ⟨x.2.2.1, aO p6.e d8, akH e.c1 e.c2 e.c3 e.c4 e.c5 e.c6 e.c7 e.c8 p6 (by simp only [so, List.length_append, aF]; omega) fun s7 h7 p7 => ?_⟩
  refine ⟨x.2.2.2.1.1, by rw [b7]; exact g p7.e 17 (by decide), aip e.d1 p7 (by simp only [so, List.length_append, aF]; omega) fun s8 h8 p8 => ⟨x.2.2.2.1.2, by rw [b7]; exact g p8.e 18 (by decide), aip e.d2 p8 (by simp only [so, List.length_append, aF]; omega) fun s9 h9 p9 => ?_⟩⟩
  have p9 : OE h1 h9 a s9 (zs 2 (zs 8 (zs 7 (bsBE 8 1) ++ bsBE 8 2 ++ bsBE 8 0))) := p9
  refine ⟨x.2.2.2.2.1, aO p9.e d5, al4 e.e1 e.e2 e.e3 e.e4 e.e5 p9 (by simp only [so, List.length_append, aF]; omega) fun sa hA pa => ?_⟩
  refine ⟨x.2.2.2.2.2.1, g pa.e 24 (by decide), z_U e.f pa (by simp only [so, List.length_append, aF]; omega) fun sb hB pb => ⟨x.2.2.2.2.2.2.1, g pb.e 25 (by decide), int0 pb (by simp only [so, List.length_append, aF]; omega) fun sc hC pc => ⟨x.2.2.2.2.2.2.2, g pc.e 26 (by decide), ?_⟩⟩⟩
  rw [e.g] at pc
  refine z_B e.i pc (by simp only [so, List.length_append, aF]; omega) fun sd hD pd => yB fun hE eE => ?_
  have pd : OE h1 hE a sd bsA := (pd.ext eE).1
  have hbl := aku
  refine loop.inv (fun (t : Int) h' => ∃ i : Nat, t = (i : Int) ∧ i ≤ 6 ∧ ∃ s', OE h1 h' a s' (bsA ++ eN encI (ns0.take i))) (fun t _ => 6 - t.toNat) ⟨0, rfl, by omega, sd, by simpa [eN] using pd⟩ ?_
  rintro _ hF ⟨i, rfl, hi, sf, pf⟩
  have hB6 : (eN encI (ns0.take i)).length ≤ 48 := by
    have := ak0 (enc := encI) ns0 i
    simpa [eN, encI, aF, ns0] using this
  refine ⟨fun hlt => ?_, fun hge => ?_⟩
  · have hlt : i < 6 := by have := of_decide_eq_true hlt; omega
    have hlt2 : i < ns0.length := hlt
    have hg : ([Value.pointer (some (c.add 27)), Value.pointer (some (c.add 28)), Value.pointer (some (c.add 29)), Value.pointer (some (c.add 30)), Value.pointer (some (c.add 31)), Value.pointer (some (c.add 32))] : List Value)[i]? = some (Value.pointer (some (c.add (27 + i)))) := by
      match i, hlt with
      | 0, _ => rfl
      | 1, _ => rfl
      | 2, _ => rfl
      | 3, _ => rfl
      | 4, _ => rfl
      | 5, _ => rfl
    have hv : cell? hF (c.add (27 + i)) = some (Value.int .i64 (ns0[i]'hlt2)) := by
      rw [g pf.e (27 + i) (by omega)]
      match i, hlt with
      | 0, _ => rfl
      | 1, _ => rfl
      | 2, _ => rfl
      | 3, _ => rfl
      | 4, _ => rfl
      | 5, _ => rfl
    refine ⟨⟨by omega, by omega⟩, some (c.add (27 + i)), by rw [Int.toNat_natCast, Nat.mul_one]; exact hg, c.add (27 + i), rfl, _, hv, int0 pf (by rw [List.length_append]; omega) fun sg hG pg => ?_⟩
    rw [w64 (by omega) (by omega)]
    refine ⟨⟨i + 1, rfl, hlt, sg, ?_⟩, by omega⟩
    rw [afC (enc := encI) ns0 hlt2, ← List.append_assoc]
    exact pg
  · have hge : i = 6 := by have := of_decide_eq_false hge; omega
    subst hge
    rw [add0]
    refine acu pf.o (by rw [List.length_append]; omega) fun r hG hr eG _ => K r hG ?_ (e1.trans (pf.e.trans eG))
    have e6 : ns0.take 6 = ns0 := rfl
    rw [e6, alI] at hr
    exact hr
end
end Go.Sh.Pk

namespace Go.Sh.Pk
open Go Go.Lift
theorem pI0 : pI bs0 = some (1, eW (v0, ns0)) := by kernel_rfl
theorem pW0 : pW (eW (v0, ns0)) = some ((v0, ns0), []) := by kernel_rfl
theorem ai7 : bs0.length = 272 := by kernel_rfl
theorem alg : Lim 256 bs0 := by
  have : bs0.all (fun x => decide (x < 256)) = true := by kernel_rfl
  rw [List.all_eq_true] at this
  exact fun x hx => of_decide_eq_true (this x hx)
section
variable {h h0 : Heap}
theorem PtX.em {x : Pt} (hx : PtX h x v0) : Em x := by
  obtain ⟨⟨p1, p2, p3, p4, p5, p6, p7⟩, li, se, q1, q2, ⟨t1, t2, t3, t4, t5⟩, un, as, ph⟩ := hx
  have hr := se.rows
  rcases hr with _ | ⟨r1, hr⟩
  rcases hr with _ | ⟨r2, hr⟩
  rcases hr with _ | ⟨r3, hr⟩
  rcases hr with _ | ⟨r4, hr⟩
  rcases hr with _ | ⟨r5, hr⟩
  exact ⟨p1, p2, p3.len, p4.len, p5.len, p6.len, p7.len, congrArg Prod.fst li, congrArg Prod.snd li, se.cls.len, se.wat.len, r1.len, r2.len, r3.len, r4.len, r5.len, se.nx, q1.len, q2.len, t1.len, t2.len, t3.len, t4.len, t5.len, un.len, as, ph.len⟩
theorem ak5 : Cl.RightS (sOf [] [] [] [] [] [] []) 0 where
  wlen := rfl
  llen := rfl
  rlen := rfl
  nlo := Int.le_refl _
  nhi := Int.le_refl _
  cls := fun i hi => absurd hi (Nat.not_lt_zero _)
  tot := rfl
  wat := fun i hi => absurd hi (Nat.not_lt_zero _)
  tra := fun i hi => absurd hi (Nat.not_lt_zero _)
  hea := fun i hi => absurd hi (Nat.not_lt_zero _)
  fre := fun i hi => absurd hi (Nat.not_lt_zero _)
  rea := fun i hi => absurd hi (Nat.not_lt_zero _)
theorem alk : RightT (tOf v0.2.2.2.2.1) ∧ ∀ p ∈ (tOf v0.2.2.2.2.1).ps, Rt p :=
  ⟨⟨rfl, rfl, rfl, (fun e he => by cases he), (fun e he => by cases he), fun i hi => absurd hi (Nat.not_lt_zero _)⟩, fun p hp => by cases hp⟩
theorem amb {x : Pt} (e : Em x) : yZ x v0 0 0 0 0 64 0 = true := by
  have hc : cnfB x.1 (v0.1.2.2.1.map pOf) (v0.1.2.2.2.1.map aOf) v0.1.2.2.2.2.1 = true := by
    unfold cnfB
    rw [e.a1, e.a2]
    rfl
  have hq : qB v0.2.2.2.1.1 v0.2.2.2.1.2 = true := rfl
  have hg : rG x = false := by
    unfold rG
    rw [e.c3, e.d1, e.i, e.e3, e.e2, e.a1, e.a2, e.a3]
    rfl
  have ha : rA x 0 = false := by
    unfold rA
    rw [e.g, e.c6]
    rfl
  unfold yZ
  rw [if_neg (by rw [hc]; simp), if_pos ⟨[], [], [], [], [], [], [], 0, rfl, ak5⟩, if_neg (by rw [hq]; simp), if_pos alk, if_neg (by rw [hg]; simp), if_neg (by rw [ha]; simp)]
  rfl
theorem alZ : ¬ akO bs0 := by
  intro hn
  obtain ⟨hb, x, n1, n2, n3, n4, n5, n6, hx, hv, hr⟩ := hn _ _ pI0 pW0 ⟨rfl, fun p hp => by cases hp⟩
  have hv : [0, 0, 0, 0, 64, 0] = [n1, n2, n3, n4, n5, n6] := hv
  simp only [List.cons.injEq, and_true] at hv
  obtain ⟨rfl, rfl, rfl, rfl, rfl, rfl⟩ := hv
  have := amb (PtX.em hx)
  rw [this] at hr
  cases hr
theorem aie (h : Heap) (Q : Bool → Heap → Prop) : iX h Q = eX Sl.nil h fun v h => mem h fun h => mV (0, 0, Sl.nil, Sl.nil, Sl.nil, Sl.nil, Sl.nil) (2, 0) h fun v1 h => mem h fun h => de v1.1 h fun v2 h => eX v2 h fun v3 h => mem h fun h =>
   seq (fun (K : Bool → Heap → Prop) => iteB (v.2 == 3) (iteB (v1.2 == 0) (iteB (v3.2 == 0) (qA v1.1 v3.1 h fun v4 h8 => iteB v4 (de v1.1 h8 fun v5 h9 => K (decide (((v5.len : Nat) : Int) > 100)) h9) (K false h8)) (K false h)) (K false h)) (K false h)) fun t h => Q t h := by kernel_rfl
theorem akQ (s t : S33) (h : Heap) (Q : Bool → Heap → Prop) : qA s t h Q = mem h fun h => de s h fun v h => de t h fun v1 h => ro v v1 h fun v2 h => Q v2 h := by kernel_rfl
theorem ajc {Q : Bool → Heap → Prop} (ht : Tab h) (K : ∀ h', Ext h h' → Q true h') : iX h Q := by
  rw [aie]
  refine rH (h0 := h) (bs := []) ht (Keep.refl _ _) R.nil (fun x hx => by cases hx) (Nat.zero_le _) (fun _ h1 e1 => ?_) fun hb x v n1 n2 n3 n4 n5 n6 h1 eb e1 hpt hbs _ _ _ => ?_
  · refine ak fun h2 e2 => ac4 fun x h3 ex e3 => ak fun h4 e4 => lL ex fun r h5 hr e5 => ?_
    have e05 := ((e1.trans e2).trans (e3.trans e4)).trans e5
    refine rH (h0 := h) (bs := bs0) ht e05 hr alg (by rw [ai7]; decide) (fun hn => absurd hn alZ) fun hb y v n1 n2 n3 n4 n5 n6 h6 eb e6 hpt _ ⟨r1, g1, g2⟩ _ _ => ?_
    rw [pI0] at g1
    cases g1
    rw [pW0] at g2
    have g2 := congrArg Prod.fst (Option.some.inj g2)
    have gv : v0 = v := congrArg Prod.fst g2
    have gn : ([0, 0, 0, 0, 64, 0] : List Int) = [n1, n2, n3, n4, n5, n6] := congrArg Prod.snd g2
    subst gv
    simp only [List.cons.injEq, and_true] at gn
    obtain ⟨rfl, rfl, rfl, rfl, rfl, rfl⟩ := gn
    have ey := PtX.em hpt
    refine ak fun h7 e7 => seq.dup ⟨fun _ => ⟨fun _ => ⟨fun _ => ?_, nofun⟩, nofun⟩, nofun⟩
    have e07 := ((e05.trans eb).trans e6).trans e7
    rw [akQ]
    refine ak fun h8 e8 => lL ex fun a h9 ha e9 => lL ey fun b hA hb2 eA => kO (R.ext ha eA) (kO hb2 ⟨fun _ => ?_, fun hf => ?_⟩)
    · refine lL ex fun c hB hc eB => ?_
      have hcl := hc.len
      rw [ai7] at hcl
      rw [hcl]
      exact K hB (((e07.trans e8).trans (e9.trans eA)).trans eB)
    · simp at hf
  · have := congrArg List.length hbs
    rw [List.length_append, aF] at this
    simp at this
    omega
end
end Go.Sh.Pk
