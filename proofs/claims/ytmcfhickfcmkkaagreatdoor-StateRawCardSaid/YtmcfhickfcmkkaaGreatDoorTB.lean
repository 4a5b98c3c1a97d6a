/-
  Laws that the proof of this claim's statement leans on, each proved under the conditions that it states.
-/
import Derived.Test.YtmcfhickfcmkkaaGreatDoorTA
set_option linter.unusedVariables false
set_option linter.unusedSimpArgs false
namespace Go.Sh.Pk
open Go Go.Lift
def WR {α β : Type} (V : Heap → β → α → Prop) (enc : α → List Nat) (f : Sl → β → Heap → (Sl → Heap → Prop) → Prop) : Prop :=
  ∀ ⦃h0 h : Heap⦄ ⦃out : Sl⦄ ⦃bs : List Nat⦄ ⦃r : β⦄ ⦃v : α⦄ ⦃Q : Sl → Heap → Prop⦄, OwnI .u8 h0.size h out bs → Ext h0 h → V h0 r v → bs.length + (enc v).length ≤ 3100 → (∀ out' h', OwnI .u8 h0.size h' out' (bs ++ enc v) → Ext h0 h' → Q out' h') → f out r h Q
section
variable {h0 h h' : Heap} {α β γ δ : Type} {V : Heap → β → α → Prop} {S : Heap → δ → γ → Prop} {enc : α → List Nat} {enc2 : γ → List Nat} {f : Sl → β → Heap → (Sl → Heap → Prop) → Prop} {g : Sl → δ → Heap → (Sl → Heap → Prop) → Prop}
theorem wr_I : WR (fun _ r v => r = v) encI fun out n h Q => ay out n h Q := by
  rintro h0 h out bs r v Q ho e0 rfl hl K
  exact ajj ho e0 (by omega) fun o' h' p g => K o' h' p (g.base e0 fun b hb => (ho.lt hb).1)
theorem wr_F : WR (fun _ r v => r = v) encF fun out n h Q => fF out n h Q := by
  rintro h0 h out bs r v Q ho e0 rfl hl K
  exact akq ho e0 (by omega) fun o' h' p g => K o' h' p (g.base e0 fun b hb => (ho.lt hb).1)
theorem RX.few {x : Bool × Sl × Sl} {l : LR} (hx : RX h x l) (hl : (encR l).length ≤ 3100) : FewR l := by
  rw [kA] at hl
  exact ⟨hx.q, hx.xl.x.lnum, hx.xl.x.lden, by omega, by omega⟩
theorem wr_R : WR RX encR fun out n h Q => iB out n h Q := by
  intro h0 h out bs r v Q ho e0 hr hl K
  exact ae9 ho e0 hr.xl (hr.few (by omega)) (by omega) fun o' h' p g => K o' h' p (g.base e0 fun b hb => (ho.lt hb).1)
theorem wr_D : WR DX encD fun out n h Q => gg out n h Q := by
  intro h0 h out bs r v Q ho e0 hr hl K
  unfold encD at hl
  rw [List.length_append] at hl
  exact akM ho e0 hr.1.xl hr.2.xl (hr.1.few (by omega)) (hr.2.few (by omega)) (by omega) fun o' h' p g => K o' h' p (g.base e0 fun b hb => (ho.lt hb).1)
theorem WR.seq (H : WR V enc f) (H2 : WR S enc2 g) : WR (fun h (x : β × δ) v => V h x.1 v.1 ∧ S h x.2 v.2) (fun v : α × γ => enc v.1 ++ enc2 v.2) fun out x h Q => f out x.1 h fun o h1 => g o x.2 h1 Q := by
  intro h0 h out bs r v Q ho e0 hr hl K
  rw [List.length_append] at hl
  exact H ho e0 hr.1 (by omega) fun o1 h1 p1 e1 => H2 p1 e1 hr.2 (by rw [List.length_append]; omega) fun o2 h2 p2 e2 => K o2 h2 (by rw [← List.append_assoc]; exact p2) e2
theorem WR.mem (H : WR V enc f) : WR V enc fun out x h Q => mem h fun h1 => f out x h1 Q := by
  intro h0 h out bs r v Q ho e0 hr hl K
  exact ak fun h1 e1 => H (ho.ext e1) (e0.trans e1) hr hl K
theorem af8 {vs : List α} (hp : ∀ v, 1 ≤ (enc v).length) : vs.length ≤ (eN enc vs).length := by
  unfold eN
  induction vs with
  | nil => simp
  | cons v vs ih => have := hp v; simp at ih ⊢; omega
theorem afC (vs : List α) {i : Nat} (hi : i < vs.length) : eN enc (vs.take (i + 1)) = eN enc (vs.take i) ++ enc vs[i] := by
  unfold eN; rw [List.take_succ_eq_append_getElem hi, List.map_append, List.flatten_append, List.map_cons, List.map_nil, List.flatten_cons, List.flatten_nil, List.append_nil]
theorem ak0 (vs : List α) (i : Nat) : (eN enc (vs.take i)).length ≤ (eN enc vs).length := by
  have : eN enc vs = eN enc (vs.take i) ++ eN enc (vs.drop i) := by unfold eN; rw [← List.flatten_append, ← List.map_append, List.take_append_drop]
  rw [this, List.length_append]; omega
theorem akz {len : Int} {vs : List α} {step : Sl × Int → Heap → (Sl × Int → Heap → Prop) → Prop} {E : Sl → Heap → Prop} {out : Sl} {bs : List Nat} (hlen : len = (vs.length : Int)) (hp : ∀ v, 1 ≤ (enc v).length) (ho : OwnI .u8 h0.size h out bs) (e0 : Ext h0 h) (hl : bs.length + (eN enc vs).length ≤ 3100)
    (hb : ∀ i (hi : i < vs.length) out h bs K0, OwnI .u8 h0.size h out bs → Ext h0 h → bs.length + (enc vs[i]).length ≤ 3100 → (∀ out' h', OwnI .u8 h0.size h' out' (bs ++ enc vs[i]) → Ext h0 h' → K0 (out', ((i + 1 : Nat) : Int)) h') → step (out, (i : Int)) h K0)
    (K : ∀ out' h', OwnI .u8 h0.size h' out' (bs ++ eN enc vs) → Ext h0 h' → E out' h') : loop (fun (s0 : Sl × Int) h (K0 : Sl × Int → Heap → Prop) => iteB (decide (s0.2 < len)) (step s0 h K0) (E s0.1 h)) (out, 0) h := by
  subst hlen
  have hvl := af8 (vs := vs) hp
  refine loop.inv (fun (s0 : Sl × Int) h2 => ∃ i : Nat, s0.2 = (i : Int) ∧ i ≤ vs.length ∧ OwnI .u8 h0.size h2 s0.1 (bs ++ eN enc (vs.take i)) ∧ Ext h0 h2) (fun s0 _ => vs.length - s0.2.toNat) ⟨0, rfl, Nat.zero_le _, by simpa [eN] using ho, e0⟩ ?_
  rintro ⟨o, _⟩ h2 ⟨i, rfl, hi, p2, e2⟩
  dsimp only at p2 ⊢
  refine ⟨fun hlt => ?_, fun hge => ?_⟩
  · simp only [decide_eq_true_eq] at hlt
    have hi' : i < vs.length := by omega
    have h1 := afC (enc := enc) vs hi'
    have h2 := ak0 (enc := enc) vs (i + 1)
    rw [h1, List.length_append] at h2
    refine hb i hi' o _ _ _ p2 e2 (by rw [List.length_append]; omega) fun o3 h3 p3 e3 => ⟨⟨i + 1, rfl, hi', by rw [h1, ← List.append_assoc]; exact p3, e3⟩, by simp only [Int.toNat_natCast]; omega⟩
  · simp only [decide_eq_false_iff_not] at hge
    have : i = vs.length := by omega
    subst this
    rw [List.take_length] at p2
    exact K o h2 p2 e2
theorem agc {out : Sl} {bs : List Nat} {n : Nat} {Q : Sl → Heap → Prop} (hn : n ≤ 4000) (ho : OwnI .u8 h0.size h out bs) (e0 : Ext h0 h) (hl : bs.length ≤ 4000) (K : ∀ out' h', OwnI .u8 h0.size h' out' (bs ++ bsBE 8 n) → Ext h0 h' → Q out' h') : ay out (n : Int) h Q :=
  ajj ho e0 (by omega) fun o' h' p g => K o' h' (by rw [aiv (by omega)] at p; exact p) (g.base e0 fun b hb => (ho.lt hb).1)
theorem abj (l : List α) : encL enc l = bsBE 8 l.length ++ eN enc l := rfl
theorem fu (l : List α) : (encL enc l).length = 8 + (eN enc l).length := by rw [abj, List.length_append, aF]
theorem LetI {α : Type} {e : α} {k : α → Prop} (H : k e) : Let e k := by rintro _ rfl; exact H
def lsF {β : Type} (toC : β → List Value) (sz : Nat) (f : Sl → β → Heap → (Sl → Heap → Prop) → Prop) (out l : Sl) (h : Heap) (Q : Sl → Heap → Prop) : Prop :=
  ay out ((l.len : Nat) : Int) h fun v h0 => loop (fun (s0 : Sl × Int) h1 (K0 : (Sl × Int) → Heap → Prop) => iteB (decide (s0.2 < ((l.len : Nat) : Int))) (idxS l s0.2 sz fun a => cg toC sz a h1 fun v1 => f s0.1 v1 h1 fun v2 h2 => Let (IntKind.wrap .i64 (s0.2 + 1) : Int) fun i => K0 (v2, i) h2) (Q s0.1 h1)) (v, 0) h0
def ls1 {β : Type} (toV : β → Value) (f : Sl → β → Heap → (Sl → Heap → Prop) → Prop) (out l : Sl) (h : Heap) (Q : Sl → Heap → Prop) : Prop :=
  ay out ((l.len : Nat) : Int) h fun v h0 => loop (fun (s0 : Sl × Int) h1 (K0 : (Sl × Int) → Heap → Prop) => iteB (decide (s0.2 < ((l.len : Nat) : Int))) (idxS l s0.2 1 fun a => Lift.load toV a h1 fun v1 => f s0.1 v1 h1 fun v2 h2 => Let (IntKind.wrap .i64 (s0.2 + 1) : Int) fun i => K0 (v2, i) h2) (Q s0.1 h1)) (v, 0) h0
theorem WR.list {toC : β → List Value} {sz : Nat} (H : WR V enc f) (hp : ∀ v, 1 ≤ (enc v).length) : WR (RowQ toC sz V) (encL enc) (lsF toC sz f) := by
  intro h0 h out bs r v Q ho e0 hr hl K
  unfold lsF
  rw [fu] at hl
  have hvl := af8 (vs := v) hp
  have hlen := hr.len
  rw [hlen]
  refine agc (by omega) ho e0 (by omega) fun o1 h1 p1 e1 => ?_
  refine akz (enc := enc) (vs := v) rfl hp p1 e1 (by rw [List.length_append, aF]; omega) (fun i hi out h bs K0 ho e hl K1 => ?_) fun o2 h2 p2 e2 => K o2 h2 (by rw [abj, ← List.append_assoc]; exact p2) e2
  refine hr.ldE e (i := (i : Int)) rfl hi fun y hy => H ho e hy hl fun o3 h3 p3 e3 => LetI ?_
  rw [w64 (by omega) (by omega)]
  exact K1 o3 h3 p3 e3
theorem RowQ.one {toV : β → Value} {s : Sl} {ms : List α} {hh : Heap} (q : RowQ (fun x => [toV x]) 1 V h s ms) (e : Ext h hh) {j : Nat} {k : β → Prop} (hj : j < ms.length) (K : ∀ y, V h y ms[j] → k y) : idxS s (j : Int) 1 fun a => Lift.load toV a hh k := by
  refine q.atE e (i := (j : Int)) (j := j) rfl hj fun a y hc hy => ?_
  have := cells?_get _ _ _ hc 0 (by simp)
  exact ⟨y, by simpa [Addr.add] using this, K y hy⟩
theorem WR.list1 {toV : β → Value} (H : WR V enc f) (hp : ∀ v, 1 ≤ (enc v).length) : WR (RowQ (fun x => [toV x]) 1 V) (encL enc) (ls1 toV f) := by
  intro h0 h out bs r v Q ho e0 hr hl K
  unfold ls1
  rw [fu] at hl
  have hvl := af8 (vs := v) hp
  have hlen := hr.len
  rw [hlen]
  refine agc (by omega) ho e0 (by omega) fun o1 h1 p1 e1 => ?_
  refine akz (enc := enc) (vs := v) rfl hp p1 e1 (by rw [List.length_append, aF]; omega) (fun i hi out h bs K0 ho e hl K1 => ?_) fun o2 h2 p2 e2 => K o2 h2 (by rw [abj, ← List.append_assoc]; exact p2) e2
  refine RowQ.one hr e hi fun y hy => H ho e hy hl fun o3 h3 p3 e3 => LetI ?_
  rw [w64 (by omega) (by omega)]
  exact K1 o3 h3 p3 e3
end
theorem lI (v : Int) : 1 ≤ (encI v).length := by unfold encI; rw [aF]; decide
theorem lF (v : Bool) : 1 ≤ (encF v).length := by unfold encF; rw [aF]; decide
theorem lR (v : LR) : 1 ≤ (encR v).length := by rw [kA]; omega
theorem lApp {a b : List Nat} (h : 1 ≤ a.length) : 1 ≤ (a ++ b).length := by rw [List.length_append]; omega
theorem lD (v : LD) : 1 ≤ (encD v).length := lApp (lR _)
theorem lIs (v : List Int) : 1 ≤ (j8 v).length := by unfold j8; rw [fu]; omega
theorem amM {h : Heap} {s : Sl} {xs : List Int} (hr : RJ' h s xs) : RowQ (fun n => [Value.int .i64 n]) 1 (fun _ r v => r = v) h s xs := by
  refine ⟨hr.cap, xs, ⟨hr.len, fun i hi => ?_⟩, ?_⟩
  · obtain ⟨a, ha, hc⟩ := hr.get hi
    refine ⟨a, ha, ?_⟩
    have : cell? h ((a.add (i * 1)).add 0) = some (Value.int .i64 xs[i]) := by rw [Nat.mul_one, add0]; exact hc
    unfold cells?
    rw [this]
    rfl
  · clear hr
    induction xs with
    | nil => exact .nil
    | cons x l ih => exact .cons rfl ih
theorem amr : WR RJ' j8 fun out l h Q => bp out l h Q := by
  intro h0 h out bs r v Q ho e0 hr hl K
  exact WR.list1 (toV := Value.int .i64) wr_I lI ho e0 (amM hr) hl K
theorem ane : WR LLX eLL fun out l h Q => lz out l h Q := WR.list1 (toV := Sl.toV) amr lIs
theorem wr_E : WR EX eE fun out e h Q => mu out e h Q := (wr_I.seq wr_D).mem
theorem amH : WR (RowQ C7 7 EX) (encL eE) fun out l h Q => jy out l h Q := WR.list wr_E fun _ => lApp (lI _)
theorem wr_P : WR PX eP fun out p h Q => xy out p h Q := by
  intro h0 h out bs r v Q ho e0 hr hl K
  unfold eP at hl K
  have hlA : (encR v.1 ++ encL eM v.2).length = (encR v.1).length + (8 + (eN eM v.2).length) := by rw [List.length_append, fu]
  rw [hlA] at hl
  have hp : ∀ v, 1 ≤ (eM v).length := fun _ => lApp (lI _)
  have hvl := af8 (vs := v.2) hp
  have hlen := hr.2.len
  refine ak fun h1 e1 => wr_R (ho.ext e1) (e0.trans e1) hr.1 (by omega) fun o2 h2 p2 e2 => ?_
  rw [hlen]
  refine agc (by omega) p2 e2 (by rw [List.length_append]; omega) fun o3 h3 p3 e3 => ?_
  refine akz (enc := eM) (vs := v.2) rfl hp p3 e3 (by rw [List.length_append, List.length_append, aF]; omega) (fun i hi out h bs K0 ho e hl K1 => ?_) fun o4 h4 p4 e4 => K o4 h4 (by rw [abj]; simpa [List.append_assoc] using p4) e4
  refine hr.2.atB e (i := (i : Int)) (j := i) rfl hi fun a y hc hy => ?_
  have l1 : cell? h0 (a.add 0) = some (Value.int .i64 y.1) := by
    have := cells?_get _ _ _ hc 0 (by simp [C4, bd])
    simpa [C4, bd] using this
  refine ⟨y.1, ao e l1 (by simp), ?_⟩
  refine hr.2.atB e (i := (i : Int)) (j := i) rfl hi fun a' y' hc' hy' => ?_
  refine ⟨co y', aO e (al1 hc'), ?_⟩
  unfold eM at hl K1
  rw [List.length_append] at hl
  refine wr_I ho e hy.1 (by omega) fun o5 h5 p5 e5 => ⟨by exact aO e5 (al1 hc'), wr_R p5 e5 hy'.2 (by rw [List.length_append]; omega) fun o6 h6 p6 e6 => LetI ?_⟩
  rw [w64 (by omega) (by omega)]
  exact K1 o6 h6 (by rw [← List.append_assoc]; exact p6) e6
theorem amT : WR PsX (encL eP) fun out l h Q => kQ out l h Q := WR.list wr_P fun _ => lApp (lR _)
end Go.Sh.Pk

namespace Go.Sh.Pk
open Go Go.Lift
variable {h0 h h' : Heap} {a : Addr} {z N : Nat}
theorem amX {α : Type} {l : List α} (h : l.length = 6) : ∃ a b c d e f, l = [a, b, c, d, e, f] := by
  match l, h with
  | [a, b, c, d, e, f], _ => exact ⟨a, b, c, d, e, f, rfl⟩
theorem yB {c : Addr} {Q : Option Addr × Option Addr × Option Addr × Option Addr × Option Addr × Option Addr → Heap → Prop} (K : ∀ h', Ext h h' → Q (some (c.add 27), some (c.add 28), some (c.add 29), some (c.add 30), some (c.add 31), some (c.add 32)) h') : jX (some c) h Q :=
  ak fun h' e => ⟨c, rfl, c, rfl, c, rfl, c, rfl, c, rfl, c, rfl, K h' e⟩
set_option maxHeartbeats 400000 in
theorem ajQ : TS h0 a z N pW (fun h Q => jI (some a) h Q) WX := by
  intro h st Q pj K
  refine ak fun h1 e1 => tF fun c h2 hc hcb e2 s2 => ?_
  have pj2 := (pj.ext e1).ext e2
  have han := pj.an
  have hs1 := e1.size; have hs2 := e2.size
  refine (aly.tc.sts (c := c) (n := 33) 0 aG (fun _ => by show 0 + 7 ≤ 33; decide)) pj2 hc rfl (by omega) (by omega) fun y1 t1 p1 c1 l1 k1 d1 => ?_
  have u1 := k1.size
  refine (ts_I.tc (c := c) (n := 33)) p1 c1 l1 (by omega) (by omega) fun i1 t2 p2 c2 l2 k2 d2 => ?_
  have u2 := k2.size
  refine (ts_I.tc (c := c) (n := 33)) p2 c2 l2 (by omega) (by omega) fun i2 t3 p3 c3 l3 k3 d3 => ?_
  have u3 := k3.size
  refine Cs.stS c3 7 [Value.int .i64 i1, Value.int .i64 i2] (by rw [l3]; show 7 + 2 ≤ 33; decide) fun t4 c4 k4 s4 => ?_
  have kc : ∀ b, (some c.block : Option Nat) = some b → N ≤ b := fun b hb => by cases hb; omega
  have kF : ∀ {x y : Heap}, Keep (some c.block) x y → FK a.block c.block x y := fun k => FK.of k fun b hb => by cases hb; exact .inr rfl
  have p4 := p3.other k4 kc
  refine (alO.tc.sts (c := c) (n := 33) 9 ag (fun _ => by show 9 + 8 ≤ 33; decide)) p4 c4 (by rw [rV, l3]) (by omega) (by omega) fun y3 t5 p5 c5 l5 k5 d5 => ?_
  have u5 := k5.size
  refine (amd.tc (c := c) (n := 33)) p5 c5 l5 (by omega) (by omega) fun q1 t6 p6 c6 l6 k6 d6 => ?_
  have u6 := k6.size
  refine (amd.tc (c := c) (n := 33)) p6 c6 l6 (by omega) (by omega) fun q2 t7 p7 c7 l7 k7 d7 => ?_
  have u7 := k7.size
  refine Cs.stS c7 17 [Sl.toV q1, Sl.toV q2] (by rw [l7]; show 17 + 2 ≤ 33; decide) fun t8 c8 k8 s8 => ?_
  have p8 := p7.other k8 kc
  refine (amy.tc.sts (c := c) (n := 33) 19 cD (fun _ => by show 19 + 5 ≤ 33; decide)) p8 c8 (by rw [rV, l7]) (by omega) (by omega) fun y5 t9 p9 c9 l9 k9 d9 => ?_
  have u9 := k9.size
  refine (amC.tc.st (c := c) (n := 33) 24 Sl.toV (by decide)) p9 c9 l9 (by omega) (by omega) fun y6 ta pa ca la ka da => ?_
  have ua := ka.size
  refine (ts_I.tc.st (c := c) (n := 33) 25 (Value.int .i64) (by decide)) pa ca la (by omega) (by omega) fun y7 tb pb cb lb kb db => ?_
  have ub := kb.size
  refine (amv.tc.st (c := c) (n := 33) 26 Sl.toV (by decide)) pb cb lb (by omega) (by omega) fun y8 td pd cd ld kd dd => ?_
  have ud := kd.size
  refine yB fun h3' e3 => ?_
  dsimp only
  have p3' := pd.ext e3
  have c3' := Cs.keep cd e3 (by simp)
  have hs3' := e3.size
  refine TS.loop (E := fun _ h => _) (e := 6) (m := 6) (k0 := 27) (n := 33) (toV := Value.int .i64) (c := c) ts_I (by decide) (by decide) (fun j hj => ?_) rfl p3' c3' ld (by omega) (by omega) fun rs6 h4 hl6 p4' c4 k4' d4' => ?_
  · match j, hj with
    | 0, _ => rfl
    | 1, _ => rfl
    | 2, _ => rfl
    | 3, _ => rfl
    | 4, _ => rfl
    | 5, _ => rfl
  have hs4 := k4'.size
  obtain ⟨n1, n2, n3, n4, n5, n6, rfl⟩ := amX hl6
  simp only [aG, ag, cD, putL, List.set_cons_zero, List.set_cons_succ, List.map_cons, List.map_nil, Nat.reduceAdd] at c4
  have c4 : Cs h4 c (C33 (mk33 (y1, (i1, i2), y3, (q1, q2), y5, y6, y7, y8) n1 n2 n3 n4 n5 n6)) := c4
  have hput : ∀ x : S33, putL (C33 x) 0 (C33 x) = C33 x := fun x => by simp only [C33, ae, putL, List.set_cons_zero, List.set_cons_succ, Nat.reduceAdd]
  refine Cs.again c4 rfl (hput _) fun h7 z7 s7 => ?_
  have fe := kF z7
  have fd := (FK.of (a := a.block) (c := c.block) e3 fun b hb => by cases hb).trans (k4'.trans fe)
  have fb := kd.trans fd
  have fa := kb.trans fb
  have f9 := ka.trans fa
  have f8 := k9.trans f9
  have f7 := (kF k8).trans f8
  have f6 := k7.trans f7
  have f5 := k6.trans f6
  have f4 := k5.trans f5
  have f3 := (kF k4).trans f4
  have f2 := k3.trans f3
  have f1 := k2.trans f2
  refine K _ h7 ?_ (FK.out (e1.trans e2) (k1.trans f1) (by omega)) fun v' rest hv => ?_
  · have e : nx pW st = nx (pN pI 6) (nx (pL pF 1) (nx pI (nx (pL pU 59) (nx pTb (nx pIs (nx pIs (nx pSea (nx pI (nx pI (nx ag1 st)))))))))) := by unfold pW pV; simp only [ad3]
    rw [e]
    exact p4'.other z7 kc
  · obtain ⟨_, g0, g9⟩ := iF (p := pV) (q := pN pI 6) hv
    obtain ⟨_, g1, g2⟩ := iF (p := ag1) g0
    obtain ⟨_, g2, g3⟩ := iF (p := pB pI pI) g2
    obtain ⟨_, ga, gb⟩ := iF (p := pI) (q := pI) g2
    obtain ⟨_, g4, g5⟩ := iF (p := pSea) g3
    obtain ⟨_, g5, g6⟩ := iF (p := pB pIs pIs) g5
    obtain ⟨_, gc, gd⟩ := iF (p := pIs) (q := pIs) g5
    obtain ⟨_, g6, g7⟩ := iF (p := pTb) g6
    obtain ⟨_, g7, g8⟩ := iF (p := pL pU 59) g7
    obtain ⟨_, g8, ge⟩ := iF (p := pI) (q := pL pF 1) g8
    unfold pV at g9
    simp only [ad3] at g4 gc gd g6 g7 g8 ge g9
    have a1 := Di.tail (d1 _ _ g1) f1 (by omega) (by omega) (show h.size ≤ h2.size by omega)
    have a2 := Di.tail (d2 _ _ ga) f2 (by omega) (by omega) (show h.size ≤ t1.size by omega)
    have a3 := Di.tail (d3 _ _ gb) f3 (by omega) (by omega) (show h.size ≤ t2.size by omega)
    have a4 := Di.tail (d5 _ _ g4) f5 (by omega) (by omega) (show h.size ≤ t4.size by omega)
    have a5 := Di.tail (d6 _ _ gc) f6 (by omega) (by omega) (show h.size ≤ t5.size by omega)
    have a6 := Di.tail (d7 _ _ gd) f7 (by omega) (by omega) (show h.size ≤ t6.size by omega)
    have a7 := Di.tail (d9 _ _ g6) f9 (by omega) (by omega) (show h.size ≤ t8.size by omega)
    have a8 := Di.tail (da _ _ g7) fa (by omega) (by omega) (show h.size ≤ t9.size by omega)
    have a9 := Di.tail (db _ _ g8) fb (by omega) (by omega) (show h.size ≤ ta.size by omega)
    have aa := Di.tail (dd _ _ ge) fd (by omega) (by omega) (show h.size ≤ tb.size by omega)
    have ab := Di.tail (d4' _ _ g9) fe (by omega) (by omega) (show h.size ≤ h3'.size by omega)
    refine ((((((((((a1.and a2).and a3).and a4).and a5).and a6).and a7).and a8).and a9).and aa).and ab).imp fun h y => ?_
    obtain ⟨⟨⟨⟨⟨⟨⟨⟨⟨⟨y1, y2⟩, y3⟩, y4⟩, y5⟩, y6⟩, y7⟩, y8⟩, y9⟩, ya⟩, yb⟩ := y
    exact ⟨_, n1, n2, n3, n4, n5, n6, rfl, ⟨y1, Prod.ext y2 y3, y4, y5, y6, y7, y8, y9, ya⟩, (alt yb).symm⟩
end Go.Sh.Pk

namespace Go.Sh.Pk
open Go Go.Lift
section
variable {α β δ : Type} {V : Heap → β → α → Prop} {enc : α → List Nat} {f : Sl → β → Heap → (Sl → Heap → Prop) → Prop}
theorem WR.comap (c : δ → β) (H : WR V enc f) : WR (fun h x v => V h (c x) v) enc fun out x h Q => f out (c x) h Q := fun _ _ _ _ _ _ _ ho e0 hr hl K => H ho e0 hr hl K
end
def fA (out : Sl) (a : A9) (h : Heap) (Q : Sl → Heap → Prop) : Prop := mem h fun h => ay out a.1 h fun o h => ay o a.2.1 h fun o h => ay o a.2.2.1 h fun o h => gg o a.2.2.2 h Q
def fC (out : Sl) (a : Sl × Bool × Int) (h : Heap) (Q : Sl → Heap → Prop) : Prop := mem h fun h => bp out a.1 h fun o h => fF o a.2.1 h fun o h => ay o a.2.2 h Q
def fSea (out : Sl) (x : S8) (h : Heap) (Q : Sl → Heap → Prop) : Prop := lsF aZ 3 fC out x.1 h fun o h => lz o x.2.1 h fun o h => bp o x.2.2.1 h fun o h => bp o x.2.2.2.1 h fun o h => bp o x.2.2.2.2.1 h fun o h => bp o x.2.2.2.2.2.1 h fun o h => bp o x.2.2.2.2.2.2.1 h fun o h => ay o x.2.2.2.2.2.2.2 h Q
def fTb (out : Sl) (x : S5) (h : Heap) (Q : Sl → Heap → Prop) : Prop := bp out x.1 h fun o h => kQ o x.2.1 h fun o h => lsF C6 6 (fun out n h Q => gg out n h Q) o x.2.2.1 h fun o h => jy o x.2.2.2.1 h fun o h => jy o x.2.2.2.2 h Q
def fU (out : Sl) (x : U10) (h : Heap) (Q : Sl → Heap → Prop) : Prop := mem h fun h => ay out x.1 h fun o h => fF o x.2.1 h fun o h => mu o (x.2.2.1, x.2.2.2.1, x.2.2.2.2.1, x.2.2.2.2.2.1, x.2.2.2.2.2.2.1, x.2.2.2.2.2.2.2.1, x.2.2.2.2.2.2.2.2.1) h fun o h => ay o x.2.2.2.2.2.2.2.2.2 h Q
def fV (out : Sl) (x : Pt) (h : Heap) (Q : Sl → Heap → Prop) : Prop := kz out x.1 h fun o h => ay o x.2.1.1 h fun o h => ay o x.2.1.2 h fun o h => fSea o x.2.2.1 h fun o h => bp o x.2.2.2.1.1 h fun o h => bp o x.2.2.2.1.2 h fun o h => fTb o x.2.2.2.2.1 h fun o h => lsF CU 10 fU o x.2.2.2.2.2.1 h fun o h => ay o x.2.2.2.2.2.2.1 h fun o h => ls1 Value.bool (fun out n h Q => fF out n h Q) o x.2.2.2.2.2.2.2 h Q
theorem lP (v : LP) : 1 ≤ (eP v).length := lApp (lR _)
theorem wr_A : WR AX eA fA := (wr_I.seq (wr_I.seq (wr_I.seq wr_D))).mem
theorem anj : WR (RowQ C9 9 AX) (encL eA) (lsF C9 9 fA) := WR.list (toC := C9) (sz := 9) wr_A fun _ => lApp (lI _)
theorem amN : WR ProbX aak fun out p h Q => kz out p h Q := (wr_I.seq (wr_I.seq (amT.seq (anj.seq (ane.seq (amr.seq amT)))))).mem
theorem wr_C : WR CX eC fC := (amr.seq (wr_F.seq wr_I)).mem
theorem anr : WR (RowQ aZ 3 CX) (encL eC) (lsF aZ 3 fC) := WR.list (toC := aZ) (sz := 3) wr_C fun _ => lApp (lIs _)
theorem am9 : WR SeaX eSea fSea := by
  intro h0 h out bs r v Q ho e0 hr hl K
  have H := anr.seq (ane.seq (amr.seq (amr.seq (amr.seq (amr.seq (amr.seq wr_I))))))
  obtain ⟨⟨⟨v1, v2⟩, v3⟩, v4⟩ := v
  obtain ⟨c1, c2, c3, c4⟩ := hr
  dsimp only at c1 c2 c3 c4
  rcases c3 with _ | ⟨r1, c3⟩
  rcases c3 with _ | ⟨r2, c3⟩
  rcases c3 with _ | ⟨r3, c3⟩
  rcases c3 with _ | ⟨r4, c3⟩
  rcases c3 with _ | ⟨r5, c3⟩
  cases c3
  rename_i w1 w2 w3 w4 w5
  have e : eSea (((v1, v2), [w1, w2, w3, w4, w5]), v4) = encL eC v1 ++ (eLL v2 ++ (j8 w1 ++ (j8 w2 ++ (j8 w3 ++ (j8 w4 ++ (j8 w5 ++ encI v4)))))) := by simp [eSea, eN, List.append_assoc]
  rw [e] at hl K
  exact H (v := (v1, v2, w1, w2, w3, w4, w5, v4)) ho e0 ⟨c1, c2, r1, r2, r3, r4, r5, c4⟩ hl K
theorem ans : WR (RowQ C6 6 DX) (encL encD) (lsF C6 6 fun out n h Q => gg out n h Q) := WR.list (toC := C6) (sz := 6) wr_D lD
theorem ana : WR TbX eTb fTb := amr.seq (amT.seq (ans.seq (amH.seq amH)))
theorem wr_U : WR UX eU fU := WR.comap (fun x : U10 => (x.1, x.2.1, (x.2.2.1, x.2.2.2.1, x.2.2.2.2.1, x.2.2.2.2.2.1, x.2.2.2.2.2.2.1, x.2.2.2.2.2.2.2.1, x.2.2.2.2.2.2.2.2.1), x.2.2.2.2.2.2.2.2.2)) (wr_I.seq (wr_F.seq (wr_E.seq wr_I))).mem
theorem ani : WR (RowQ CU 10 UX) (encL eU) (lsF CU 10 fU) := WR.list (toC := CU) (sz := 10) wr_U fun _ => lApp (lI _)
theorem amG : WR (RowQ CB 1 fun _ r v => r = v) (encL encF) (ls1 Value.bool fun out n h Q => fF out n h Q) := WR.list1 (toV := Value.bool) wr_F lF
theorem wr_V : WR (fun h (x : Pt) (v : LV) => ProbX h x.1 v.1 ∧ (x.2.1.1 = v.2.1.1 ∧ x.2.1.2 = v.2.1.2) ∧ SeaX h x.2.2.1 v.2.2.1 ∧ (RJ' h x.2.2.2.1.1 v.2.2.2.1.1 ∧ RJ' h x.2.2.2.1.2 v.2.2.2.1.2) ∧ TbX h x.2.2.2.2.1 v.2.2.2.2.1 ∧ RowQ CU 10 UX h x.2.2.2.2.2.1 v.2.2.2.2.2.1 ∧ x.2.2.2.2.2.2.1 = v.2.2.2.2.2.2.1 ∧ RowQ CB 1 (fun _ r v => r = v) h x.2.2.2.2.2.2.2 v.2.2.2.2.2.2.2) eV fV :=
  amN.seq ((wr_I.seq wr_I).seq (am9.seq ((amr.seq amr).seq (ana.seq (ani.seq (wr_I.seq amG))))))
def fN (o : Sl) (l : List Int) (h : Heap) (Q : Sl → Heap → Prop) : Prop :=
  new (l.map (Value.int .i64)) h fun a h => Let ((⟨some a, 6, 6⟩ : Sl) : Sl) fun n =>
  loop (fun (s0 : Sl × Int) h1 (K0 : (Sl × Int) → Heap → Prop) => iteB (decide (s0.2 < ((n.len : Nat) : Int))) (idxS n s0.2 1 fun a => Lift.load (Value.int .i64) a h1 fun v => ay s0.1 v h1 fun v1 h2 => Let (IntKind.wrap .i64 (s0.2 + 1) : Int) fun i => K0 (v1, i) h2) (Q s0.1 h1)) (o, 0) h
theorem ag2 (x : Pt) (n1 n2 n3 n4 n5 n6 : Int) (h : Heap) (Q : Sl → Heap → Prop) :
    jx (mk33 x n1 n2 n3 n4 n5 n6) h Q = mem h fun h => new [] h fun a h => ay (⟨some a, 0, 0⟩ : Sl) 1 h fun o h => fV o x h fun o h => fN o [n1, n2, n3, n4, n5, n6] h Q := by kernel_rfl
theorem ads {hb h : Heap} {s : S33} {v : LW} {Q : Sl → Heap → Prop} (hw : WX hb s v) (e : Ext hb h) (hl : (bsBE 8 1 ++ eW v).length ≤ 3100) (K : ∀ r h', RI .u8 h' r (bsBE 8 1 ++ eW v) → Ext hb h' → Q r h') : jx s h Q := by
  obtain ⟨x, n1, n2, n3, n4, n5, n6, rfl, hp, hv⟩ := hw
  obtain ⟨v, ns⟩ := v
  dsimp only at hp hv
  subst hv
  have hl2 : (eW (v, [n1, n2, n3, n4, n5, n6])).length = (eV v).length + 48 := by simp [eW, eN, encI, aF]
  rw [List.length_append, aF, hl2] at hl
  rw [ag2]
  refine ak fun h1 e1 => ?_
  have e1 := e.trans e1
  intro T
  have e2 : Ext h1 (h1.push (.cells ([] : List Value).toArray T (0, 0))) := Ext.push _ _
  have ho := Own.new (toV := fun n : Nat => Value.int .u8 (n : Int)) (h := h1) (ys := []) (cs := []) (T := T) rfl
  generalize (h1.push (.cells ([] : List Value).toArray T (0, 0)) : Heap) = h2 at *
  have ho : OwnI .u8 hb.size h2 ⟨some ⟨h1.size, 0, none⟩, 0, 0⟩ [] := ho.mono e1.size
  refine agc (n := 1) (by decide) ho (e1.trans e2) (Nat.zero_le _) fun o3 h3 p3 e3 => ?_
  refine wr_V (r := x) (v := v) p3 e3 ⟨hp.pr, ⟨congrArg Prod.fst hp.li, congrArg Prod.snd hp.li⟩, hp.se, ⟨hp.q1, hp.q2⟩, hp.ta, hp.un, hp.as, hp.ph⟩ (by rw [List.length_append, aF, List.length_nil]; omega) fun o4 h4 p4 e4 => ?_
  refine tF fun c h5 c5 hcb e5 s5 => LetI ?_
  have p5 := p4.ext e5
  have hlt := fun b hb => (p4.lt (b := b) hb).2
  have hbs : ([] ++ bsBE 8 1 ++ eV v).length = 8 + (eV v).length := by rw [List.length_append, List.nil_append, aF]
  generalize hB : ([] ++ bsBE 8 1 ++ eV v) = B at *
  refine loop.inv (fun (s0 : Sl × Int) h' => ∃ i : Nat, s0.2 = (i : Int) ∧ i ≤ 6 ∧ OwnI .u8 hb.size h' s0.1 (B ++ eN encI ([n1, n2, n3, n4, n5, n6].take i)) ∧ G1 o4 s0.1 h5 h') (fun s0 _ => 6 - s0.2.toNat) ⟨0, rfl, Nat.zero_le _, by simpa [eN] using p5, G1.ext (Keep.refl _ _)⟩ ?_
  rintro ⟨o, _⟩ h6 ⟨i, rfl, hi, p6, g6⟩
  dsimp only at p6 g6 ⊢
  refine ⟨fun hlt2 => ?_, fun hge => ?_⟩
  · simp only [decide_eq_true_eq] at hlt2
    have hi' : i < 6 := by have : (i : Int) < ((6 : Nat) : Int) := hlt2; omega
    have hc := (c5.cell i hi').1
    have hc6 : cell? h6 (c.add i) = some (Value.int .i64 ([n1, n2, n3, n4, n5, n6][i]'hi')) := by
      rw [ao g6.k hc (by rw [aj]; intro e; have := hlt _ e.symm; omega)]
      match i, hi' with
      | 0, _ => rfl
      | 1, _ => rfl
      | 2, _ => rfl
      | 3, _ => rfl
      | 4, _ => rfl
      | 5, _ => rfl
    refine ⟨c, rfl, ⟨by omega, hlt2⟩, _, by rw [Int.toNat_natCast, Nat.mul_one]; exact hc6, ?_⟩
    have e6 : Ext hb h6 := fI (e4.trans e5) g6.k fun b hb => (p4.lt hb).1
    have hB6 : (eN encI ([n1, n2, n3, n4, n5, n6].take i)).length ≤ 48 := by
      have := ak0 (enc := encI) [n1, n2, n3, n4, n5, n6] i
      simpa [eN, encI, aF] using this
    refine ajj p6 e6 (by rw [List.length_append, hbs]; omega) fun o7 h7 p7 g7 => LetI ?_
    rw [w64 (by omega) (by omega)]
    refine ⟨⟨i + 1, rfl, hi', ?_, g6.trans g7⟩, by simp only [Int.toNat_natCast]; omega⟩
    rw [afC (enc := encI) [n1, n2, n3, n4, n5, n6] hi', ← List.append_assoc]
    exact p7
  · simp only [decide_eq_false_iff_not] at hge
    have : i = 6 := by have : ¬ (i : Int) < ((6 : Nat) : Int) := hge; omega
    subst this
    refine K o h6 ?_ (fI (e4.trans e5) g6.k fun b hb => (p4.lt hb).1)
    have := p6.r
    rw [← hB] at this
    simpa [eW, List.append_assoc] using this
end Go.Sh.Pk
