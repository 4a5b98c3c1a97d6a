/-
  Laws that the proof of this claim's statement leans on, each proved under the conditions that it states.
-/
import Derived.Test.YtjppcjbmepcneaaGreatDoorUE
import Derived.Test.YtjppcjbmepcneaaGreatDoorSpW
set_option linter.unusedVariables false
set_option linter.unusedSimpArgs false
namespace Go.Sh
open Go Go.Lift
def oddG {α : Type} (toC : α → List Value) (sz : Nat) (f : α → Heap → (Bool → Heap → Prop) → Prop) (s : Sl) (Qt k : Heap → Prop) (h : Heap) : Prop :=
  loop (fun (s0 : Int) h0 (K0 : Int → Heap → Prop) =>
    iteB (decide (s0 < ((s.len : Nat) : Int))) (idxS s s0 sz fun a => loadS toC sz a h0 fun v => f v h0 fun b h' => iteB b (Qt h') (K0 (IntKind.wrap .i64 (s0 + 1)) h')) (k h0)) 0 h
theorem oddG_spec {α : Type} {toC : α → List Value} {sz : Nat} {f : α → Heap → (Bool → Heap → Prop) → Prop} {s : Sl} {Qt k : Heap → Prop} {h h0 : Heap} {ys : List α} {P : α → Prop} (hs : RS toC sz h0 s ys) (e0 : Ext h0 h) (hl : ys.length ≤ 1048576)
    (hf : ∀ y ∈ ys, ∀ h', Ext h0 h' → ∀ R : Bool → Heap → Prop, (∀ b h2, (b = false → P y) → Ext h' h2 → R b h2) → f y h' R) (Kt : ∀ h', Ext h0 h' → Qt h') (Kk : (∀ y ∈ ys, P y) → ∀ h', Ext h0 h' → Ext h h' → k h') : oddG toC sz f s Qt k h := by
  have hlen := hs.len
  refine loop.inv (fun t h' => ∃ i : Nat, t = (i : Int) ∧ i ≤ ys.length ∧ (∀ x ∈ ys.take i, P x) ∧ Ext h0 h' ∧ Ext h h') (fun t _ => ys.length - t.toNat) ⟨0, rfl, by omega, fun x hx => by simp at hx, e0, Keep.refl _ _⟩ ?_
  rintro _ h1 ⟨i, rfl, hi, hsm, e1, e1'⟩
  refine ⟨fun hlt => ?_, fun hge => ?_⟩
  · simp only [decide_eq_true_eq] at hlt
    have hi' : i < ys.length := by omega
    refine (RS.ext hs e1).ld (i := (i : Int)) (j := i) rfl hi' ?_
    refine hf _ (List.getElem_mem hi') h1 e1 _ fun b h2 hb e2 => ⟨fun _ => Kt h2 (e1.trans e2), fun hbf => ?_⟩
    refine ⟨⟨i + 1, w64 (by omega) (by omega), by omega, fun x hx => ?_, e1.trans e2, e1'.trans e2⟩, by rw [w64 (by omega) (by omega)]; omega⟩
    rw [List.take_succ_eq_append_getElem hi'] at hx
    rcases List.mem_append.1 hx with hx | hx
    · exact hsm x hx
    · simp at hx; subst hx; exact hb hbf
  · simp only [decide_eq_false_iff_not] at hge
    have : i = ys.length := by omega
    subst this
    rw [List.take_length] at hsm
    exact Kk hsm h1 e1 e1'
structure RawT (h : Heap) (x : S5) : Prop where
  bas : ∃ bs, RJ h x.1 bs
  rows : ∃ ys, RS CP 4 h x.2.1 ys ∧ x.2.1.len ≤ x.2.1.cap ∧ ∀ y ∈ ys, Raw4u h y
  vals : ∃ ys, RS C6 6 h x.2.2.1 ys ∧ x.2.2.1.len ≤ x.2.2.1.cap ∧ ∀ y ∈ ys, Raw6 h y
  lo : ∃ ys, RS C7 7 h x.2.2.2.1 ys ∧ x.2.2.2.1.len ≤ x.2.2.2.1.cap ∧ ∀ y ∈ ys, Raw6 h (eD y)
  up : ∃ ys, RS C7 7 h x.2.2.2.2 ys ∧ x.2.2.2.2.len ≤ x.2.2.2.2.cap ∧ ∀ y ∈ ys, Raw6 h (eD y)
def SmT (h : Heap) (x : S5) : Prop := ∃ t, TQ h x t ∧ TSz t 12 6
theorem Raw6.ext {h h' : Heap} {x : X6} (hx : Raw6 h x) (e : Ext h h') : Raw6 h' x := by
  obtain ⟨⟨a, b, h1⟩, ⟨c, d, h2⟩⟩ := hx
  exact ⟨⟨a, b, h1.ext e⟩, ⟨c, d, h2.ext e⟩⟩
theorem odd1uspec {h0 h : Heap} {x : X6} {R : Bool → Heap → Prop} (hr : Raw6 h0 x) (e0 : Ext h0 h) (K : ∀ b h2, (b = false → Sm h0 x) → Ext h h2 → R b h2) :
    mem h fun h1 => new [Value.bool x.1, Sl.toV x.2.1, Sl.toV x.2.2.1, Value.bool x.2.2.2.1, Sl.toV x.2.2.2.2.1, Sl.toV x.2.2.2.2.2] h1 fun a h2 => law03uOdd (⟨some a, 1, 1⟩ : Sl) h2 R := by
  refine mem_ext fun h1 e1 => ?_
  intro T
  have e2 := Ext.push h1 (.cells [Value.bool x.1, Sl.toV x.2.1, Sl.toV x.2.2.1, Value.bool x.2.2.2.1, Sl.toV x.2.2.2.2.1, Sl.toV x.2.2.2.2.2].toArray T (0, 0))
  have r2 : RR6 _ (⟨some ⟨h1.size, 0, none⟩, 1, 1⟩ : Sl) [x] := RS.new (h := h1) (cs := [Value.bool x.1, Sl.toV x.2.1, Sl.toV x.2.2.1, Value.bool x.2.2.2.1, Sl.toV x.2.2.2.2.1, Sl.toV x.2.2.2.2.2]) (T := T) len6 rfl rfl
  exact Odd_spec r2 (e0.trans (e1.trans e2)) (by simp) (fun y hy => by simp at hy; subst hy; exact hr) fun b h3 hb e3 => K b h3 (fun hf => hb hf x (by simp)) (e1.trans (e2.trans e3))
theorem odd4uspec {h0 h : Heap} {x : X4} {R : Bool → Heap → Prop} (hr : Raw4u h0 x) (e0 : Ext h0 h) (K : ∀ b h2, (b = false → SmP h0 x) → Ext h h2 → R b h2) :
    mem h fun h1 => seq (fun (K0 : Bool → Heap → Prop) => iteB (decide (((x.2.2.2.len : Nat) : Int) > 12)) (K0 true h1) (new [Value.bool x.1, Sl.toV x.2.1, Sl.toV x.2.2.1, Sl.toV x.2.2.2] h1 fun a h2 => law12uOdd (⟨some a, 1, 1⟩ : Sl) h2 fun v h3 => K0 v h3)) R := by
  refine mem_ext fun h1 e1 => seq.dup ⟨fun _ => K true h1 nofun e1, fun _ => ?_⟩
  intro T
  have e2 := Ext.push h1 (.cells [Value.bool x.1, Sl.toV x.2.1, Sl.toV x.2.2.1, Sl.toV x.2.2.2].toArray T (0, 0))
  have r2 : RS CP 4 _ (⟨some ⟨h1.size, 0, none⟩, 1, 1⟩ : Sl) [x] := RS.new (h := h1) (cs := [Value.bool x.1, Sl.toV x.2.1, Sl.toV x.2.2.1, Sl.toV x.2.2.2]) (T := T) len4x rfl rfl
  exact OddP_spec r2 (e0.trans (e1.trans e2)) (by simp) (fun y hy => by simp at hy; subst hy; exact hr.1) fun b h3 hb e3 => K b h3 (fun hf => hb hf x (by simp)) (e1.trans (e2.trans e3))
theorem All2.choose {α β : Type} {P : α → β → Prop} : ∀ {l : List α}, (∀ x ∈ l, ∃ b, P x b) → ∃ ms, All2 P l ms
  | [], _ => ⟨[], .nil⟩
  | x :: l, h => by
    obtain ⟨b, hb⟩ := h x (by simp)
    obtain ⟨ms, hm⟩ := All2.choose (l := l) fun y hy => h y (by simp [hy])
    exact ⟨b :: ms, .cons hb hm⟩
theorem All2.right {α β : Type} {P : α → β → Prop} {S : β → Prop} {l : List α} {ms : List β} (h : All2 P l ms) (hS : ∀ a b, P a b → S b) : ∀ m ∈ ms, S m := by
  induction h with
  | nil => intro m hm; simp at hm
  | cons h1 _ ih => intro m hm; rcases List.mem_cons.1 hm with rfl | hm; exact hS _ _ h1; exact ih m hm
theorem SmT.of {h : Heap} {x : S5} {bs : List Int} {ys : List X4} {vs : List X6} {ls us : List E7} (b : RJ h x.1 bs) (r : RS CP 4 h x.2.1 ys) (rc : x.2.1.len ≤ x.2.1.cap) (v : RS C6 6 h x.2.2.1 vs) (vc : x.2.2.1.len ≤ x.2.2.1.cap)
    (l : RS C7 7 h x.2.2.2.1 ls) (lc : x.2.2.2.1.len ≤ x.2.2.2.1.cap) (u : RS C7 7 h x.2.2.2.2 us) (uc : x.2.2.2.2.len ≤ x.2.2.2.2.cap) (n1 : bs.length ≤ 20) (n2 : ys.length ≤ 6) (n3 : vs.length ≤ 20) (n4 : ls.length ≤ 20) (n5 : us.length ≤ 20)
    (s1 : ∀ y ∈ ys, SmP h y) (s2 : ∀ y ∈ vs, Sm h y) (s3 : ∀ y ∈ ls, Sm h (eD y)) (s4 : ∀ y ∈ us, Sm h (eD y)) : SmT h x := by
  obtain ⟨ps, hp⟩ := All2.choose (P := fun y p => PQ h y p ∧ Few4 p) s1
  obtain ⟨ds, hd⟩ := All2.choose (P := fun y p => DQ h y p ∧ szD p ≤ 6) s2
  have ed : ∀ {zs : List E7}, (∀ y ∈ zs, Sm h (eD y)) → ∃ es : List Eg, All2 (fun y e => EQ h y e ∧ szD e.2 ≤ 6) zs es := fun {zs} hz => All2.choose fun y hy => by
    obtain ⟨p, hp, sp⟩ := hz y hy
    exact ⟨(y.1, p), ⟨rfl, hp⟩, sp⟩
  obtain ⟨es, he⟩ := ed s3
  obtain ⟨fs, hf⟩ := ed s4
  have l1 := hp.length; have l2 := hd.length; have l3 := he.length; have l4 := hf.length
  refine ⟨⟨bs, ps, ds, es, fs⟩, ⟨b, ⟨rc, ys, r, hp.imp fun _ _ h => h.1⟩, ⟨vc, vs, v, hd.imp fun _ _ h => h.1⟩, ⟨lc, ls, l, he.imp fun _ _ h => h.1⟩, ⟨uc, us, u, hf.imp fun _ _ h => h.1⟩⟩, ?_⟩
  exact ⟨hp.right fun _ _ h => h.2.rt, hp.right fun _ _ h => h.2.n, hp.right fun _ _ h => h.2.c, hp.right fun _ _ h => h.2.m, hd.right fun _ _ h => h.2, he.right fun _ _ h => h.2, hf.right fun _ _ h => h.2, by dsimp only; omega, by dsimp only; omega, by dsimp only; omega, by dsimp only; omega, by dsimp only; omega⟩
theorem TableauRight_holds {s t : S5} {h : Heap} {Q : Bool → Heap → Prop} (ht : Tab h) (hs : RawT h s) (ht' : RawT h t) (K : ∀ h', Ext h h' → Q true h') : law14uTableauRight s t h Q := by
  refine mem_ext fun h1 e1 => speaks14uspec (R.ext ht e1) fun h2 e2 => ⟨fun hb => by simp at hb, fun _ => ?_⟩
  have e02 := e1.trans e2
  intro T
  have e3 := Ext.push h2 (.cells [Sl.toV s.1, Sl.toV s.2.1, Sl.toV s.2.2.1, Sl.toV s.2.2.2.1, Sl.toV s.2.2.2.2, Sl.toV t.1, Sl.toV t.2.1, Sl.toV t.2.2.1, Sl.toV t.2.2.2.1, Sl.toV t.2.2.2.2].toArray T (0, 0))
  have r3 : RS CT 5 _ (⟨some ⟨h2.size, 0, none⟩, 2, 2⟩ : Sl) [s, t] := RS.new (h := h2) (cs := [Sl.toV s.1, Sl.toV s.2.1, Sl.toV s.2.2.1, Sl.toV s.2.2.2.1, Sl.toV s.2.2.2.2, Sl.toV t.1, Sl.toV t.2.1, Sl.toV t.2.2.1, Sl.toV t.2.2.2.1, Sl.toV t.2.2.2.2]) (T := T) (fun _ => rfl) rfl rfl
  have hs3 : (h2.push (.cells [Sl.toV s.1, Sl.toV s.2.1, Sl.toV s.2.2.1, Sl.toV s.2.2.2.1, Sl.toV s.2.2.2.2, Sl.toV t.1, Sl.toV t.2.1, Sl.toV t.2.2.1, Sl.toV t.2.2.2.1, Sl.toV t.2.2.2.2].toArray T (0, 0))).size = h2.size + 1 := by simp
  generalize (h2.push (.cells [Sl.toV s.1, Sl.toV s.2.1, Sl.toV s.2.2.1, Sl.toV s.2.2.2.1, Sl.toV s.2.2.2.2, Sl.toV t.1, Sl.toV t.2.1, Sl.toV t.2.2.1, Sl.toV t.2.2.2.1, Sl.toV t.2.2.2.2].toArray T (0, 0)) : Heap) = h3 at *
  have e03 := e02.trans e3
  refine loop.inv (fun (i' : Int) h' => Ext h3 h' ∧ ∃ i : Nat, i' = (i : Int) ∧ i ≤ 2 ∧ ∀ x ∈ [s, t].take i, SmT h x) (fun i' _ => 2 - i'.toNat) ⟨Keep.refl _ _, 0, rfl, by omega, fun x hx => by simp at hx⟩ ?_
  rintro _ h4 ⟨e4, i, rfl, hi, hall⟩
  dsimp only
  have e04 := e03.trans e4
  refine ⟨fun hlt => ?_, fun hge => ?_⟩
  · simp only [decide_eq_true_eq] at hlt
    have hi2 : i < 2 := by omega
    refine (RS.ext r3 e4).ld (i := (i : Int)) (j := i) rfl hi2 ?_
    have htk : [s, t].take (i + 1) = [s, t].take i ++ [[s, t][i]] := List.take_succ_eq_append_getElem (l := [s, t]) hi2
    have hx : RawT h ([s, t][i]) := by
      have hm : [s, t][i] ∈ [s, t] := List.getElem_mem _
      rcases List.mem_cons.1 hm with hm | hm
      · rw [hm]; exact hs
      · simp at hm; rw [hm]; exact ht'
    generalize [s, t][i] = x at *
    obtain ⟨⟨bs, b⟩, ⟨ys, r, rc, rr⟩, ⟨vs, v, vc, vr⟩, ⟨ls, l, lc, lr⟩, ⟨us, u, uc, ur⟩⟩ := hx
    have l1 := b.len; have l2 := r.len; have l3 := v.len; have l4 := l.len; have l5 := u.len
    refine mem_ext fun h5 e5 => ?_
    have e05 := e04.trans e5
    have e45 := e4.trans e5
    refine seq.cut (fun o h' => h' = h5 ∧ (o = false → ys.length ≤ 6 ∧ vs.length ≤ 20 ∧ bs.length ≤ 20 ∧ ls.length ≤ 20 ∧ us.length ≤ 20)) ?_ ?_
    · refine ⟨fun _ => ⟨rfl, nofun⟩, fun g1 => ⟨fun _ => ⟨rfl, nofun⟩, fun g2 => ⟨fun _ => ⟨rfl, nofun⟩, fun g3 => ⟨fun _ => ⟨rfl, nofun⟩, fun g4 => ⟨rfl, fun g5 => ?_⟩⟩⟩⟩⟩
      simp only [decide_eq_false_iff_not, gt_iff_lt] at g1 g2 g3 g4 g5
      omega
    rintro o _ ⟨rfl, ho⟩
    refine ⟨fun _ => K _ e05, fun hof => ?_⟩
    obtain ⟨n2, n3, n1, n4, n5⟩ := ho hof
    refine oddG_spec (toC := CP) (sz := 4) (P := SmP h) (f := fun v h K => mem h fun h1 => seq (fun (K0 : Bool → Heap → Prop) => iteB (decide (((v.2.2.2.len : Nat) : Int) > 12)) (K0 true h1) (new [Value.bool v.1, Sl.toV v.2.1, Sl.toV v.2.2.1, Sl.toV v.2.2.2] h1 fun a h2 => law12uOdd (⟨some a, 1, 1⟩ : Sl) h2 fun v h3 => K0 v h3)) K) (h0 := h) r e05 (by omega) (fun y hy h' e' R hR => odd4uspec (rr y hy) e' hR) (fun h' e' => K h' e') (fun s1 h6 e6 e56 => ?_)
    refine oddG_spec (toC := C6) (sz := 6) (P := Sm h) (f := fun v h K => mem h fun h1 => new [Value.bool v.1, Sl.toV v.2.1, Sl.toV v.2.2.1, Value.bool v.2.2.2.1, Sl.toV v.2.2.2.2.1, Sl.toV v.2.2.2.2.2] h1 fun a h2 => law03uOdd (⟨some a, 1, 1⟩ : Sl) h2 K) (h0 := h) v e6 (by omega) (fun y hy h' e' R hR => odd1uspec (vr y hy) e' hR) (fun h' e' => K h' e') (fun s2 h7 e7 e67 => ?_)
    have q1 : RowQ C7 7 (fun _ (y m : E7) => y = m) h7 x.2.2.2.1 ls := ⟨lc, ls, RS.ext l e7, All2.ofGet rfl fun _ _ _ => rfl⟩
    have q2 : RowQ C7 7 (fun _ (y m : E7) => y = m) h7 x.2.2.2.2 us := ⟨uc, us, RS.ext u e7, All2.ofGet rfl fun _ _ _ => rfl⟩
    refine cat2uspec (fun _ _ _ _ h _ => h) len7 (by decide) one7 q1 q2 (by omega) fun r8 h8 q8 e8 => ?_
    obtain ⟨zs, rz, az⟩ := q8.row
    have hzs : zs = ls ++ us := by
      have l1 := az.length
      refine List.ext_getElem l1 fun k g1 g2 => az.get k g1 g2
    subst hzs
    have e08 := e7.trans e8
    refine oddG_spec (toC := C7) (sz := 7) (P := fun y => Sm h (eD y)) (f := fun v h K => mem h fun h1 => new [Value.bool v.2.1, Sl.toV v.2.2.1, Sl.toV v.2.2.2.1, Value.bool v.2.2.2.2.1, Sl.toV v.2.2.2.2.2.1, Sl.toV v.2.2.2.2.2.2] h1 fun a h2 => law03uOdd (⟨some a, 1, 1⟩ : Sl) h2 K) (h0 := h8) rz (Keep.refl _ _) (by rw [List.length_append]; omega) (fun y hy h' e' R hR => odd1uspec (x := eD y) ?_ (e08.trans e') hR) (fun h' e' => K h' (e08.trans e')) (fun s3 h9 e9 _ => ?_)
    · rcases List.mem_append.1 hy with hy | hy
      · exact lr y hy
      · exact ur y hy
    have hsm : SmT h x := SmT.of b r rc v vc l lc u uc n1 n2 n3 n4 n5 s1 s2 (fun y hy => s3 y (List.mem_append.2 (.inl hy))) (fun y hy => s3 y (List.mem_append.2 (.inr hy)))
    have e39 := ((e45.trans e56).trans e67).trans (e8.trans e9)
    refine ⟨⟨e39, i + 1, w64 (by omega) (by omega), by omega, fun y hy => ?_⟩, by rw [w64 (by omega) (by omega)]; omega⟩
    rw [htk] at hy
    rcases List.mem_append.1 hy with hy | hy
    · exact hall y hy
    · simp at hy; subst hy; exact hsm
  · simp only [decide_eq_false_iff_not] at hge
    have : i = 2 := by
      have : ((⟨some ⟨h2.size, 0, none⟩, 2, 2⟩ : Sl).len : Int) = 2 := rfl
      omega
    subst this
    obtain ⟨ts, q1, z1⟩ := hall s (by simp)
    obtain ⟨tt, q2, z2⟩ := hall t (by simp)
    have hz : 0 < h.size := by have := _root_.Go.Lift.R.lt ht rfl (by decide); omega
    refine seq.dup ?_
    refine tRight_spec ht q1 e04 z1 (by decide) (by decide) (by decide) fun b5 h5 hb5 e5 => ?_
    have e05 := e04.trans e5
    refine rRight_spec q1 e05 z1 (by decide) (by decide) (by decide) fun b6 h6 hb6 e6 => ?_
    have e06 := e05.trans e6
    have h56 : (b5 == b6) = true := by rw [beq_iff_eq, Bool.eq_iff_iff, hb5, hb6]
    refine ⟨fun _ => ?_, fun hn => by rw [h56] at hn; cases hn⟩
    refine tRight_spec ht q2 e06 z2 (by decide) (by decide) (by decide) fun b7 h7 hb7 e7 => ?_
    have e07 := e06.trans e7
    refine rRight_spec q2 e07 z2 (by decide) (by decide) (by decide) fun b8 h8 hb8 e8 => ?_
    have e08 := e07.trans e8
    have h78 : (b7 == b8) = true := by rw [beq_iff_eq, Bool.eq_iff_iff, hb7, hb8]
    refine ⟨fun _ => ?_, fun hn => by rw [h78] at hn; cases hn⟩
    refine tSame_spec (by have := e08.size; omega) (q1.ext e08) (q2.ext e08) z1 z2 (by decide) (by decide) fun b9 h9 hb9 e9 => ?_
    have e09 := e08.trans e9
    refine rSame_spec (q1.ext e09) (q2.ext e09) z1 z2 (by decide) (by decide) fun ba ha hba ea => ?_
    have e0a := e09.trans ea
    have h9a : (b9 == ba) = true := by rw [beq_iff_eq, Bool.eq_iff_iff, hb9, hba]
    refine ⟨fun _ => ?_, fun hn => by rw [h9a] at hn; cases hn⟩
    refine tSame_spec (by have := e0a.size; omega) (q1.ext e0a) (q1.ext e0a) z1 z1 (by decide) (by decide) fun bb hb hbb eb => ?_
    rw [hbb.2 rfl]
    exact K hb (e0a.trans eb)
end Go.Sh

namespace Go.Sh
open Go Go.Lift
abbrev shD : Shape := .cat shQ (.cat shQ .nil)
abbrev shE : Shape := .cat (.int .i64) (.cat shD .nil)
abbrev shTab : Shape := .cat (.slice (.int .i64)) (.cat (.slice shPoly) (.cat (.slice shD) (.cat (.slice shE) (.cat (.slice shE) .nil))))
theorem RawB.raw {h : Heap} {x : X3} (hx : RawB h x) : Raw3 h x := by
  obtain ⟨a, b, h1, _⟩ := hx
  exact ⟨a, b, h1⟩
theorem is_jB {h : Heap} {cs : List Value} (H : (Shape.slice (.int .i64)).IsB 1048576 h cs) : ∃ s : Sl, cs = [Sl.toV s] ∧ ∃ bs : List Int, RJ h s bs := by
  obtain ⟨s, rfl, xs, h2, h3, h4, h5⟩ := is_rsB (toC := fun n : Int => [Value.int .i64 n]) (F := fun _ _ => True) 1 rfl (fun r hr => by
    obtain ⟨n, rfl, _⟩ := hr
    exact ⟨n, rfl, trivial⟩) H
  refine ⟨s, rfl, xs, ?_⟩
  have hl := h2.len
  cases xs with
  | nil => exact R.nil_of (by simpa using hl)
  | cons x l =>
    obtain ⟨a, ha, _⟩ := h2.cells 0 (by simp)
    refine R.mk' hl h4 a ha fun i hi => ?_
    obtain ⟨a', ha', hc⟩ := h2.cells i hi
    rw [ha] at ha'; cases ha'
    have := cells?_get _ _ _ hc 0 (by simp)
    simpa [addr_add_add] using this
theorem is_dB {h : Heap} {cs : List Value} (H : shD.IsB 1048576 h cs) : ∃ x : X6, cs = C6 x ∧ Raw6 h x := by
  obtain ⟨l, r, rfl, h1, l2, r2, rfl, h2, rfl⟩ := H
  obtain ⟨x, rfl, hx⟩ := is_qB h1
  obtain ⟨y, rfl, hy⟩ := is_qB h2
  exact ⟨(x.1, x.2.1, x.2.2, y.1, y.2.1, y.2.2), rfl, hx.raw, hy.raw⟩
theorem is_eB {h : Heap} {cs : List Value} (H : shE.IsB 1048576 h cs) : ∃ x : E7, cs = C7 x ∧ Raw6 h (eD x) := by
  obtain ⟨l, r, rfl, ⟨n, rfl, _⟩, l2, r2, rfl, h2, rfl⟩ := H
  obtain ⟨x, rfl, hx⟩ := is_dB h2
  exact ⟨(n, x), by simp [C7, C6, C_i64ubool_sl_sl_bool_sl_sl, C_bool_sl_sl_bool_sl_sl], hx⟩
theorem is_tabB {h : Heap} {cs : List Value} (H : shTab.IsB 1048576 h cs) : ∃ x : S5, cs = CT x ∧ RawT h x := by
  obtain ⟨l1, r1, rfl, h1, l2, r2, rfl, h2, l3, r3, rfl, h3, l4, r4, rfl, h4, l5, r5, rfl, h5, rfl⟩ := H
  obtain ⟨s1, rfl, bs, g1⟩ := is_jB h1
  obtain ⟨s2, rfl, ys, a1, a2, a3, _⟩ := is_rsB (toC := CP) (F := Raw4u) 4 rfl (fun r hr => is_pB hr) h2
  obtain ⟨s3, rfl, vs, b1, b2, b3, _⟩ := is_rsB (toC := C6) (F := Raw6) 6 rfl (fun r hr => is_dB hr) h3
  obtain ⟨s4, rfl, ls, c1, c2, c3, _⟩ := is_rsB (toC := C7) (F := fun h y => Raw6 h (eD y)) 7 rfl (fun r hr => is_eB hr) h4
  obtain ⟨s5, rfl, us, d1, d2, d3, _⟩ := is_rsB (toC := C7) (F := fun h y => Raw6 h (eD y)) 7 rfl (fun r hr => is_eB hr) h5
  exact ⟨(s1, s2, s3, s4, s5), rfl, ⟨⟨bs, g1⟩, ⟨ys, a1, a3, a2⟩, ⟨vs, b1, b3, b2⟩, ⟨ls, c1, c3, c2⟩, ⟨us, d1, d3, d2⟩⟩⟩
end Go.Sh
