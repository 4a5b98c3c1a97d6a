/-
  Laws that the proof of this claim's statement leans on, each proved under the conditions that it states.
-/
import Derived.Test.YtlclchgingkkhaaGreatDoorXB
import Derived.Test.YtlclchgingkkhaaGreatDoorUE
set_option linter.unusedVariables false
set_option linter.unusedSimpArgs false
namespace Go.Sh
open Go Go.Lift
section
variable {K K' : Nat → Prop} {h h' : Heap} {x : S5} {t : TT}
theorem KK.rjn {s : Sl} {xs : List Int} (a : KK K h h') (hr : RJ h s xs) (hn : xs ≠ [] → ∀ b, s.blk = some b → ¬ K b) : RJ h' s xs := by
  have hl : ∀ x, s.a = some x → xs ≠ [] → x.block < h.size := fun x hx hne => R.lt hr hx hne
  induction a with
  | refl => exact hr
  | @step _ _ o a e ho ih =>
    cases o with
    | none => exact R.ext ih e
    | some n => exact R.keepB ih e fun x hx hne hh => (ho n rfl).elim (fun hk => hn hne x.block (by simp [Sl.blk, hx]) (hh ▸ hk)) (fun hg => by have := hl x hx hne; omega)
structure RowK {α β : Type} (toC : α → List Value) (sz : Nat) (R : (Nat → Prop) → Heap → α → β → Prop) (K : Nat → Prop) (h : Heap) (s : Sl) (ms : List β) : Prop where
  cap : s.len ≤ s.cap
  row : ∃ ys : List α, RS toC sz h s ys ∧ All2 (R K h) ys ms
  out : ms ≠ [] → ∀ b, s.blk = some b → ¬ K b
section
variable {α β : Type} {toC : α → List Value} {sz : Nat} {R : (Nat → Prop) → Heap → α → β → Prop} {s : Sl} {ms : List β}
theorem RowK.q {R' : Heap → α → β → Prop} (hR : ∀ y m, R K h y m → R' h y m) (q : RowK toC sz R K h s ms) : RowQ toC sz R' h s ms := by
  obtain ⟨ys, h1, h2⟩ := q.row
  exact ⟨q.cap, ys, h1, h2.imp hR⟩
theorem All2.ne {α β : Type} {R : α → β → Prop} {l : List α} {m : List β} (h : All2 R l m) (hl : l ≠ []) : m ≠ [] := fun hm => by
  have := h.length; rw [hm] at this; exact hl (List.length_eq_zero_iff.1 (by simpa using this))
theorem All2.ne' {α β : Type} {R : α → β → Prop} {l : List α} {m : List β} (h : All2 R l m) (hl : m ≠ []) : l ≠ [] := fun hm => by
  have := h.length; rw [hm] at this; exact hl (List.length_eq_zero_iff.1 (by simpa using this.symm))
theorem RowK.kk (h0 : 0 < sz) (hR : ∀ y m, R K h y m → R K h' y m) (a : KK K h h') (q : RowK toC sz R K h s ms) : RowK toC sz R K h' s ms := by
  obtain ⟨ys, h1, h2⟩ := q.row
  exact ⟨q.cap, ⟨ys, a.rs h0 h1 fun hne => q.out (h2.ne hne), h2.imp hR⟩, q.out⟩
theorem RowK.raise (h0 : 0 < sz) (hR : ∀ y m, R K h y m → R K' h y m) (hk : ∀ k, K' k → K k ∨ h.size ≤ k) (q : RowK toC sz R K h s ms) : RowK toC sz R K' h s ms := by
  obtain ⟨ys, h1, h2⟩ := q.row
  refine ⟨q.cap, ⟨ys, h1, h2.imp hR⟩, fun hne b hb hk' => (hk b hk').elim (q.out hne b hb) fun hg => ?_⟩
  have := RS.lt h1 h0 (h2.ne' hne) hb
  omega
theorem RowK.own {B : Nat} {ys : List α} (o : OwnS toC sz B h s ys) (hsz : ∀ x, (toC x).length = sz) (h0 : 0 < sz) (hK : ∀ k, K k → k < B) (ha : All2 (R K h) ys ms) : RowK toC sz R K h s ms :=
  ⟨o.cap h0, ⟨ys, o.rs hsz h0, ha⟩, fun _ b hb hk => by have := (o.lt hb).1; have := hK b hk; omega⟩
end
structure TK (K : Nat → Prop) (h : Heap) (x : S5) (t : TT) : Prop where
  bas : RJ h x.1 t.bs
  basn : t.bs ≠ [] → ∀ b, x.1.blk = some b → ¬ K b
  rows : RowK CP 4 PK K h x.2.1 t.ps
  vals : RowK C6 6 DK K h x.2.2.1 t.vs
  lo : RowK C7 7 EK K h x.2.2.2.1 t.lo
  up : RowK C7 7 EK K h x.2.2.2.2 t.up
theorem TK.q (q : TK K h x t) : TQ h x t := ⟨q.bas, q.rows.q fun _ _ h => h.pq, q.vals.q fun _ _ h => h.dq, q.lo.q fun _ _ h => h.eq, q.up.q fun _ _ h => h.eq⟩
theorem TK.kk (q : TK K h x t) (a : KK K h h') : TK K h' x t :=
  ⟨a.rjn q.bas q.basn, q.basn, q.rows.kk (by decide) (fun _ _ h => a.pk h) a, q.vals.kk (by decide) (fun _ _ h => a.dk h) a, q.lo.kk (by decide) (fun _ _ h => a.ek h) a, q.up.kk (by decide) (fun _ _ h => a.ek h) a⟩
theorem TK.ext (q : TK K h x t) (e : Ext h h') : TK K h' x t := q.kk (KK.ext e)
theorem TK.raise (q : TK K h x t) (hk : ∀ k, K' k → K k ∨ h.size ≤ k) : TK K' h x t where
  bas := q.bas
  basn := fun hne b hb hk' => (hk b hk').elim (q.basn hne b hb) fun hg => by
    cases ha : x.1.a with
    | none => rw [Sl.blk, ha] at hb; cases hb
    | some a =>
      have := R.lt q.bas ha hne
      have := af5 ha hb
      omega
  rows := q.rows.raise (by decide) (fun _ _ h => h.raise hk) hk
  vals := q.vals.raise (by decide) (fun _ _ h => h.raise hk) hk
  lo := q.lo.raise (by decide) (fun _ _ h => h.raise hk) hk
  up := q.up.raise (by decide) (fun _ _ h => h.raise hk) hk
structure OP (K : Nat → Prop) (B : Nat) (h : Heap) (s : Sl) (ps : List (Rat × PL)) : Prop where
  low : ∀ k, K k → k < B
  row : ∃ ys : List X4, OwnS CP 4 B h s ys ∧ All2 (fun y m => PK (fun k => K k ∨ s.blk = some k) h y m) ys ps
section
variable {B : Nat} {s : Sl} {ps : List (Rat × PL)}
theorem OP.ext (hm : OP K B h s ps) (e : Ext h h') : OP K B h' s ps := by
  obtain ⟨ys, h1, h2⟩ := hm.row
  exact ⟨hm.low, ys, h1.ext e, h2.imp fun y m h3 => h3.keep e (by simp)⟩
theorem OP.lt (hm : OP K B h s ps) {b : Nat} (hb : s.blk = some b) : B ≤ b ∧ b < h.size := by
  obtain ⟨ys, h1, h2⟩ := hm.row
  exact h1.lt hb
theorem OP.mk' (hm : OP K B h s ps) : RowK CP 4 PK K h s ps := by
  obtain ⟨ys, h1, h2⟩ := hm.row
  exact RowK.own h1 qU (by decide) hm.low (h2.imp fun y m h3 => h3.raise fun k hk => .inl (.inl hk))
theorem OP.push {y : X4} {p : Rat × PL} {k : Sl → Heap → Prop} (hm : OP K B h s ps) (hB : B ≤ h.size) (hx : PK (fun k => K k ∨ s.blk = some k) h y p) (hl : ps.length ≤ 1048576)
    (C : ∀ s' h', OP K B h' s' (ps ++ [p]) → Keep s.blk h h' → (s'.blk = s.blk ∨ ∀ b, s'.blk = some b → h.size ≤ b) → k s' h') :
    new [Value.bool y.1, Sl.toV y.2.1, Sl.toV y.2.2.1, Sl.toV y.2.2.2] h fun a h1 => aG 4 80 s (⟨some a, 1, 1⟩ : Sl) h1 k := by
  obtain ⟨ys, h1, h2⟩ := hm.row
  have hyl := h2.length
  refine h1.append1 (x := y) qU (by decide) rfl hB rfl (by omega) fun s' h' ho' k' hb => C s' h' ⟨hm.low, _, ho', ?_⟩ k' hb
  have hall : All2 (fun y m => PK (fun k => K k ∨ s.blk = some k) h y m) (ys ++ [y]) (ps ++ [p]) := h2.append (.cons hx .nil)
  refine hall.imp fun y m h3 => ?_
  have h4 : PK (fun k => (K k ∨ s.blk = some k) ∨ s'.blk = some k) h y m := h3.raise fun k hk => by
    rcases hk with hk | hk
    · exact .inl hk
    · rcases hb with hb | hb
      · exact .inl (.inr (hb ▸ hk))
      · exact .inr (hb k hk)
  exact (h4.keep k' (fun k hk => .inl (.inr hk))).raise fun k hk => by
    rcases hk with hk | hk
    · exact .inl (.inl (.inl hk))
    · exact .inl (.inr hk)
end
end
end Go.Sh

namespace Go.Sh
open Go Go.Lift
theorem vX {K : Nat → Prop} {h : Heap} {x : S5} {t : TT} {v : Int} {x0 : X6} {d : Rat × Rat} {B : Nat} {Q : (S5 × Int) → Heap → Prop} (tk : TK K h x t) (hK : ∀ k, K k → k < h.size) (hd : DK K h x0 d) (hbs : t.bs.length = t.ps.length) (hn : t.ps.length ≤ 1000) (hnv : t.vs.length ≤ 1000) (hB : B ≤ 100) (hin : ∀ p ∈ t.ps, inV t.vs.length p.2) (b1 : ∀ p ∈ t.ps, ∀ m ∈ p.2, szQ m.2 ≤ B)
    (hL : ∀ p ∈ t.ps, p.2.length * (2 * B + 4) + 2 * B + 4 ≤ 2700) (hpl : ∀ p ∈ t.ps, p.2.length ≤ 1000) (hrng : ∀ i, i < t.ps.length → 0 ≤ at0 t.bs i ∧ at0 t.bs i < (t.vs.length : Int)) (hds : ∀ i k, i < t.ps.length → k < t.ps.length → i ≠ k → (at0 t.bs i).toNat ≠ (at0 t.bs k).toNat)
    (s01 : 0 ≤ v → v < (t.vs.length : Int) → rowI t.bs v < 0 → (∀ e ∈ t.vs.set v.toNat d, szD e ≤ B) ∧ ∀ e ∈ refV t.bs t.ps 0 (t.vs.set v.toNat d), szD e ≤ B)
    (C2 : v < 0 ∨ v ≥ (t.vs.length : Int) ∨ rowI t.bs v ≥ 0 → ∀ h', Ext h h' → Q (x, 2) h')
    (C0 : ∀ r h', 0 ≤ v → v < (t.vs.length : Int) → rowI t.bs v < 0 → TK K h' (x.1, x.2.1, r, x.2.2.2.1, x.2.2.2.2) { t with vs := refV t.bs t.ps 0 (t.vs.set v.toNat d) } → Ext h h' → Q ((x.1, x.2.1, r, x.2.2.2.1, x.2.2.2.2), 0) h') : ex x v x0 h Q := by
  have q := tk.q
  have hlv := q.vals.len
  have hlr := q.rows.len
  refine aa fun h1 e1 => ?_
  refine seq.cut (fun b h' => Ext h1 h' ∧ (b = true ↔ (v < 0 ∨ v ≥ (t.vs.length : Int) ∨ rowI t.bs v ≥ 0))) ?_ ?_
  · refine ⟨fun g => ⟨Keep.refl _ _, by have := of_decide_eq_true g; simp [this]⟩, fun g => ⟨fun g2 => ⟨Keep.refl _ _, ?_⟩, fun g2 => ?_⟩⟩
    · have g2 := of_decide_eq_true g2
      rw [hlv] at g2
      simp; omega
    · have g := of_decide_eq_false g
      have g2 := of_decide_eq_false g2
      rw [hlv] at g2
      refine lq (R.ext q.bas e1) (by omega) fun h2 e2 => ⟨e2, ?_⟩
      rw [decide_eq_true_iff]
      omega
  rintro b h2 ⟨e2, hbb⟩
  have e02 := e1.trans e2
  refine ⟨fun g => C2 (hbb.1 g) h2 e02, fun g => ?_⟩
  have hno : ¬ (v < 0 ∨ v ≥ (t.vs.length : Int) ∨ rowI t.bs v ≥ 0) := fun hh => by rw [hbb.2 hh] at g; cases g
  have C0' := fun r h' => C0 r h' (by omega) (by omega) (by omega)
  obtain ⟨s0, s1⟩ := s01 (by omega) (by omega) (by omega)
  clear C0 C2 hbb g
  intro T
  have e3 := Ext.push h2 (.cells ([] : List Value).toArray T (0, 0))
  have ho : OwnS C6 6 h2.size (h2.push (.cells ([] : List Value).toArray T (0, 0))) ⟨some ⟨h2.size, 0, none⟩, 0, 0⟩ ([] : List X6) := OwnS.nil (n := 0)
  generalize (h2.push (.cells ([] : List Value).toArray T (0, 0)) : Heap) = h3 at *
  obtain ⟨ys, r1, r2⟩ := tk.vals.row
  have lv := r2.length
  have e03 := e02.trans e3
  refine ho.appendR len6 (by decide) one6 e3.size (RS.ext r1 e03) q.vals.cap (by simp; omega) fun w h4 o4 k4 _ => ?_
  have e04 : Ext h h4 := e03.fresh (by have := e02.size; omega) k4
  have o4 : OwnS C6 6 h2.size h4 w ys := by simpa using o4
  have wK : ∀ k, w.blk = some k → h.size ≤ k := fun k hk => Nat.le_trans e02.size (o4.lt hk).1
  have hvn : ((v.toNat : Nat) : Int) = v := by omega
  refine o4.stS len6 (by decide) (one6 x0) hvn.symm (by omega) fun h5 o5 k5 n5 => ?_
  have e05 : Ext h h5 := by
    cases hw : w.blk with
    | none => rw [hw] at k5; exact e04.trans k5
    | some b => rw [hw] at k5; exact e04.fresh (wK b hw) k5
  have ra : ∀ {y : X6} {m : Rat × Rat}, DK K h y m → DK (fun k => K k ∨ w.blk = some k) h5 y m := fun hm => (KK.dk (KK.mono (KK.ext e05) (K' := fun k => K k ∨ w.blk = some k) fun _ h => .inl h) (hm.raise fun k hk => hk.imp id (wK k)))
  have a5 : All2 (DK (fun k => K k ∨ w.blk = some k) h5) (ys.set v.toNat x0) (t.vs.set v.toNat d) := All2.set (r2.imp fun y m hm => (ra hm)) (ra hd)
  refine loop.inv (fun (s : Int) h' => ∃ (i : Nat) (W : DL) (zs : List X6), s = (i : Int) ∧ i ≤ t.ps.length ∧ Ext h h' ∧ OwnS C6 6 h2.size h' w zs ∧ All2 (DK (fun k => K k ∨ w.blk = some k) h') zs W ∧ W.length = t.vs.length ∧ (∀ e ∈ W, szD e ≤ B) ∧ refV t.bs (t.ps.drop i) i W = refV t.bs t.ps 0 (t.vs.set v.toNat d)) (fun s _ => t.ps.length - s.toNat)
    ⟨0, _, _, rfl, by omega, e05, o5, a5, by simp, s0, rfl⟩ ?_
  rintro _ h6 ⟨i, W, zs, rfl, hi, e6, o6, a6, lW, sW, hW⟩
  rw [hlr]
  have lz := a6.length
  refine ⟨fun hlt => ?_, fun hge => ?_⟩
  · simp only [decide_eq_true_eq] at hlt
    have hlt : i < t.ps.length := by omega
    have hmem := List.getElem_mem hlt
    obtain ⟨g1, g2⟩ := hrng i hlt
    refine RJ.ldB q.bas e6 rfl (by omega) fun ab cb => ?_
    refine q.rows.ldE e6 rfl hlt fun y hy => ?_
    have hrow : RowQ C6 6 DQ h6 w W := o6.row len6 (by decide) (a6.imp fun y m h => h.dq)
    refine zy (B := B) (Keep.refl _ _) (hy.ext e6) hrow (by rw [lW]; exact hin _ hmem) (b1 _ hmem) sW (hL _ hmem) (by omega) (hpl _ hmem) (by omega) fun r7 h7 hr7 e7 => ?_
    have hbl : (at0 t.bs i).toNat < W.length := by omega
    have hvB : szD (valV (atD W) t.ps[i].2) ≤ B := afx hds hlt hbl hW s1
    refine ⟨ah (e6.trans e7) cb (by simp), aeD hr7 (by omega) fun r8 h8 hr8 fr8 e8 => ⟨ah ((e6.trans e7).trans e8) cb (by simp), ?_⟩⟩
    have e68 := e7.trans e8
    have hij : at0 t.bs i = (((at0 t.bs i).toNat : Nat) : Int) := by omega
    have hwlt : ∀ k, K k ∨ w.blk = some k → k < h7.size := fun k hk => Nat.lt_of_lt_of_le (hk.elim (fun hk => Nat.lt_of_lt_of_le (hK k hk) e6.size) fun hk => (o6.lt hk).2) e7.size
    refine (o6.ext e68).stS len6 (by decide) (one6 r8) hij (by omega) fun h9 o9 k9 n9 => ?_
    have hK' : ∀ k, w.blk = some k → K k ∨ w.blk = some k := fun _ h => .inr h
    have a9 : All2 (DK (fun k => K k ∨ w.blk = some k) h9) (zs.set (at0 t.bs i).toNat r8) (W.set (at0 t.bs i).toNat (valV (atD W) t.ps[i].2)) :=
      All2.set (a6.imp fun y m hm => (hm.keep e68 (by simp)).keep k9 hK') (DK.keep (K := fun k => K k ∨ w.blk = some k) (h := h8) ⟨RK.fresh hr8.a fr8.1 hwlt, RK.fresh hr8.b fr8.2 hwlt⟩ k9 hK')
    have e9 : Ext h h9 := by
      cases hw : w.blk with
      | none => rw [hw] at k9; exact (e6.trans e68).trans k9
      | some b => rw [hw] at k9; exact (e6.trans e68).fresh (wK b hw) k9
    rintro k hk
    refine ⟨⟨i + 1, _, _, by rw [hk, w64 (by omega) (by omega)]; rfl, by omega, e9, o9, a9, by simpa using lW, fun e' he' => ?_, ?_⟩, by rw [hk, w64 (by omega) (by omega)]; omega⟩
    · rcases List.mem_or_eq_of_mem_set he' with he' | rfl
      · exact sW _ he'
      · exact hvB
    · rw [← hW, List.drop_eq_getElem_cons hlt, refV]
  · simp only [decide_eq_false_iff_not] at hge
    have : i = t.ps.length := by omega
    subst this
    rw [List.drop_length, refV] at hW
    subst hW
    have t6 := tk.ext e6
    refine C0' w h6 ⟨t6.bas, t6.basn, t6.rows, RowK.own o6 len6 (by decide) (fun k hk => Nat.lt_of_lt_of_le (hK k hk) e02.size) (a6.imp fun y m h => h.raise fun k hk => .inl (.inl hk)), t6.lo, t6.up⟩ e6
end Go.Sh

namespace Go.Sh
open Go Go.Lift
def Dj (s t : Sl) : Prop := ∀ b, s.blk = some b → t.blk ≠ some b
theorem oA {K : Nat → Prop} {h : Heap} {q : Int × Int × Sl × Sl × Sl × Sl × Sl} {reals : Nat} {ps : List (Rat × PL)} {Q : S5 → Heap → Prop} (hq : q.2.1 = (reals : Int)) (hr : reals ≤ 1000) (hK : ∀ k, K k → k < h.size) (hs : RowK CP 4 PK K h q.2.2.1 ps) (hps : ps.length ≤ 1000)
    (C : ∀ x h', TK K h' x (newT reals ps) → Ext h h' → Q x h') : iN q h Q := by
  have hlen : q.2.2.1.len = ps.length := by obtain ⟨ys, h1, h2⟩ := hs.row; rw [h1.len, h2.length]
  refine aa fun h1 e1 => aa fun h1' e1' => ?_
  rw [hq]
  rintro n hn
  have hn : n = ((reals + ps.length : Nat) : Int) := by rw [hn, hlen, w64 (by omega) (by omega)]; omega
  refine loop.inv (fun s h' => Ext h h' ∧ ∃ i : Nat, s.1 = (i : Int) ∧ i ≤ ps.length ∧ Own (Value.int .i64) h.size h' s.2.1 ((List.range i).map fun i => ((reals + i : Nat) : Int)) ∧ s.2.2 = (q.2.2.1, Sl.nil, Sl.nil, Sl.nil)) (fun s _ => ps.length - s.1.toNat) ⟨e1.trans e1', 0, rfl, by omega, Own.nil, rfl⟩ ?_
  rintro ⟨_, s1, s2, s3, s4, s5⟩ h2 ⟨e2, i, rfl, hi, o2, hs2⟩
  dsimp only at o2 hs2 ⊢
  cases hs2
  rw [hlen]
  refine ⟨fun hlt => ?_, fun hge => ?_⟩
  · simp only [decide_eq_true_eq] at hlt
    rw [w64 (by omega) (by omega)]
    intro T
    have e3 := Ext.push h2 (.cells [Value.int .i64 ((reals : Int) + (i : Int))].toArray T (0, 0))
    have ho := (Own.new (toV := Value.int .i64) (h := h2) (ys := [((reals : Int) + (i : Int))]) (cs := [Value.int .i64 ((reals : Int) + (i : Int))]) (T := T) rfl).r
    generalize (h2.push (.cells [Value.int .i64 ((reals : Int) + (i : Int))].toArray T (0, 0)) : Heap) = h3 at *
    have e03 := e2.trans e3
    refine Own.append (bytes := 8) (o2.ext e3) e03.size ho (fun _ => rfl) (by simp; omega) fun r h4 o4 k4 _ => ?_
    have e04 : Ext h h4 := Keep.freshB e03 (fun b hb => (o2.lt hb).1) k4
    rintro k hk
    refine ⟨⟨e04, i + 1, by rw [hk, w64 (by omega) (by omega)]; simp, by omega, ?_, rfl⟩, by rw [hk, w64 (by omega) (by omega)]; (try dsimp only); omega⟩
    rw [List.range_succ, List.map_append]
    simpa using o4
  · simp only [decide_eq_false_iff_not] at hge
    have : i = ps.length := by omega
    subst this
    have blt : ∀ b, s1.blk = some b → h.size ≤ b ∧ b < h2.size := fun b hb => o2.lt hb
    refine loop.inv (fun s h' => ∃ (j : Nat) (v l u : Sl), s = ((j : Int), s1, q.2.2.1, v, l, u) ∧ j ≤ reals + ps.length ∧ Ext h2 h' ∧ OwnS C6 6 h2.size h' v (List.replicate j d0) ∧ OwnS C7 7 h2.size h' l (List.replicate j ((0, d0) : E7)) ∧ OwnS C7 7 h2.size h' u (List.replicate j ((0, d0) : E7)) ∧ Dj v l ∧ Dj v u ∧ Dj l u) (fun s _ => (reals + ps.length) - s.1.toNat)
      ⟨0, Sl.nil, Sl.nil, Sl.nil, rfl, by omega, Keep.refl _ _, ⟨rfl, [], rfl, Own.nil⟩, ⟨rfl, [], rfl, Own.nil⟩, ⟨rfl, [], rfl, Own.nil⟩, nofun, nofun, nofun⟩ ?_
    rintro _ h3 ⟨j, v, l, u, rfl, hj, e3, o1, o2', o3, d1, d2, d3⟩
    rw [hn]
    refine ⟨fun hlt => ?_, fun hge => ?_⟩
    · simp only [decide_eq_true_eq] at hlt
      refine o1.append1 (bytes := 112) (x := d0) len6 (by decide) rfl e3.size rfl (by simp; omega) fun v' h4 o1' k4 b4 => ?_
      have e4 := Keep.freshB e3 (fun b hb => (o1.lt hb).1) k4
      have o24 := o2'.keep k4 fun b hb hh => d1 b hh.symm hb
      have o34 := o3.keep k4 fun b hb hh => d2 b hh.symm hb
      have d1' : Dj v' l := fun b hb hl => by
        rcases b4 with b4 | b4
        · exact d1 b (b4 ▸ hb) hl
        · have := b4 b hb; have := (o2'.lt hl).2; omega
      have d2' : Dj v' u := fun b hb hl => by
        rcases b4 with b4 | b4
        · exact d2 b (b4 ▸ hb) hl
        · have := b4 b hb; have := (o3.lt hl).2; omega
      refine o24.append1 (bytes := 120) (x := ((0, d0) : E7)) len7 (by decide) rfl e4.size rfl (by simp; omega) fun l' h5 o25 k5 b5 => ?_
      have e5 := Keep.freshB e4 (fun b hb => (o24.lt hb).1) k5
      have o15 := o1'.keep k5 fun b hb hh => d1' b hb hh.symm
      have o35 := o34.keep k5 fun b hb hh => d3 b hh.symm hb
      have d1'' : Dj v' l' := fun b hb hl => by
        rcases b5 with b5 | b5
        · exact d1' b hb (b5 ▸ hl)
        · have := b5 b hl; have := (o1'.lt hb).2; omega
      have d3' : Dj l' u := fun b hb hl => by
        rcases b5 with b5 | b5
        · exact d3 b (b5 ▸ hb) hl
        · have := b5 b hb; have := (o34.lt hl).2; omega
      refine o35.append1 (bytes := 120) (x := ((0, d0) : E7)) len7 (by decide) rfl e5.size rfl (by simp; omega) fun u' h6 o36 k6 b6 => ?_
      have e6 := Keep.freshB e5 (fun b hb => (o35.lt hb).1) k6
      have o16 := o15.keep k6 fun b hb hh => d2' b hb hh.symm
      have o26 := o25.keep k6 fun b hb hh => d3' b hb hh.symm
      have d2'' : Dj v' u' := fun b hb hl => by
        rcases b6 with b6 | b6
        · exact d2' b hb (b6 ▸ hl)
        · have := b6 b hl; have := (o15.lt hb).2; omega
      have d3'' : Dj l' u' := fun b hb hl => by
        rcases b6 with b6 | b6
        · exact d3' b hb (b6 ▸ hl)
        · have := b6 b hl; have := (o25.lt hb).2; omega
      rintro k hk
      refine ⟨⟨j + 1, v', l', u', by rw [hk, w64 (by dsimp only; omega) (by dsimp only; omega)]; rfl, by omega, e6, ?_, ?_, ?_, d1'', d2'', d3''⟩, by rw [hk, w64 (by dsimp only; omega) (by dsimp only; omega)]; dsimp only; omega⟩
      · rw [List.replicate_succ']; exact o16
      · rw [List.replicate_succ']; exact o26
      · rw [List.replicate_succ']; exact o36
    · simp only [decide_eq_false_iff_not] at hge
      have : j = reals + ps.length := by omega
      subst this
      have e03 := e2.trans e3
      have hK2 : ∀ k, K k → k < h2.size := fun k hk => Nat.lt_of_lt_of_le (hK k hk) e2.size
      have ek : EK K h3 (0, d0) (0, (0, 0)) := ⟨rfl, DK.zero⟩
      refine C _ h3 ⟨(o2.ext e3).r, fun _ b hb hk => ?_, hs.kk (by decide) (fun _ _ h => (KK.ext e03).pk h) (KK.ext e03), RowK.own o1 len6 (by decide) hK2 (All2.rep DK.zero _), RowK.own o2' len7 (by decide) hK2 (All2.rep ek _), RowK.own o3 len7 (by decide) hK2 (All2.rep ek _)⟩ e03
      have := (blt b hb).1; have := hK b hk; omega
end Go.Sh
