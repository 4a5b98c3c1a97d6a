/-
  Laws that the proof of this claim's statement leans on, each proved under the conditions that it states.
-/
import Derived.Test.YtlclchgingkkhaaGreatDoorXB
import Derived.Test.YtlclchgingkkhaaGreatDoorUE
set_option linter.unusedVariables false
set_option linter.unusedSimpArgs false
namespace Go.Sh
open Go Go.Lift
section
variable {K K' : Nat → Prop} {h h' : Heap} {x : S5} {t : TT}
theorem KK.rjn {s : Sl} {xs : List Int} (a : KK K h h') (hr : RJ h s xs) (hn : xs ≠ [] → ∀ b, s.blk = some b → ¬ K b) : RJ h' s xs := by
  have hl : ∀ x, s.a = some x → xs ≠ [] → x.block < h.size := fun x hx hne => R.lt hr hx hne
  induction a with
  | refl => exact hr
  | @step _ _ o a e ho ih =>
    cases o with
    | none => exact R.ext ih e
    | some n => exact R.keepB ih e fun x hx hne hh => (ho n rfl).elim (fun hk => hn hne x.block (by simp [Sl.blk, hx]) (hh ▸ hk)) (fun hg => by have := hl x hx hne; omega)
structure RowK {α β : Type} (toC : α → List Value) (sz : Nat) (R : (Nat → Prop) → Heap → α → β → Prop) (K : Nat → Prop) (h : Heap) (s : Sl) (ms : List β) : Prop where
  cap : s.len ≤ s.cap
  row : ∃ ys : List α, RS toC sz h s ys ∧ All2 (R K h) ys ms
  out : ms ≠ [] → ∀ b, s.blk = some b → ¬ K b
section
variable {α β : Type} {toC : α → List Value} {sz : Nat} {R : (Nat → Prop) → Heap → α → β → Prop} {s : Sl} {ms : List β}
theorem RowK.q {R' : Heap → α → β → Prop} (hR : ∀ y m, R K h y m → R' h y m) (q : RowK toC sz R K h s ms) : RowQ toC sz R' h s ms := by
  obtain ⟨ys, h1, h2⟩ := q.row
  exact ⟨q.cap, ys, h1, h2.imp hR⟩
theorem All2.ne {α β : Type} {R : α → β → Prop} {l : List α} {m : List β} (h : All2 R l m) (hl : l ≠ []) : m ≠ [] := fun hm => by
  have := h.length; rw [hm] at this; exact hl (List.length_eq_zero_iff.1 (by simpa using this))
theorem All2.ne' {α β : Type} {R : α → β → Prop} {l : List α} {m : List β} (h : All2 R l m) (hl : m ≠ []) : l ≠ [] := fun hm => by
  have := h.length; rw [hm] at this; exact hl (List.length_eq_zero_iff.1 (by simpa using this.symm))
theorem RowK.kk (h0 : 0 < sz) (hR : ∀ y m, R K h y m → R K h' y m) (a : KK K h h') (q : RowK toC sz R K h s ms) : RowK toC sz R K h' s ms := by
  obtain ⟨ys, h1, h2⟩ := q.row
  exact ⟨q.cap, ⟨ys, a.rs h0 h1 fun hne => q.out (h2.ne hne), h2.imp hR⟩, q.out⟩
theorem RowK.raise (h0 : 0 < sz) (hR : ∀ y m, R K h y m → R K' h y m) (hk : ∀ k, K' k → K k ∨ h.size ≤ k) (q : RowK toC sz R K h s ms) : RowK toC sz R K' h s ms := by
  obtain ⟨ys, h1, h2⟩ := q.row
  refine ⟨q.cap, ⟨ys, h1, h2.imp hR⟩, fun hne b hb hk' => (hk b hk').elim (q.out hne b hb) fun hg => ?_⟩
  have := RS.lt h1 h0 (h2.ne' hne) hb
  omega
theorem RowK.own {B : Nat} {ys : List α} (o : OwnS toC sz B h s ys) (hsz : ∀ x, (toC x).length = sz) (h0 : 0 < sz) (hK : ∀ k, K k → k < B) (ha : All2 (R K h) ys ms) : RowK toC sz R K h s ms :=
  ⟨o.cap h0, ⟨ys, o.rs hsz h0, ha⟩, fun _ b hb hk => by have := (o.lt hb).1; have := hK b hk; omega⟩
end
structure TK (K : Nat → Prop) (h : Heap) (x : S5) (t : TT) : Prop where
  bas : RJ h x.1 t.bs
  basn : t.bs ≠ [] → ∀ b, x.1.blk = some b → ¬ K b
  rows : RowK CP 4 PK K h x.2.1 t.ps
  vals : RowK C6 6 DK K h x.2.2.1 t.vs
  lo : RowK C7 7 EK K h x.2.2.2.1 t.lo
  up : RowK C7 7 EK K h x.2.2.2.2 t.up
theorem TK.q (q : TK K h x t) : TQ h x t := ⟨q.bas, q.rows.q fun _ _ h => h.pq, q.vals.q fun _ _ h => h.dq, q.lo.q fun _ _ h => h.eq, q.up.q fun _ _ h => h.eq⟩
theorem TK.kk (q : TK K h x t) (a : KK K h h') : TK K h' x t :=
  ⟨a.rjn q.bas q.basn, q.basn, q.rows.kk (by decide) (fun _ _ h => a.pk h) a, q.vals.kk (by decide) (fun _ _ h => a.dk h) a, q.lo.kk (by decide) (fun _ _ h => a.ek h) a, q.up.kk (by decide) (fun _ _ h => a.ek h) a⟩
theorem TK.ext (q : TK K h x t) (e : Ext h h') : TK K h' x t := q.kk (KK.ext e)
theorem TK.raise (q : TK K h x t) (hk : ∀ k, K' k → K k ∨ h.size ≤ k) : TK K' h x t where
  bas := q.bas
  basn := fun hne b hb hk' => (hk b hk').elim (q.basn hne b hb) fun hg => by
    cases ha : x.1.a with
    | none => rw [Sl.blk, ha] at hb; cases hb
    | some a =>
      have := R.lt q.bas ha hne
      have := adf ha hb
      omega
  rows := q.rows.raise (by decide) (fun _ _ h => h.raise hk) hk
  vals := q.vals.raise (by decide) (fun _ _ h => h.raise hk) hk
  lo := q.lo.raise (by decide) (fun _ _ h => h.raise hk) hk
  up := q.up.raise (by decide) (fun _ _ h => h.raise hk) hk
structure OP (K : Nat → Prop) (B : Nat) (h : Heap) (s : Sl) (ps : List (Rat × PL)) : Prop where
  low : ∀ k, K k → k < B
  row : ∃ ys : List X4, OwnS CP 4 B h s ys ∧ All2 (fun y m => PK (fun k => K k ∨ s.blk = some k) h y m) ys ps
section
variable {B : Nat} {s : Sl} {ps : List (Rat × PL)}
theorem OP.ext (hm : OP K B h s ps) (e : Ext h h') : OP K B h' s ps := by
  obtain ⟨ys, h1, h2⟩ := hm.row
  exact ⟨hm.low, ys, h1.ext e, h2.imp fun y m h3 => h3.keep e (by simp)⟩
theorem OP.lt (hm : OP K B h s ps) {b : Nat} (hb : s.blk = some b) : B ≤ b ∧ b < h.size := by
  obtain ⟨ys, h1, h2⟩ := hm.row
  exact h1.lt hb
theorem OP.mk' (hm : OP K B h s ps) : RowK CP 4 PK K h s ps := by
  obtain ⟨ys, h1, h2⟩ := hm.row
  exact RowK.own h1 oN (by decide) hm.low (h2.imp fun y m h3 => h3.raise fun k hk => .inl (.inl hk))
theorem OP.push {y : X4} {p : Rat × PL} {k : Sl → Heap → Prop} (hm : OP K B h s ps) (hB : B ≤ h.size) (hx : PK (fun k => K k ∨ s.blk = some k) h y p) (hl : ps.length ≤ 1048576)
    (C : ∀ s' h', OP K B h' s' (ps ++ [p]) → Keep s.blk h h' → (s'.blk = s.blk ∨ ∀ b, s'.blk = some b → h.size ≤ b) → k s' h') :
    new [Value.bool y.1, Sl.toV y.2.1, Sl.toV y.2.2.1, Sl.toV y.2.2.2] h fun a h1 => aK 4 80 s (⟨some a, 1, 1⟩ : Sl) h1 k := by
  obtain ⟨ys, h1, h2⟩ := hm.row
  have hyl := h2.length
  refine h1.append1 (x := y) oN (by decide) rfl hB rfl (by omega) fun s' h' ho' k' hb => C s' h' ⟨hm.low, _, ho', ?_⟩ k' hb
  have hall : All2 (fun y m => PK (fun k => K k ∨ s.blk = some k) h y m) (ys ++ [y]) (ps ++ [p]) := h2.append (.cons hx .nil)
  refine hall.imp fun y m h3 => ?_
  have h4 : PK (fun k => (K k ∨ s.blk = some k) ∨ s'.blk = some k) h y m := h3.raise fun k hk => by
    rcases hk with hk | hk
    · exact .inl hk
    · rcases hb with hb | hb
      · exact .inl (.inr (hb ▸ hk))
      · exact .inr (hb k hk)
  exact (h4.keep k' (fun k hk => .inl (.inr hk))).raise fun k hk => by
    rcases hk with hk | hk
    · exact .inl (.inl (.inl hk))
    · exact .inl (.inr hk)
end
end
end Go.Sh

namespace Go.Sh
open Go Go.Lift
end Go.Sh

namespace Go.Sh
open Go Go.Lift
end Go.Sh
