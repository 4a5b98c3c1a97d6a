/-
  Laws that the proof of this claim's statement leans on, each proved under the conditions that it states.
-/
import Derived.Test.YtjppcjbmepcneaaGreatDoorUE
import Derived.Test.YtjppcjbmepcneaaGreatDoorSpW
set_option linter.unusedVariables false
set_option linter.unusedSimpArgs false
namespace Go.Sh
open Go Go.Lift
def oddG {α : Type} (toC : α → List Value) (sz : Nat) (f : α → Heap → (Bool → Heap → Prop) → Prop) (s : Sl) (Qt k : Heap → Prop) (h : Heap) : Prop :=
  loop (fun (s0 : Int) h0 (K0 : Int → Heap → Prop) =>
    iteB (decide (s0 < ((s.len : Nat) : Int))) (idxS s s0 sz fun a => loadS toC sz a h0 fun v => f v h0 fun b h' => iteB b (Qt h') (K0 (IntKind.wrap .i64 (s0 + 1)) h')) (k h0)) 0 h
theorem oddG_spec {α : Type} {toC : α → List Value} {sz : Nat} {f : α → Heap → (Bool → Heap → Prop) → Prop} {s : Sl} {Qt k : Heap → Prop} {h h0 : Heap} {ys : List α} {P : α → Prop} (hs : RS toC sz h0 s ys) (e0 : Ext h0 h) (hl : ys.length ≤ 1048576)
    (hf : ∀ y ∈ ys, ∀ h', Ext h0 h' → ∀ R : Bool → Heap → Prop, (∀ b h2, (b = false → P y) → Ext h' h2 → R b h2) → f y h' R) (Kt : ∀ h', Ext h0 h' → Qt h') (Kk : (∀ y ∈ ys, P y) → ∀ h', Ext h0 h' → Ext h h' → k h') : oddG toC sz f s Qt k h := by
  have hlen := hs.len
  refine loop.inv (fun t h' => ∃ i : Nat, t = (i : Int) ∧ i ≤ ys.length ∧ (∀ x ∈ ys.take i, P x) ∧ Ext h0 h' ∧ Ext h h') (fun t _ => ys.length - t.toNat) ⟨0, rfl, by omega, fun x hx => by simp at hx, e0, Keep.refl _ _⟩ ?_
  rintro _ h1 ⟨i, rfl, hi, hsm, e1, e1'⟩
  refine ⟨fun hlt => ?_, fun hge => ?_⟩
  · simp only [decide_eq_true_eq] at hlt
    have hi' : i < ys.length := by omega
    refine (RS.ext hs e1).ld (i := (i : Int)) (j := i) rfl hi' ?_
    refine hf _ (List.getElem_mem hi') h1 e1 _ fun b h2 hb e2 => ⟨fun _ => Kt h2 (e1.trans e2), fun hbf => ?_⟩
    refine ⟨⟨i + 1, w64 (by omega) (by omega), by omega, fun x hx => ?_, e1.trans e2, e1'.trans e2⟩, by rw [w64 (by omega) (by omega)]; omega⟩
    rw [List.take_succ_eq_append_getElem hi'] at hx
    rcases List.mem_append.1 hx with hx | hx
    · exact hsm x hx
    · simp at hx; subst hx; exact hb hbf
  · simp only [decide_eq_false_iff_not] at hge
    have : i = ys.length := by omega
    subst this
    rw [List.take_length] at hsm
    exact Kk hsm h1 e1 e1'
def SmT (h : Heap) (x : S5) : Prop := ∃ t, TQ h x t ∧ TSz t 12 6
theorem Raw6.ext {h h' : Heap} {x : X6} (hx : Raw6 h x) (e : Ext h h') : Raw6 h' x := by
  obtain ⟨⟨a, b, h1⟩, ⟨c, d, h2⟩⟩ := hx
  exact ⟨⟨a, b, h1.ext e⟩, ⟨c, d, h2.ext e⟩⟩
theorem odd1uspec {h0 h : Heap} {x : X6} {R : Bool → Heap → Prop} (hr : Raw6 h0 x) (e0 : Ext h0 h) (K : ∀ b h2, (b = false → Sm h0 x) → Ext h h2 → R b h2) :
    mem h fun h1 => new [Value.bool x.1, Sl.toV x.2.1, Sl.toV x.2.2.1, Value.bool x.2.2.2.1, Sl.toV x.2.2.2.2.1, Sl.toV x.2.2.2.2.2] h1 fun a h2 => law03uOdd (⟨some a, 1, 1⟩ : Sl) h2 R := by
  refine mem_ext fun h1 e1 => ?_
  intro T
  have e2 := Ext.push h1 (.cells [Value.bool x.1, Sl.toV x.2.1, Sl.toV x.2.2.1, Value.bool x.2.2.2.1, Sl.toV x.2.2.2.2.1, Sl.toV x.2.2.2.2.2].toArray T (0, 0))
  have r2 : RR6 _ (⟨some ⟨h1.size, 0, none⟩, 1, 1⟩ : Sl) [x] := RS.new (h := h1) (cs := [Value.bool x.1, Sl.toV x.2.1, Sl.toV x.2.2.1, Value.bool x.2.2.2.1, Sl.toV x.2.2.2.2.1, Sl.toV x.2.2.2.2.2]) (T := T) len6 rfl rfl
  exact Odd_spec r2 (e0.trans (e1.trans e2)) (by simp) (fun y hy => by simp at hy; subst hy; exact hr) fun b h3 hb e3 => K b h3 (fun hf => hb hf x (by simp)) (e1.trans (e2.trans e3))
theorem odd4uspec {h0 h : Heap} {x : X4} {R : Bool → Heap → Prop} (hr : Raw4u h0 x) (e0 : Ext h0 h) (K : ∀ b h2, (b = false → SmP h0 x) → Ext h h2 → R b h2) :
    mem h fun h1 => seq (fun (K0 : Bool → Heap → Prop) => iteB (decide (((x.2.2.2.len : Nat) : Int) > 12)) (K0 true h1) (new [Value.bool x.1, Sl.toV x.2.1, Sl.toV x.2.2.1, Sl.toV x.2.2.2] h1 fun a h2 => law12uOdd (⟨some a, 1, 1⟩ : Sl) h2 fun v h3 => K0 v h3)) R := by
  refine mem_ext fun h1 e1 => seq.dup ⟨fun _ => K true h1 nofun e1, fun _ => ?_⟩
  intro T
  have e2 := Ext.push h1 (.cells [Value.bool x.1, Sl.toV x.2.1, Sl.toV x.2.2.1, Sl.toV x.2.2.2].toArray T (0, 0))
  have r2 : RS CP 4 _ (⟨some ⟨h1.size, 0, none⟩, 1, 1⟩ : Sl) [x] := RS.new (h := h1) (cs := [Value.bool x.1, Sl.toV x.2.1, Sl.toV x.2.2.1, Sl.toV x.2.2.2]) (T := T) len4x rfl rfl
  exact OddP_spec r2 (e0.trans (e1.trans e2)) (by simp) (fun y hy => by simp at hy; subst hy; exact hr.1) fun b h3 hb e3 => K b h3 (fun hf => hb hf x (by simp)) (e1.trans (e2.trans e3))
theorem All2.choose {α β : Type} {P : α → β → Prop} : ∀ {l : List α}, (∀ x ∈ l, ∃ b, P x b) → ∃ ms, All2 P l ms
  | [], _ => ⟨[], .nil⟩
  | x :: l, h => by
    obtain ⟨b, hb⟩ := h x (by simp)
    obtain ⟨ms, hm⟩ := All2.choose (l := l) fun y hy => h y (by simp [hy])
    exact ⟨b :: ms, .cons hb hm⟩
theorem All2.right {α β : Type} {P : α → β → Prop} {S : β → Prop} {l : List α} {ms : List β} (h : All2 P l ms) (hS : ∀ a b, P a b → S b) : ∀ m ∈ ms, S m := by
  induction h with
  | nil => intro m hm; simp at hm
  | cons h1 _ ih => intro m hm; rcases List.mem_cons.1 hm with rfl | hm; exact hS _ _ h1; exact ih m hm
theorem SmT.of {h : Heap} {x : S5} {bs : List Int} {ys : List X4} {vs : List X6} {ls us : List E7} (b : RJ h x.1 bs) (r : RS CP 4 h x.2.1 ys) (rc : x.2.1.len ≤ x.2.1.cap) (v : RS C6 6 h x.2.2.1 vs) (vc : x.2.2.1.len ≤ x.2.2.1.cap)
    (l : RS C7 7 h x.2.2.2.1 ls) (lc : x.2.2.2.1.len ≤ x.2.2.2.1.cap) (u : RS C7 7 h x.2.2.2.2 us) (uc : x.2.2.2.2.len ≤ x.2.2.2.2.cap) (n1 : bs.length ≤ 20) (n2 : ys.length ≤ 6) (n3 : vs.length ≤ 20) (n4 : ls.length ≤ 20) (n5 : us.length ≤ 20)
    (s1 : ∀ y ∈ ys, SmP h y) (s2 : ∀ y ∈ vs, Sm h y) (s3 : ∀ y ∈ ls, Sm h (eD y)) (s4 : ∀ y ∈ us, Sm h (eD y)) : SmT h x := by
  obtain ⟨ps, hp⟩ := All2.choose (P := fun y p => PQ h y p ∧ Few4 p) s1
  obtain ⟨ds, hd⟩ := All2.choose (P := fun y p => DQ h y p ∧ szD p ≤ 6) s2
  have ed : ∀ {zs : List E7}, (∀ y ∈ zs, Sm h (eD y)) → ∃ es : List Eg, All2 (fun y e => EQ h y e ∧ szD e.2 ≤ 6) zs es := fun {zs} hz => All2.choose fun y hy => by
    obtain ⟨p, hp, sp⟩ := hz y hy
    exact ⟨(y.1, p), ⟨rfl, hp⟩, sp⟩
  obtain ⟨es, he⟩ := ed s3
  obtain ⟨fs, hf⟩ := ed s4
  have l1 := hp.length; have l2 := hd.length; have l3 := he.length; have l4 := hf.length
  refine ⟨⟨bs, ps, ds, es, fs⟩, ⟨b, ⟨rc, ys, r, hp.imp fun _ _ h => h.1⟩, ⟨vc, vs, v, hd.imp fun _ _ h => h.1⟩, ⟨lc, ls, l, he.imp fun _ _ h => h.1⟩, ⟨uc, us, u, hf.imp fun _ _ h => h.1⟩⟩, ?_⟩
  exact ⟨hp.right fun _ _ h => h.2.rt, hp.right fun _ _ h => h.2.n, hp.right fun _ _ h => h.2.c, hp.right fun _ _ h => h.2.m, hd.right fun _ _ h => h.2, he.right fun _ _ h => h.2, hf.right fun _ _ h => h.2, by dsimp only; omega, by dsimp only; omega, by dsimp only; omega, by dsimp only; omega, by dsimp only; omega⟩
end Go.Sh

namespace Go.Sh
open Go Go.Lift
abbrev shD : Shape := .cat shQ (.cat shQ .nil)
theorem RawB.raw {h : Heap} {x : X3} (hx : RawB h x) : Raw3 h x := by
  obtain ⟨a, b, h1, _⟩ := hx
  exact ⟨a, b, h1⟩
theorem is_jB {h : Heap} {cs : List Value} (H : (Shape.slice (.int .i64)).IsB 1048576 h cs) : ∃ s : Sl, cs = [Sl.toV s] ∧ ∃ bs : List Int, RJ h s bs := by
  obtain ⟨s, rfl, xs, h2, h3, h4, h5⟩ := is_rsB (toC := fun n : Int => [Value.int .i64 n]) (F := fun _ _ => True) 1 rfl (fun r hr => by
    obtain ⟨n, rfl, _⟩ := hr
    exact ⟨n, rfl, trivial⟩) H
  refine ⟨s, rfl, xs, ?_⟩
  have hl := h2.len
  cases xs with
  | nil => exact R.nil_of (by simpa using hl)
  | cons x l =>
    obtain ⟨a, ha, _⟩ := h2.cells 0 (by simp)
    refine R.mk' hl h4 a ha fun i hi => ?_
    obtain ⟨a', ha', hc⟩ := h2.cells i hi
    rw [ha] at ha'; cases ha'
    have := cells?_get _ _ _ hc 0 (by simp)
    simpa [addr_add_add] using this
theorem is_dB {h : Heap} {cs : List Value} (H : shD.IsB 1048576 h cs) : ∃ x : X6, cs = C6 x ∧ Raw6 h x := by
  obtain ⟨l, r, rfl, h1, l2, r2, rfl, h2, rfl⟩ := H
  obtain ⟨x, rfl, hx⟩ := is_qB h1
  obtain ⟨y, rfl, hy⟩ := is_qB h2
  exact ⟨(x.1, x.2.1, x.2.2, y.1, y.2.1, y.2.2), rfl, hx.raw, hy.raw⟩
end Go.Sh
