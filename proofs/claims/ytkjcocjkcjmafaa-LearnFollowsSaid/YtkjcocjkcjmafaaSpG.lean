/-
  Laws that the proof of this claim's statement leans on, each proved under the conditions that it states.
-/
import Derived.Test.YtkjcocjkcjmafaaSpE
import Derived.Test.YtkjcocjkcjmafaaSpC
import Derived.Test.YtkjcocjkcjmafaaSpD
import Derived.Test.YtkjcocjkcjmafaaSpX
set_option linter.unusedVariables false
set_option linter.unusedSimpArgs false
namespace Go.Sh
open Go Go.Lift Go.Cla
variable {h h' : Heap} {p : Addr} {x : Nm → Sl} {vs : Nm → List Value} {S : SS} {n : Nat}
theorem SM.clsLd (q : SM h p x vs S) {i : Int} {j : Nat} {k : Sl × Bool × Int → Prop} (hi : i = (j : Int)) (hj : j < S.cls.length) (K : k (x (.c j), (S.cl j).learned, (S.cl j).use)) : idxS (x .cls) i 3 fun a => loadS C_sl_bool_i64 3 a h k :=
  q.clsAt hi hj fun a _ h0 h1 h2 => ⟨_, by
    have := cells?_mk (h := h) (a := a.add (j * 3)) (C_sl_bool_i64 (x (.c j), (S.cl j).learned, (S.cl j).use)) 0 (fun m hm => by
      have hm : m < 3 := hm
      rw [Nat.zero_add]
      match m, hm with
      | 0, _ => exact h0
      | 1, _ => exact h1
      | 2, _ => exact h2)
    exact this, K⟩
end Go.Sh

namespace Go.Sh
open Go Go.Lift Go.Cla
theorem Ask.cls {n : Nat} {S : SS} (a : Ask n S) {cs : List Cl} (hl : cs.length = S.cls.length) (h : ∀ j, (cs.getD j ⟨[], false, 0⟩).lits = (S.cl j).lits) : Ask n { S with cls := cs } := by
  have hc : ∀ j, (({ S with cls := cs } : SS).cl j).lits = (S.cl j).lits := h
  have hlit : ∀ j i, lit { S with cls := cs } j i = lit S j i := fun j i => by unfold lit; rw [hc]
  have hw : ∀ j w, watches { S with cls := cs } j w ↔ watches S j w := fun j w => by unfold watches; rw [hlit, hlit]
  have t := a.t
  refine ⟨{ nb := t.nb, vn := t.vn, ln := t.ln, rn := t.rn, wn := t.wn, tri := t.tri, cn := by show cs.length ≤ _; rw [hl]; exact t.cn, fit := fun j hj => by rw [hc]; exact t.fit j (by rw [← hl]; exact hj), tt := t.tt, tn := t.tn, tv := t.tv, nx := t.nx, hn := t.hn }, ⟨fun w hww y hy => ?_, fun w hww j hj => ?_⟩, fun j hj k hk hex => ?_, a.hd⟩
  · obtain ⟨j, h1, h2⟩ := a.w.rng w hww y hy
    exact ⟨j, by show j < cs.length; rw [hl]; exact h1, h2⟩
  · have := a.w.cnt w hww j (by rw [← hl]; exact hj)
    show List.count _ (S.wt w) = _
    rw [this]
    by_cases g : watches S j w
    · rw [if_pos g, if_pos ((hw j w).2 g)]
    · rw [if_neg g, if_neg fun h => g ((hw j w).1 h)]
  · rw [hlit, hlit]
    exact a.p j (by rw [← hl]; exact hj) k hk hex
variable {h : Heap}
theorem OwnV.clear {s : Sl} {l : List Value} {v : Value} {k : Heap → Prop} (ho : OwnV h s l) (hv : one v = true) (K : ∀ h', OwnV h' s (List.replicate l.length v) → Keep s.blk h h' → k h') : clrS [v] s h k := by
  have hl := ho.len
  unfold clrS
  by_cases h0 : s.len = 0
  · rw [if_pos h0]
    have : l = [] := List.eq_nil_of_length_eq_zero (by omega)
    subst this
    exact K h ho (Keep.refl _ _)
  · rw [if_neg h0]
    obtain ⟨ys, e, o⟩ := ho
    rcases o.own with ⟨h1, h2⟩ | ⟨b, c, T, h1, h2, h3, h4⟩
    · have := o.r.cap; omega
    · have hfl : (List.replicate s.len [v]).flatten = List.replicate s.len v := by
        induction s.len with
        | zero => rfl
        | succ m ih => rw [List.replicate_succ, List.flatten_cons, ih, List.replicate_succ]; rfl
      have hcap := o.r.cap
      obtain ⟨c', g1, g2, _, g4, g5⟩ := setCells_block (List.replicate s.len v) 0 0 h c h3 (by rw [List.length_replicate]; omega)
      refine ⟨_, h1, by simpa using g5, ?_⟩
      rw [hfl]
      refine K _ ⟨List.replicate l.length ⟨v, hv⟩, by rw [List.map_replicate], R.mk' (by rw [List.length_replicate]; exact hl) hcap _ h1 fun i hi => ?_, .inr ⟨b, c', T, h1, h2, g1, by rw [g2]; exact h4⟩⟩ (by have := setCells_keep ⟨b, 0, none⟩ (List.replicate s.len v) 0 h; simpa [Sl.blk, h1] using this)
      rw [List.length_replicate] at hi
      have := g4 i (by rw [List.length_replicate]; omega)
      rw [addr_add _ _ rfl]
      simp only [Nat.zero_add] at this ⊢
      unfold cell?
      rw [g1]
      simpa using this
end Go.Sh

namespace Go.Sh
open Go Go.Lift Go.Cla
variable {h h' : Heap} {p : Addr} {x : Nm → Sl} {vs : Nm → List Value} {S : SS} {n : Nat} {cs : List Cl}
theorem MPg.size {α : Type} {toV : α → Value} {mp : Nat} {g : Int → Option α} (q : MPg toV h mp g) {k : Int → Prop} (K : ∀ m : Int, (m = 0 ↔ ∀ j, g j = none) → k m) : sizeM .i64 toV (some mp) h k := by
  obtain ⟨f, h1, h2⟩ := q
  refine ⟨f, f.length, h1, rfl, K _ ?_⟩
  constructor
  · intro h0 j
    have : f = [] := List.eq_nil_of_length_eq_zero (by omega)
    subst this
    rw [← h2]; rfl
  · intro h0
    cases f with
    | nil => rfl
    | cons a r =>
      have := h2 a.1
      rw [h0] at this
      simp [List.lookup] at this
abbrev d0 : Cl := ⟨[], false, 0⟩
end Go.Sh

namespace Go.Sh
open Go Go.Lift Go.Cla
variable {h h' : Heap} {p : Addr} {x : Nm → Sl} {vs : Nm → List Value} {S : SS} {n : Nat} {cs : List Cl}
end Go.Sh

namespace Go.Sh
open Go Go.Lift Go.Cla
variable {h h' : Heap} {p : Addr} {x : Nm → Sl} {vs : Nm → List Value} {S : SS} {n : Nat} {cs : List Cl}
theorem SM.srd (q : SM h p x vs S) : SRd h (x .cls, x .wat, x .val, x .lev, x .rea, x .tra, x .hea, (S.nxt : Int)) S S.nxt where
  clen := q.clsLen
  cls := ⟨fun i => x (.c i), fun i hi => by
    obtain ⟨a, h1, _, v, h2, h3⟩ := q.clsLd (k := fun v => v = (x (.c i), (S.cl i).learned, (S.cl i).use)) (i := (i : Int)) (j := i) rfl hi rfl
    subst h3
    rw [Int.toNat_natCast] at h2
    exact ⟨a, h1, h2, (q.cl i).r⟩⟩
  wat := ⟨(List.range S.wat.length).map fun w => x (.w w), ⟨by
    refine R.same (q.ns.own .wat |> fun o => by rw [show Nm.sc .wat = 1 from rfl, Sl.sc_one] at o; obtain ⟨ys, e, o'⟩ := o; exact R.same (toU := id) (ys := vs .wat) o'.r (by rw [e]; simp)) ?_
    rw [List.map_id]
    apply List.ext_getElem?
    intro i
    by_cases hi : i < S.wat.length
    · rw [q.enc.wr i hi]; simp [hi]
    · rw [List.getElem?_eq_none (by rw [q.enc.wlen]; omega), List.getElem?_eq_none (by simp; omega)], by simp, fun i h1 h2 => by
    simp only [List.getElem_map, List.getElem_range]
    have := (q.wt i).r
    unfold SS.wt at this
    rwa [List.getD_eq_getElem?_getD, List.getElem?_eq_getElem h2] at this⟩⟩
  val := q.val.r
  lev := q.lev.r
  rea := q.rea.r
  tra := q.tra.r
  hea := q.hea.r
  nx := rfl
end Go.Sh

namespace Go.Sh
open Go Go.Lift Go.Cla
variable {h h' : Heap} {x : S8} {S : SS} {nx : Int} {V : List Int}
def isZ : Option Value → Bool
  | some (.int _ i) => i == 0
  | _ => false
def zof (h : Heap) (s : Sl) : Nat := match s.a with
  | none => 0
  | some a => ((List.range s.len).filter fun i => isZ (cell? h (a.add i))).length
def zer (W : List Int) : Nat := (W.filter (· == 0)).length
theorem zer_eqN : ∀ (n : Nat) (W : List Int), W.length = n → zer W = ((List.range W.length).filter fun i => atI W i == 0).length
  | 0, W, hn => by
    have : W = [] := List.eq_nil_of_length_eq_zero hn
    subst this; rfl
  | n + 1, W, hn => by
    rcases List.eq_nil_or_concat W with rfl | ⟨W, y, rfl⟩
    · simp at hn
    · rw [List.concat_eq_append] at hn ⊢
      have ih := zer_eqN n W (by simpa using hn)
      unfold zer at ih ⊢
      rw [List.filter_append, List.length_append, ih, List.length_append, List.length_singleton, List.range_succ, List.filter_append, List.length_append]
      congr 1
      · congr 1
        apply List.filter_congr
        intro i hi
        rw [at_app (List.mem_range.1 hi)]
      · have : atI (W ++ [y]) W.length = y := at_last
        simp only [List.filter_cons, List.filter_nil, this]
        cases y == 0 <;> rfl
theorem zer_eq (W : List Int) : zer W = ((List.range W.length).filter fun i => atI W i == 0).length := zer_eqN _ W rfl
theorem zof_eq {s : Sl} {W : List Int} (hr : RJ h s W) : zof h s = zer W := by
  unfold zof
  have hl := hr.len
  cases ha : s.a with
  | none =>
    have : W = [] := by
      cases W with
      | nil => rfl
      | cons y ys =>
        obtain ⟨a, h1, _⟩ := hr.get (i := 0) (by simp)
        rw [ha] at h1; cases h1
    subst this; rfl
  | some a =>
    rw [zer_eq, hl]
    dsimp only
    congr 1
    apply List.filter_congr
    intro i hi
    obtain ⟨a', h1, h2⟩ := hr.get (List.mem_range.1 hi)
    rw [ha] at h1; cases h1
    rw [h2, show atI W i = W[i]'(List.mem_range.1 hi) from at_get (List.mem_range.1 hi)]
    rfl
theorem zer_set {W : List Int} {i : Nat} {y : Int} (hi : i < W.length) (h0 : atI W i = 0) (hy : y ≠ 0) : zer (W.set i y) + 1 = zer W := by
  unfold zer
  induction W generalizing i with
  | nil => simp at hi
  | cons a r ih =>
    cases i with
    | zero =>
      have : a = 0 := h0
      subst this
      simp [hy]
    | succ i =>
      have := ih (i := i) (by simpa using hi) h0
      simp only [List.set_cons_succ, List.filter_cons]
      split
      · simp only [List.length_cons]; omega
      · exact this
structure Fol (S : SS) (V W : List Int) : Prop where
  len : W.length = V.length
  tri : Tri W
  told : ∀ l, vl V l = 1 → vl W l = 1
  der : ∀ l, vl W l = 1 → Der (C0 S) (fun l => vl V l = 1) l
theorem vl_set {W : List Int} {l m : Int} (hl : There W.length l) : vl (W.set (tr l) (sg l)) m = if There W.length m ∧ tr m = tr l then sg l * sg m else vl W m := by
  unfold vl
  rw [List.length_set]
  by_cases hm : There W.length m
  · rw [if_pos hm, at_setL _ _ _ _ hl.tr]
    by_cases e : tr m = tr l
    · rw [if_pos e, if_pos ⟨hm, e⟩]
    · rw [if_neg e, if_neg (fun h => e h.2), if_pos hm]
  · rw [if_neg hm, if_neg (fun h => hm h.1), if_neg hm]
theorem Fol.unit {W : List Int} (f : Fol S V W) {c : List Int} {l : Int} (hc : C0 S c) (hlc : l ∈ c) (hl : There W.length l) (h0 : vl W l = 0) (ho : ∀ m ∈ c, m ≠ l → vl W m = -1) : Fol S V (W.set (tr l) (sg l)) := by
  refine ⟨by rw [List.length_set]; exact f.len, fun y hy => ?_, fun m hm => ?_, fun m hm => ?_⟩
  · rcases List.mem_or_eq_of_mem_set hy with hy | rfl
    · exact f.tri y hy
    · rcases sg_or l with g | g <;> rw [g] <;> simp
  · have h1 := f.told m hm
    rw [vl_set hl]
    split
    · rename_i g
      rcases lit_eq hl.1 g.1.1 g.2.symm with e | e
      · rw [e] at h1; omega
      · rw [e, vl_neg] at h1; omega
    · exact h1
  · rw [vl_set hl] at hm
    split at hm
    · rename_i g
      have e : m = l := lit_same g.1.1 hl.1 g.2 (by
        rcases sg_or l with a | a <;> rcases sg_or m with b | b <;> rw [a, b] at hm ⊢ <;> simp at hm)
      subst e
      exact .unit hc hlc fun k hk hne => f.der _ (by rw [vl_neg, ho k hk hne]; rfl)
    · exact f.der m hm
theorem Close_spec {s : Sl} {Q : Sl × Bool → Heap → Prop} (q : SRd h x S nx) (hV : RJ h s V) (hn : V.length ≤ 1048576) (ht : Tri V) (hc : S.cls.length ≤ 1000000) (hf : ∀ i, i < S.cls.length → FitsL V.length (S.cl i).lits) (hl : ∀ i, i < S.cls.length → (S.cl i).lits.length ≤ 1000000)
    (K0 : ∀ r W h', RJ h' r W → Fol S V W → (∀ c, C0 S c → Stand W c) → (∀ b, r.blk = some b → h.size ≤ b) → Ext h h' → Q (r, false) h')
    (K1 : ∀ r W h' c, Fol S V W → C0 S c → FalseC W c → Ext h h' → Q (r, true) h') : ref18uClose s x.1 h Q := by
  intro T
  have e0 : Ext h (h.push (.cells ([] : List Value).toArray T (0, 0))) := Ext.push _ _
  have o0 : Own toI h.size (h.push (.cells ([] : List Value).toArray T (0, 0))) ⟨some ⟨h.size, 0, none⟩, 0, 0⟩ ([] : List Int) := Own.new (toV := toI) (h := h) (ys := []) (cs := []) (T := T) rfl
  refine o0.append (by have := e0.size; omega) (R.ext hV e0) one_toI (by simp; omega) fun r h1 o1 k1 _ => ?_
  have e1 : Ext h h1 := e0.fresh (o0.lt rfl).1 k1
  clear o0 k1
  rw [List.nil_append] at o1
  have f0 : Fol S V V := ⟨rfl, ht, fun _ h => h, fun l h => .told h⟩
  have low : ∀ {hh : Heap} {W : List Int}, Own toI h.size hh r W → ∀ b, r.blk = some b → h.size ≤ b := fun o b hb => (o.lt hb).1
  refine loop.inv (fun (t : Bool) hh => ∃ W, Own toI h.size hh r W ∧ Fol S V W ∧ Ext h hh ∧ (t = false → ∀ c, C0 S c → Stand W c)) (fun t hh => 2 * zof hh r + (if t then 1 else 0)) ⟨V, o1, f0, e1, nofun⟩ ?_
  rintro t h2 ⟨W0, o2, f2, e2, hst⟩
  have z2 := zof_eq o2.r
  refine ⟨fun htt => ?_, fun htf => K0 r W0 h2 o2.r f2 (hst htf) (low o2) e2⟩
  subst htt
  clear hst
  rw [if_pos rfl, z2]
  refine loop.inv (fun (t : Bool × Int) hh => ∃ (i : Nat) (W : List Int), t.2 = (i : Int) ∧ i ≤ S.cls.length ∧ Own toI h.size hh r W ∧ Fol S V W ∧ Ext h hh ∧ ((t.1 = false ∧ W = W0 ∧ ∀ j, j < i → Stand W (S.cl j).lits) ∨ (t.1 = true ∧ zer W < zer W0))) (fun t _ => S.cls.length - t.2.toNat)
    ⟨0, W0, rfl, by omega, o2, f2, e2, .inl ⟨rfl, rfl, fun j hj => by omega⟩⟩ ?_
  rintro ⟨more, _⟩ h3 ⟨i, W, rfl, hi, o3, f3, e3, hcase⟩
  dsimp only at hcase ⊢
  refine ⟨fun hlt => ?_, fun hge => ?_⟩
  · have hlt := of_decide_eq_true hlt
    rw [q.clen] at hlt
    have hi' : i < S.cls.length := by omega
    have fit := hf i hi'
    have lnl := hl i hi'
    have c0 : C0 S (S.cl i).lits := ⟨i, hi', rfl⟩
    have hth : ∀ k, k < (S.cl i).lits.length → There W.length (atI (S.cl i).lits k) := fun k hk => by rw [f3.len]; exact fit.1 _ (at_mem hk)
    refine seq.cut (fun (m : Bool) hh => ∃ W', Own toI h.size hh r W' ∧ Fol S V W' ∧ Ext h hh ∧ ((m = more ∧ W' = W ∧ Stand W (S.cl i).lits) ∨ (m = true ∧ zer W' < zer W))) ?_ ?_
    · refine loop.inv (fun (t : Int × Int × Bool × Int) hh => ∃ k : Nat, t.2.2.2 = (k : Int) ∧ k ≤ (S.cl i).lits.length ∧ hh = h3 ∧ (t.2.2.1 = true ↔ ∃ j, j < k ∧ vl W (atI (S.cl i).lits j) = 1) ∧
          ((t.1 = 0 ∧ ∀ j, j < k → vl W (atI (S.cl i).lits j) ≠ 0) ∨ (t.1 = 1 ∧ ∃ a, a < k ∧ t.2.1 = atI (S.cl i).lits a ∧ vl W (atI (S.cl i).lits a) = 0 ∧ ∀ j, j < k → j ≠ a → vl W (atI (S.cl i).lits j) ≠ 0) ∨ (2 ≤ t.1 ∧ t.1 ≤ (k : Int) ∧ ∃ a b, a < b ∧ b < k ∧ vl W (atI (S.cl i).lits a) = 0 ∧ vl W (atI (S.cl i).lits b) = 0))) (fun t _ => (S.cl i).lits.length - t.2.2.2.toNat)
        ⟨0, rfl, by omega, rfl, by simp, .inl ⟨rfl, fun j hj => by omega⟩⟩ ?_
      rintro ⟨free, last, is, _⟩ h4 ⟨k, rfl, hk, rfl, his, hfree⟩
      dsimp only at his hfree ⊢
      refine q.clE e3 (j := i) rfl hi' fun sl hsl => ?_
      have sll := hsl.len
      refine ⟨fun hlt2 => ?_, fun hge2 => ?_⟩
      · have hlt2 := of_decide_eq_true hlt2
        have hk' : k < (S.cl i).lits.length := by omega
        have tv := f3.tri.vl (atI (S.cl i).lits k)
        refine seq.cut (fun (t : Int × Int × Bool) hh => hh = h4 ∧ (t.2.2 = true ↔ ∃ j, j < k + 1 ∧ vl W (atI (S.cl i).lits j) = 1) ∧
          ((t.1 = 0 ∧ ∀ j, j < k + 1 → vl W (atI (S.cl i).lits j) ≠ 0) ∨ (t.1 = 1 ∧ ∃ a, a < k + 1 ∧ t.2.1 = atI (S.cl i).lits a ∧ vl W (atI (S.cl i).lits a) = 0 ∧ ∀ j, j < k + 1 → j ≠ a → vl W (atI (S.cl i).lits j) ≠ 0) ∨ (2 ≤ t.1 ∧ t.1 ≤ ((k + 1 : Nat) : Int) ∧ ∃ a b, a < b ∧ b < k + 1 ∧ vl W (atI (S.cl i).lits a) = 0 ∧ vl W (atI (S.cl i).lits b) = 0))) ?_ ?_
        · refine q.clE e3 (j := i) rfl hi' fun sl2 hsl2 => RJ.ldE hsl2 e3 (j := k) rfl hk' ?_
          refine rValue_spec o3.r (by rw [f3.len]; exact hn) (hth k hk') (f3.tri.at _) ?_
          generalize hvv : vl W (atI (S.cl i).lits k) = v at *
          refine seq.cut (fun (b : Bool) hh => hh = h4 ∧ (b = true ↔ ∃ j, j < k + 1 ∧ vl W (atI (S.cl i).lits j) = 1)) ?_ ?_
          · refine ⟨fun g => ⟨rfl, ?_⟩, fun g => ⟨rfl, ?_⟩⟩
            · have g := of_decide_eq_true g
              simp only [true_iff]
              exact ⟨k, by omega, by omega⟩
            · have g := of_decide_eq_false g
              rw [his]
              constructor
              · rintro ⟨j, h1, h2⟩; exact ⟨j, by omega, h2⟩
              · rintro ⟨j, h1, h2⟩
                refine ⟨j, ?_, h2⟩
                by_cases e : j = k
                · subst e; rw [hvv] at h2; rw [h2] at g; exact absurd (by decide) g
                · omega
          rintro b hh ⟨rfl, hb⟩
          refine ⟨fun g => ?_, fun g => ?_⟩
          · have g : v = 0 := by simpa using g
            rintro _ rfl
            refine ⟨rfl, hb, ?_⟩
            dsimp only
            rcases hfree with ⟨rfl, h1⟩ | ⟨rfl, a, h1, h2, h3, h4⟩ | ⟨h0, h1, a, b, h2, h3, h4, h5⟩
            · rw [w64 (by omega) (by omega)]
              exact .inr (.inl ⟨rfl, k, by omega, rfl, by omega, fun j hj hne => h1 j (by omega)⟩)
            · rw [w64 (by omega) (by omega)]
              exact .inr (.inr ⟨by omega, by omega, a, k, h1, by omega, h3, by omega⟩)
            · rw [w64 (by omega) (by omega)]
              exact .inr (.inr ⟨by omega, by omega, a, b, h2, by omega, h4, h5⟩)
          · have g : ¬ v = 0 := by simpa using g
            refine ⟨rfl, hb, ?_⟩
            dsimp only
            have ne : ∀ j, j < k + 1 → (j < k → vl W (atI (S.cl i).lits j) ≠ 0) → vl W (atI (S.cl i).lits j) ≠ 0 := fun j hj hh => by
              by_cases e : j = k
              · subst e; rw [hvv]; exact g
              · exact hh (by omega)
            rcases hfree with ⟨rfl, h1⟩ | ⟨rfl, a, h1, h2, h3, h4⟩ | ⟨h0, h1, a, b, h2, h3, h4, h5⟩
            · exact .inl ⟨rfl, fun j hj => ne j hj fun hh => h1 j hh⟩
            · exact .inr (.inl ⟨rfl, a, by omega, h2, h3, fun j hj hne => ne j hj fun hh => h4 j hh hne⟩)
            · exact .inr (.inr ⟨h0, by omega, a, b, h2, by omega, h4, h5⟩)
        rintro ⟨fr, la, ii⟩ hh ⟨rfl, hb, hfr⟩
        rintro _ rfl
        rw [w64 (by omega) (by omega)]
        exact ⟨⟨k + 1, by simp, by omega, rfl, hb, hfr⟩, by omega⟩
      · have hge2 := of_decide_eq_false hge2
        have hk' : k = (S.cl i).lits.length := by omega
        subst hk'
        refine seq.cut (fun (b : Bool) hh => hh = h4 ∧ (b = true ↔ is = true ∨ free > 1)) ?_ ?_
        · refine ⟨fun g => ⟨rfl, by simp [g]⟩, fun g => ⟨rfl, ?_⟩⟩
          rw [g]; simp
        rintro b hh ⟨rfl, hb⟩
        refine ⟨fun g => ?_, fun g => ?_⟩
        · refine ⟨W, o3, f3, e3, .inl ⟨rfl, rfl, ?_⟩⟩
          rcases hb.1 g with g | g
          · obtain ⟨j, h1, h2⟩ := his.1 g
            exact .inl ⟨_, at_mem h1, h2⟩
          · rcases hfree with ⟨rfl, _⟩ | ⟨rfl, _⟩ | ⟨_, _, a, b, h2, h3, h4, h5⟩
            · omega
            · omega
            · exact .inr ⟨_, at_mem (by omega), _, at_mem h3, fit.ne (by omega) h3 (by omega), h4, h5⟩
        · have g' : ¬ (is = true ∨ free > 1) := fun hh => by rw [hb.2 hh] at g; cases g
          have nis : ∀ j, j < (S.cl i).lits.length → vl W (atI (S.cl i).lits j) ≠ 1 := fun j hj hh => g' (.inl (his.2 ⟨j, hj, hh⟩))
          refine ⟨fun gz => ?_, fun gz => ?_⟩
          · have gz : free = 0 := by simpa using gz
            rcases hfree with ⟨_, h1⟩ | ⟨h0, _⟩ | ⟨h0, _⟩
            · refine K1 r W hh _ f3 c0 (fun l hlm => ?_) e3
              obtain ⟨j, hj, rfl⟩ := mem_at hlm
              have := f3.tri.vl (atI (S.cl i).lits j)
              have := h1 j hj
              have := nis j hj
              omega
            · omega
            · omega
          · have gz : ¬ free = 0 := by simpa using gz
            rcases hfree with ⟨h0, _⟩ | ⟨_, a, h1, h2, h3, h4⟩ | ⟨h0, _⟩
            · exact absurd h0 gz
            · subst h2
              have tl := hth a h1
              refine rTruth_spec tl (by rw [f3.len]; exact hn) (rSign_spec ?_)
              have z0 : atI W (tr (atI (S.cl i).lits a)) = 0 := vl_zero tl h3
              refine o3.r.idx (by omega) (by have := tl.tr; omega) fun a' ha' _ => ?_
              rw [Int.toNat_natCast]
              refine o3.store tl.tr ha' _ fun h5 o5 k5 _ => ?_
              have e5 : Ext h h5 := by
                cases hbk : r.blk with
                | none => rw [hbk] at k5; exact e3.trans k5
                | some b => rw [hbk] at k5; exact e3.fresh (low o3 b hbk) k5
              refine ⟨_, o5, f3.unit c0 (at_mem h1) tl h3 fun m hm hne => ?_, e5, .inr ⟨rfl, ?_⟩⟩
              · obtain ⟨j, hj, rfl⟩ := mem_at hm
                have := f3.tri.vl (atI (S.cl i).lits j)
                have := h4 j hj (fun e => hne (by rw [e]))
                have := nis j hj
                omega
              · have := zer_set tl.tr z0 (sg_ne (atI (S.cl i).lits a))
                omega
            · omega
    rintro m h5 ⟨W', o5, f5, e5, hm⟩
    rintro _ rfl
    rw [w64 (by omega) (by omega)]
    refine ⟨⟨i + 1, W', by simp, by omega, o5, f5, e5, ?_⟩, by omega⟩
    rcases hm with ⟨rfl, rfl, hs⟩ | ⟨rfl, hz⟩
    · rcases hcase with ⟨h1, rfl, h3⟩ | ⟨h1, h2⟩
      · refine .inl ⟨h1, rfl, fun j hj => ?_⟩
        by_cases e : j = i
        · subst e; exact hs
        · exact h3 j (by omega)
      · exact .inr ⟨h1, h2⟩
    · rcases hcase with ⟨h1, rfl, h3⟩ | ⟨h1, h2⟩
      · exact .inr ⟨rfl, hz⟩
      · exact .inr ⟨rfl, by omega⟩
  · have hge := of_decide_eq_false hge
    rw [q.clen] at hge
    have hi' : i = S.cls.length := by omega
    subst hi'
    refine ⟨⟨W, o3, f3, e3, fun hm => ?_⟩, ?_⟩
    · rcases hcase with ⟨_, rfl, h3⟩ | ⟨h1, _⟩
      · rintro c ⟨j, hj, rfl⟩
        exact h3 j hj
      · rw [hm] at h1; cases h1
    · rw [zof_eq o3.r]
      rcases hcase with ⟨h1, rfl, _⟩ | ⟨h1, h2⟩
      · rw [h1]; simp
      · rw [h1]; simp; omega
end Go.Sh

namespace Go.Sh
open Go Go.Lift Go.Cla
variable {h h' : Heap} {p : Addr} {x : Nm → Sl} {vs : Nm → List Value} {S : SS} {n : Nat}
def lvS (S : SS) : SS := { S with hea := S.hea ++ [(S.tra.length : Int)] }
def decS (S : SS) (l : Int) : SS := putS (lvS S) l (-1)
theorem Ask.level (a : Ask n S) (hx : S.nxt = S.tra.length) (hh : S.hea.length < 1073741824) : Ask n (lvS S) := by
  have t := a.t
  refine ⟨{ nb := t.nb, vn := t.vn, ln := t.ln, rn := t.rn, wn := t.wn, tri := t.tri, cn := t.cn, fit := t.fit, tt := t.tt, tn := t.tn, tv := t.tv, nx := t.nx, hn := by show (S.hea ++ [_]).length ≤ _; simp; omega }, a.w.same rfl, fun j hj k hk hex => ?_, fun hd hm => ?_⟩
  · have := a.p j hj k hk hex
    have up : ∀ l, NotLate S k l → NotLate (lvS S) k l := by
      rintro l ⟨q, h1, h2, h3⟩
      refine ⟨q, h1, h2, fun hd hm hlt => ?_⟩
      rcases List.mem_append.1 hm with hm | hm
      · exact h3 hd hm hlt
      · simp at hm; omega
    exact ⟨fun e => up _ (this.1 e), fun e => up _ (this.2 e)⟩
  · rcases List.mem_append.1 hm with hm | hm
    · exact a.hd hd hm
    · simp at hm
      show hd ≤ (S.nxt : Int)
      omega
theorem one_end {S1 S2 : SS} {W : List Int} (t1 : Tok n S1) (f : Fol S1 S1.val W) (hs : ∀ c, C0 S1 c → Stand W c) (r : RI n S1 S2) (a2 : Ask n S2) (hx : S2.nxt = S2.tra.length) : S2.val = W :=
  one_closure (C := C0 S1) (T := fun l => vl S1.val l = 1) (by rw [r.t.vn, f.len, t1.vn]) r.t.tri f.tri (r.stand a2 hx) hs (r.told t1) f.told r.derV f.der
end Go.Sh

namespace Go.Sh
open Go Go.Lift Go.Cla
variable {h h' : Heap} {p : Addr} {x : Nm → Sl} {vs : Nm → List Value} {S : SS} {n : Nat}
theorem SM.g0 (q : SM h p x vs S) {k : Sl → Prop} (K : k (x .cls)) : Lift.load Sl.toV (p.add 0) h k := ⟨_, (q.root 0 (by decide)).1, K⟩
theorem SM.g2 (q : SM h p x vs S) {k : Sl → Prop} (K : k (x .val)) : Lift.load Sl.toV (p.add 2) h k := ⟨_, (q.root 2 (by decide)).1, K⟩
theorem SM.g6 (q : SM h p x vs S) {k : Sl → Prop} (K : k (x .hea)) : Lift.load Sl.toV (p.add 6) h k := ⟨_, (q.root 6 (by decide)).1, K⟩
end Go.Sh
