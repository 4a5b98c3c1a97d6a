/-
  Laws that the proof of this claim's statement leans on, each proved under the conditions that it states.
-/
import Derived.Test.YtkjcocjkcjmafaaSpG
import Derived.Test.YtkjcocjkcjmafaaSpE
set_option linter.unusedVariables false
set_option linter.unusedSimpArgs false
namespace Go.Sh
open Go Go.Lift Go.Cla
variable {h h' : Heap} {x : S8} {S : SS} {nx : Int} {V : List Int}
def isZ : Option Value → Bool
  | some (.int _ i) => i == 0
  | _ => false
def zof (h : Heap) (s : Sl) : Nat := match s.a with
  | none => 0
  | some a => ((List.range s.len).filter fun i => isZ (cell? h (a.add i))).length
def zer (W : List Int) : Nat := (W.filter (· == 0)).length
theorem zer_eqN : ∀ (n : Nat) (W : List Int), W.length = n → zer W = ((List.range W.length).filter fun i => atI W i == 0).length
  | 0, W, hn => by
    have : W = [] := List.eq_nil_of_length_eq_zero hn
    subst this; rfl
  | n + 1, W, hn => by
    rcases List.eq_nil_or_concat W with rfl | ⟨W, y, rfl⟩
    · simp at hn
    · rw [List.concat_eq_append] at hn ⊢
      have ih := zer_eqN n W (by simpa using hn)
      unfold zer at ih ⊢
      rw [List.filter_append, List.length_append, ih, List.length_append, List.length_singleton, List.range_succ, List.filter_append, List.length_append]
      congr 1
      · congr 1
        apply List.filter_congr
        intro i hi
        rw [at_app (List.mem_range.1 hi)]
      · have : atI (W ++ [y]) W.length = y := at_last
        simp only [List.filter_cons, List.filter_nil, this]
        cases y == 0 <;> rfl
theorem zer_eq (W : List Int) : zer W = ((List.range W.length).filter fun i => atI W i == 0).length := zer_eqN _ W rfl
theorem zof_eq {s : Sl} {W : List Int} (hr : RJ h s W) : zof h s = zer W := by
  unfold zof
  have hl := hr.len
  cases ha : s.a with
  | none =>
    have : W = [] := by
      cases W with
      | nil => rfl
      | cons y ys =>
        obtain ⟨a, h1, _⟩ := hr.get (i := 0) (by simp)
        rw [ha] at h1; cases h1
    subst this; rfl
  | some a =>
    rw [zer_eq, hl]
    dsimp only
    congr 1
    apply List.filter_congr
    intro i hi
    obtain ⟨a', h1, h2⟩ := hr.get (List.mem_range.1 hi)
    rw [ha] at h1; cases h1
    rw [h2, show atI W i = W[i]'(List.mem_range.1 hi) from at_get (List.mem_range.1 hi)]
    rfl
theorem zer_set {W : List Int} {i : Nat} {y : Int} (hi : i < W.length) (h0 : atI W i = 0) (hy : y ≠ 0) : zer (W.set i y) + 1 = zer W := by
  unfold zer
  induction W generalizing i with
  | nil => simp at hi
  | cons a r ih =>
    cases i with
    | zero =>
      have : a = 0 := h0
      subst this
      simp [hy]
    | succ i =>
      have := ih (i := i) (by simpa using hi) h0
      simp only [List.set_cons_succ, List.filter_cons]
      split
      · simp only [List.length_cons]; omega
      · exact this
structure Fol (S : SS) (V W : List Int) : Prop where
  len : W.length = V.length
  tri : Tri W
  told : ∀ l, vl V l = 1 → vl W l = 1
  der : ∀ l, vl W l = 1 → Der (C0 S) (fun l => vl V l = 1) l
theorem vl_set {W : List Int} {l m : Int} (hl : There W.length l) : vl (W.set (tr l) (sg l)) m = if There W.length m ∧ tr m = tr l then sg l * sg m else vl W m := by
  unfold vl
  rw [List.length_set]
  by_cases hm : There W.length m
  · rw [if_pos hm, at_setL _ _ _ _ hl.tr]
    by_cases e : tr m = tr l
    · rw [if_pos e, if_pos ⟨hm, e⟩]
    · rw [if_neg e, if_neg (fun h => e h.2), if_pos hm]
  · rw [if_neg hm, if_neg (fun h => hm h.1), if_neg hm]
theorem Fol.unit {W : List Int} (f : Fol S V W) {c : List Int} {l : Int} (hc : C0 S c) (hlc : l ∈ c) (hl : There W.length l) (h0 : vl W l = 0) (ho : ∀ m ∈ c, m ≠ l → vl W m = -1) : Fol S V (W.set (tr l) (sg l)) := by
  refine ⟨by rw [List.length_set]; exact f.len, fun y hy => ?_, fun m hm => ?_, fun m hm => ?_⟩
  · rcases List.mem_or_eq_of_mem_set hy with hy | rfl
    · exact f.tri y hy
    · rcases sg_or l with g | g <;> rw [g] <;> simp
  · have h1 := f.told m hm
    rw [vl_set hl]
    split
    · rename_i g
      rcases lit_eq hl.1 g.1.1 g.2.symm with e | e
      · rw [e] at h1; omega
      · rw [e, vl_neg] at h1; omega
    · exact h1
  · rw [vl_set hl] at hm
    split at hm
    · rename_i g
      have e : m = l := lit_same g.1.1 hl.1 g.2 (by
        rcases sg_or l with a | a <;> rcases sg_or m with b | b <;> rw [a, b] at hm ⊢ <;> simp at hm)
      subst e
      exact .unit hc hlc fun k hk hne => f.der _ (by rw [vl_neg, ho k hk hne]; rfl)
    · exact f.der m hm
theorem Close_spec {s : Sl} {Q : Sl × Bool → Heap → Prop} (q : SRd h x S nx) (hV : RJ h s V) (hn : V.length ≤ 1048576) (ht : Tri V) (hc : S.cls.length ≤ 1000000) (hf : ∀ i, i < S.cls.length → FitsL V.length (S.cl i).lits) (hl : ∀ i, i < S.cls.length → (S.cl i).lits.length ≤ 1000000)
    (K0 : ∀ r W h', RJ h' r W → Fol S V W → (∀ c, C0 S c → Stand W c) → (∀ b, r.blk = some b → h.size ≤ b) → Ext h h' → Q (r, false) h')
    (K1 : ∀ r W h' c, Fol S V W → C0 S c → FalseC W c → Ext h h' → Q (r, true) h') : ref18uClose s x.1 h Q := by
  intro T
  have e0 : Ext h (h.push (.cells ([] : List Value).toArray T (0, 0))) := Ext.push _ _
  have o0 : Own toI h.size (h.push (.cells ([] : List Value).toArray T (0, 0))) ⟨some ⟨h.size, 0, none⟩, 0, 0⟩ ([] : List Int) := Own.new (toV := toI) (h := h) (ys := []) (cs := []) (T := T) rfl
  refine o0.append (by have := e0.size; omega) (R.ext hV e0) one_toI (by simp; omega) fun r h1 o1 k1 _ => ?_
  have e1 : Ext h h1 := e0.fresh (o0.lt rfl).1 k1
  clear o0 k1
  rw [List.nil_append] at o1
  have f0 : Fol S V V := ⟨rfl, ht, fun _ h => h, fun l h => .told h⟩
  have low : ∀ {hh : Heap} {W : List Int}, Own toI h.size hh r W → ∀ b, r.blk = some b → h.size ≤ b := fun o b hb => (o.lt hb).1
  refine loop.inv (fun (t : Bool) hh => ∃ W, Own toI h.size hh r W ∧ Fol S V W ∧ Ext h hh ∧ (t = false → ∀ c, C0 S c → Stand W c)) (fun t hh => 2 * zof hh r + (if t then 1 else 0)) ⟨V, o1, f0, e1, nofun⟩ ?_
  rintro t h2 ⟨W0, o2, f2, e2, hst⟩
  have z2 := zof_eq o2.r
  refine ⟨fun htt => ?_, fun htf => K0 r W0 h2 o2.r f2 (hst htf) (low o2) e2⟩
  subst htt
  clear hst
  rw [if_pos rfl, z2]
  refine loop.inv (fun (t : Bool × Int) hh => ∃ (i : Nat) (W : List Int), t.2 = (i : Int) ∧ i ≤ S.cls.length ∧ Own toI h.size hh r W ∧ Fol S V W ∧ Ext h hh ∧ ((t.1 = false ∧ W = W0 ∧ ∀ j, j < i → Stand W (S.cl j).lits) ∨ (t.1 = true ∧ zer W < zer W0))) (fun t _ => S.cls.length - t.2.toNat)
    ⟨0, W0, rfl, by omega, o2, f2, e2, .inl ⟨rfl, rfl, fun j hj => by omega⟩⟩ ?_
  rintro ⟨more, _⟩ h3 ⟨i, W, rfl, hi, o3, f3, e3, hcase⟩
  dsimp only at hcase ⊢
  refine ⟨fun hlt => ?_, fun hge => ?_⟩
  · have hlt := of_decide_eq_true hlt
    rw [q.clen] at hlt
    have hi' : i < S.cls.length := by omega
    have fit := hf i hi'
    have lnl := hl i hi'
    have c0 : C0 S (S.cl i).lits := ⟨i, hi', rfl⟩
    have hth : ∀ k, k < (S.cl i).lits.length → There W.length (atI (S.cl i).lits k) := fun k hk => by rw [f3.len]; exact fit.1 _ (at_mem hk)
    refine seq.cut (fun (m : Bool) hh => ∃ W', Own toI h.size hh r W' ∧ Fol S V W' ∧ Ext h hh ∧ ((m = more ∧ W' = W ∧ Stand W (S.cl i).lits) ∨ (m = true ∧ zer W' < zer W))) ?_ ?_
    · refine loop.inv (fun (t : Int × Int × Bool × Int) hh => ∃ k : Nat, t.2.2.2 = (k : Int) ∧ k ≤ (S.cl i).lits.length ∧ hh = h3 ∧ (t.2.2.1 = true ↔ ∃ j, j < k ∧ vl W (atI (S.cl i).lits j) = 1) ∧
          ((t.1 = 0 ∧ ∀ j, j < k → vl W (atI (S.cl i).lits j) ≠ 0) ∨ (t.1 = 1 ∧ ∃ a, a < k ∧ t.2.1 = atI (S.cl i).lits a ∧ vl W (atI (S.cl i).lits a) = 0 ∧ ∀ j, j < k → j ≠ a → vl W (atI (S.cl i).lits j) ≠ 0) ∨ (2 ≤ t.1 ∧ t.1 ≤ (k : Int) ∧ ∃ a b, a < b ∧ b < k ∧ vl W (atI (S.cl i).lits a) = 0 ∧ vl W (atI (S.cl i).lits b) = 0))) (fun t _ => (S.cl i).lits.length - t.2.2.2.toNat)
        ⟨0, rfl, by omega, rfl, by simp, .inl ⟨rfl, fun j hj => by omega⟩⟩ ?_
      rintro ⟨free, last, is, _⟩ h4 ⟨k, rfl, hk, rfl, his, hfree⟩
      dsimp only at his hfree ⊢
      refine q.clE e3 (j := i) rfl hi' fun sl hsl => ?_
      have sll := hsl.len
      refine ⟨fun hlt2 => ?_, fun hge2 => ?_⟩
      · have hlt2 := of_decide_eq_true hlt2
        have hk' : k < (S.cl i).lits.length := by omega
        have tv := f3.tri.vl (atI (S.cl i).lits k)
        refine seq.cut (fun (t : Int × Int × Bool) hh => hh = h4 ∧ (t.2.2 = true ↔ ∃ j, j < k + 1 ∧ vl W (atI (S.cl i).lits j) = 1) ∧
          ((t.1 = 0 ∧ ∀ j, j < k + 1 → vl W (atI (S.cl i).lits j) ≠ 0) ∨ (t.1 = 1 ∧ ∃ a, a < k + 1 ∧ t.2.1 = atI (S.cl i).lits a ∧ vl W (atI (S.cl i).lits a) = 0 ∧ ∀ j, j < k + 1 → j ≠ a → vl W (atI (S.cl i).lits j) ≠ 0) ∨ (2 ≤ t.1 ∧ t.1 ≤ ((k + 1 : Nat) : Int) ∧ ∃ a b, a < b ∧ b < k + 1 ∧ vl W (atI (S.cl i).lits a) = 0 ∧ vl W (atI (S.cl i).lits b) = 0))) ?_ ?_
        · refine q.clE e3 (j := i) rfl hi' fun sl2 hsl2 => RJ.ldE hsl2 e3 (j := k) rfl hk' ?_
          refine rValue_spec o3.r (by rw [f3.len]; exact hn) (hth k hk') (f3.tri.at _) ?_
          generalize hvv : vl W (atI (S.cl i).lits k) = v at *
          refine seq.cut (fun (b : Bool) hh => hh = h4 ∧ (b = true ↔ ∃ j, j < k + 1 ∧ vl W (atI (S.cl i).lits j) = 1)) ?_ ?_
          · refine ⟨fun g => ⟨rfl, ?_⟩, fun g => ⟨rfl, ?_⟩⟩
            · have g := of_decide_eq_true g
              simp only [true_iff]
              exact ⟨k, by omega, by omega⟩
            · have g := of_decide_eq_false g
              rw [his]
              constructor
              · rintro ⟨j, h1, h2⟩; exact ⟨j, by omega, h2⟩
              · rintro ⟨j, h1, h2⟩
                refine ⟨j, ?_, h2⟩
                by_cases e : j = k
                · subst e; rw [hvv] at h2; rw [h2] at g; exact absurd (by decide) g
                · omega
          rintro b hh ⟨rfl, hb⟩
          refine ⟨fun g => ?_, fun g => ?_⟩
          · have g : v = 0 := by simpa using g
            rintro _ rfl
            refine ⟨rfl, hb, ?_⟩
            dsimp only
            rcases hfree with ⟨rfl, h1⟩ | ⟨rfl, a, h1, h2, h3, h4⟩ | ⟨h0, h1, a, b, h2, h3, h4, h5⟩
            · rw [w64 (by omega) (by omega)]
              exact .inr (.inl ⟨rfl, k, by omega, rfl, by omega, fun j hj hne => h1 j (by omega)⟩)
            · rw [w64 (by omega) (by omega)]
              exact .inr (.inr ⟨by omega, by omega, a, k, h1, by omega, h3, by omega⟩)
            · rw [w64 (by omega) (by omega)]
              exact .inr (.inr ⟨by omega, by omega, a, b, h2, by omega, h4, h5⟩)
          · have g : ¬ v = 0 := by simpa using g
            refine ⟨rfl, hb, ?_⟩
            dsimp only
            have ne : ∀ j, j < k + 1 → (j < k → vl W (atI (S.cl i).lits j) ≠ 0) → vl W (atI (S.cl i).lits j) ≠ 0 := fun j hj hh => by
              by_cases e : j = k
              · subst e; rw [hvv]; exact g
              · exact hh (by omega)
            rcases hfree with ⟨rfl, h1⟩ | ⟨rfl, a, h1, h2, h3, h4⟩ | ⟨h0, h1, a, b, h2, h3, h4, h5⟩
            · exact .inl ⟨rfl, fun j hj => ne j hj fun hh => h1 j hh⟩
            · exact .inr (.inl ⟨rfl, a, by omega, h2, h3, fun j hj hne => ne j hj fun hh => h4 j hh hne⟩)
            · exact .inr (.inr ⟨h0, by omega, a, b, h2, by omega, h4, h5⟩)
        rintro ⟨fr, la, ii⟩ hh ⟨rfl, hb, hfr⟩
        rintro _ rfl
        rw [w64 (by omega) (by omega)]
        exact ⟨⟨k + 1, by simp, by omega, rfl, hb, hfr⟩, by omega⟩
      · have hge2 := of_decide_eq_false hge2
        have hk' : k = (S.cl i).lits.length := by omega
        subst hk'
        refine seq.cut (fun (b : Bool) hh => hh = h4 ∧ (b = true ↔ is = true ∨ free > 1)) ?_ ?_
        · refine ⟨fun g => ⟨rfl, by simp [g]⟩, fun g => ⟨rfl, ?_⟩⟩
          rw [g]; simp
        rintro b hh ⟨rfl, hb⟩
        refine ⟨fun g => ?_, fun g => ?_⟩
        · refine ⟨W, o3, f3, e3, .inl ⟨rfl, rfl, ?_⟩⟩
          rcases hb.1 g with g | g
          · obtain ⟨j, h1, h2⟩ := his.1 g
            exact .inl ⟨_, at_mem h1, h2⟩
          · rcases hfree with ⟨rfl, _⟩ | ⟨rfl, _⟩ | ⟨_, _, a, b, h2, h3, h4, h5⟩
            · omega
            · omega
            · exact .inr ⟨_, at_mem (by omega), _, at_mem h3, fit.ne (by omega) h3 (by omega), h4, h5⟩
        · have g' : ¬ (is = true ∨ free > 1) := fun hh => by rw [hb.2 hh] at g; cases g
          have nis : ∀ j, j < (S.cl i).lits.length → vl W (atI (S.cl i).lits j) ≠ 1 := fun j hj hh => g' (.inl (his.2 ⟨j, hj, hh⟩))
          refine ⟨fun gz => ?_, fun gz => ?_⟩
          · have gz : free = 0 := by simpa using gz
            rcases hfree with ⟨_, h1⟩ | ⟨h0, _⟩ | ⟨h0, _⟩
            · refine K1 r W hh _ f3 c0 (fun l hlm => ?_) e3
              obtain ⟨j, hj, rfl⟩ := mem_at hlm
              have := f3.tri.vl (atI (S.cl i).lits j)
              have := h1 j hj
              have := nis j hj
              omega
            · omega
            · omega
          · have gz : ¬ free = 0 := by simpa using gz
            rcases hfree with ⟨h0, _⟩ | ⟨_, a, h1, h2, h3, h4⟩ | ⟨h0, _⟩
            · exact absurd h0 gz
            · subst h2
              have tl := hth a h1
              refine rTruth_spec tl (by rw [f3.len]; exact hn) (rSign_spec ?_)
              have z0 : atI W (tr (atI (S.cl i).lits a)) = 0 := vl_zero tl h3
              refine o3.r.idx (by omega) (by have := tl.tr; omega) fun a' ha' _ => ?_
              rw [Int.toNat_natCast]
              refine o3.store tl.tr ha' _ fun h5 o5 k5 _ => ?_
              have e5 : Ext h h5 := by
                cases hbk : r.blk with
                | none => rw [hbk] at k5; exact e3.trans k5
                | some b => rw [hbk] at k5; exact e3.fresh (low o3 b hbk) k5
              refine ⟨_, o5, f3.unit c0 (at_mem h1) tl h3 fun m hm hne => ?_, e5, .inr ⟨rfl, ?_⟩⟩
              · obtain ⟨j, hj, rfl⟩ := mem_at hm
                have := f3.tri.vl (atI (S.cl i).lits j)
                have := h4 j hj (fun e => hne (by rw [e]))
                have := nis j hj
                omega
              · have := zer_set tl.tr z0 (sg_ne (atI (S.cl i).lits a))
                omega
            · omega
    rintro m h5 ⟨W', o5, f5, e5, hm⟩
    rintro _ rfl
    rw [w64 (by omega) (by omega)]
    refine ⟨⟨i + 1, W', by simp, by omega, o5, f5, e5, ?_⟩, by omega⟩
    rcases hm with ⟨rfl, rfl, hs⟩ | ⟨rfl, hz⟩
    · rcases hcase with ⟨h1, rfl, h3⟩ | ⟨h1, h2⟩
      · refine .inl ⟨h1, rfl, fun j hj => ?_⟩
        by_cases e : j = i
        · subst e; exact hs
        · exact h3 j (by omega)
      · exact .inr ⟨h1, h2⟩
    · rcases hcase with ⟨h1, rfl, h3⟩ | ⟨h1, h2⟩
      · exact .inr ⟨rfl, hz⟩
      · exact .inr ⟨rfl, by omega⟩
  · have hge := of_decide_eq_false hge
    rw [q.clen] at hge
    have hi' : i = S.cls.length := by omega
    subst hi'
    refine ⟨⟨W, o3, f3, e3, fun hm => ?_⟩, ?_⟩
    · rcases hcase with ⟨_, rfl, h3⟩ | ⟨h1, _⟩
      · rintro c ⟨j, hj, rfl⟩
        exact h3 j hj
      · rw [hm] at h1; cases h1
    · rw [zof_eq o3.r]
      rcases hcase with ⟨h1, rfl, _⟩ | ⟨h1, h2⟩
      · rw [h1]; simp
      · rw [h1]; simp; omega
end Go.Sh

namespace Go.Sh
open Go Go.Lift Go.Cla
variable {h h' : Heap} {p : Addr} {x : Nm → Sl} {vs : Nm → List Value} {S : SS} {n : Nat}
def lvS (S : SS) : SS := { S with hea := S.hea ++ [(S.tra.length : Int)] }
def decS (S : SS) (l : Int) : SS := putS (lvS S) l (-1)
theorem Ask.level (a : Ask n S) (hx : S.nxt = S.tra.length) (hh : S.hea.length < 1073741824) : Ask n (lvS S) := by
  have t := a.t
  refine ⟨{ nb := t.nb, vn := t.vn, ln := t.ln, rn := t.rn, wn := t.wn, tri := t.tri, cn := t.cn, fit := t.fit, tt := t.tt, tn := t.tn, tv := t.tv, nx := t.nx, hn := by show (S.hea ++ [_]).length ≤ _; simp; omega }, a.w.same rfl, fun j hj k hk hex => ?_, fun hd hm => ?_⟩
  · have := a.p j hj k hk hex
    have up : ∀ l, NotLate S k l → NotLate (lvS S) k l := by
      rintro l ⟨q, h1, h2, h3⟩
      refine ⟨q, h1, h2, fun hd hm hlt => ?_⟩
      rcases List.mem_append.1 hm with hm | hm
      · exact h3 hd hm hlt
      · simp at hm; omega
    exact ⟨fun e => up _ (this.1 e), fun e => up _ (this.2 e)⟩
  · rcases List.mem_append.1 hm with hm | hm
    · exact a.hd hd hm
    · simp at hm
      show hd ≤ (S.nxt : Int)
      omega
theorem Decide_spec {l : Int} {Q : Bool → Heap → Prop} (q : SM h p x vs S) (a : Ask n S) (hx : S.nxt = S.tra.length) (hh : S.hea.length < 1000000)
    (K0 : ∀ h', Ext h h' → Q false h') (K1 : ∀ h' x' vs', SM h' p x' vs' (decS S l) → Ask n (decS S l) → To p 8 h x h' x' → Q true h') : clause_Decide (some p) l h Q := by
  have t := a.t
  have hn := t.nb
  have hvn := t.vn
  refine seq.cut (fun (b : Bool) h1 => Ext h h1 ∧ (b = false → There n l ∧ vl S.val l = 0)) ?_ ?_
  · refine q.there (by omega) ⟨fun g => ⟨Keep.refl _ _, nofun⟩, fun g => ?_⟩
    have hth : There S.val.length l := by simpa using g
    refine q.value (by omega) t.tri fun h1 e1 => ⟨e1, fun hb => ⟨by rw [← hvn]; exact hth, by simpa using hb⟩⟩
  rintro b h1 ⟨e1, hb⟩
  refine ⟨fun _ => K0 h1 e1, fun hbf => ?_⟩
  obtain ⟨hth, hv⟩ := hb hbf
  have q1 := q.ext e1
  refine q1.ld6 (q1.ld5 ?_)
  rw [q1.tra.r.len]
  refine newJ fun h2 hr e2 _ => ?_
  have q2 := q1.ext e2
  refine ⟨(q2.root 6 (by decide)).1, ?_⟩
  refine q2.pushHea hr (by omega) fun h3 x3 vs3 q3 t3 => ?_
  have a1 := a.level hx (by omega)
  have b1 : Bnd (lvS S) := a1.t.bnd a1.w (fun w => Nat.le_refl _)
  refine put_spec q3 b1 (by show There S.val.length l; rw [hvn]; exact hth) (by show S.lev.length = S.val.length; rw [t.ln, t.vn]) (by show S.rea.length = S.val.length; rw [t.rn, t.vn]) fun h4 x4 vs4 q4 t4 => ?_
  exact K1 h4 x4 vs4 q4 (a1.tell hth hv) ((q.toExt e1).trans ((q1.toExt e2).trans (t3.trans t4)))
theorem lrn_same {S S' : SS} (hl : ∀ j, (S'.cl j).learned = (S.cl j).learned) (k : Nat) : lrn S' k = lrn S k := by
  unfold lrn
  congr 1
  apply List.filter_congr
  intro j _
  rw [hl]
theorem one_end {S1 S2 : SS} {W : List Int} (t1 : Tok n S1) (f : Fol S1 S1.val W) (hs : ∀ c, C0 S1 c → Stand W c) (r : RI n S1 S2) (a2 : Ask n S2) (hx : S2.nxt = S2.tra.length) : S2.val = W :=
  one_closure (C := C0 S1) (T := fun l => vl S1.val l = 1) (by rw [r.t.vn, f.len, t1.vn]) r.t.tri f.tri (r.stand a2 hx) hs (r.told t1) f.told r.derV f.der
end Go.Sh

namespace Go.Sh
open Go Go.Lift Go.Cla
variable {h h' : Heap} {p : Addr} {x : Nm → Sl} {vs : Nm → List Value} {S : SS} {n : Nat}
theorem SM.g0 (q : SM h p x vs S) {k : Sl → Prop} (K : k (x .cls)) : Lift.load Sl.toV (p.add 0) h k := ⟨_, (q.root 0 (by decide)).1, K⟩
theorem SM.g2 (q : SM h p x vs S) {k : Sl → Prop} (K : k (x .val)) : Lift.load Sl.toV (p.add 2) h k := ⟨_, (q.root 2 (by decide)).1, K⟩
theorem SM.g6 (q : SM h p x vs S) {k : Sl → Prop} (K : k (x .hea)) : Lift.load Sl.toV (p.add 6) h k := ⟨_, (q.root 6 (by decide)).1, K⟩
theorem lits_spec {lits : Sl} {xs : List Int} {Q : Bool → Heap → Prop} {h0 : Heap} (e0 : ∀ h' x', To p 8 h x h' x' → Ext h0 h') (q : SM h p x vs S) (a : Ask n S) (hx : S.nxt = S.tra.length) (hh : S.hea.length = 0) (hn : n ≤ 20) (hu : ∀ j, 0 ≤ (S.cl j).use ∧ (S.cl j).use ≤ 7) (hc : S.cls.length ≤ 60) (hlr : (lrn S S.cls.length).length ≤ 39)
    (hl : RJ h lits xs) (hlo : xs ≠ [] → ∀ b, lits.blk = some b → Out p x b) (hll : xs.length ≤ 30) (K : ∀ h', Ext h0 h' → Q true h') :
    loop (fun (s0u6 : Int) h0u30 (K0u14 : Int → Heap → Prop) =>
                  iteB (decide (s0u6 < ((lits.len : Nat) : Int))) (
                   seq (fun (K0u15 : Unit → Heap → Prop) =>
                    idxS lits s0u6 1 fun a_13 =>
                    Lift.load (Value.int .i64) a_13 h0u30 fun v_28 =>
                    clause_Decide (some p) v_28 h0u30 fun v_29 h0u32 =>
                    iteB (!v_29) (
                     K0u15 () h0u32
                    ) (
                     Lift.load Sl.toV (p.add 2) h0u32 fun v_30 =>
                     Lift.load Sl.toV (p.add 0) h0u32 fun v_31 =>
                     ref18uClose v_30 v_31 h0u32 fun v_32 h0u33 =>
                     clause_Run (some p) h0u33 fun v_33 h0u34 =>
                     iteB (!((decide (v_33 ≥ 0)) == v_32.2)) (
                      Q false h0u34
                     ) (
                      iteB v_32.2 (
                       Q true h0u34
                      ) (
                       Lift.load Sl.toV (p.add 2) h0u34 fun v_34 =>
                       ref18uSameInts v_34 v_32.1 h0u34 fun v_35 h0u35 =>
                       iteB (!v_35) (
                        Q false h0u35
                       ) (
                        K0u15 () h0u35
                       )
                      )
                     )
                    )
                   ) (fun t0u9 h0u31 =>
                    K0u14 (IntKind.wrap .i64 (s0u6 + 1)) h0u31
                   )
                  ) (
                   Lift.load Sl.toV (p.add 6) h0u30 fun v_36 =>
                   iteB (decide (((v_36.len : Nat) : Int) > 0)) (
                    Lift.load Sl.toV (p.add 0) h0u30 fun v_37 =>
                    Let (((v_37.len : Nat) : Int) : Int) fun n_1 =>
                    clause_Reduce (some p) 0 h0u30 fun v_38 h0u36 =>
                    Lift.load Sl.toV (p.add 0) h0u36 fun v_39 =>
                    Q (((v_39.len : Nat) : Int) == n_1) h0u36
                   ) (
                    Q true h0u30
                   )
                  )
                 ) 0 h := by
  have ll := hl.len
  refine loop.inv (fun (t : Int) hh' => ∃ (i : Nat) (x' : Nm → Sl) (vs' : Nm → List Value) (S' : SS), t = (i : Int) ∧ i ≤ xs.length ∧ SM hh' p x' vs' S' ∧ Ask n S' ∧ S'.nxt = S'.tra.length ∧ S'.hea.length ≤ i ∧ (∀ j, (S'.cl j).use = (S.cl j).use ∧ (S'.cl j).learned = (S.cl j).learned) ∧ S'.cls.length = S.cls.length ∧ To p 8 h x hh' x') (fun t _ => xs.length - t.toNat)
    ⟨0, x, vs, S, rfl, by omega, q, a, hx, by omega, fun j => ⟨rfl, rfl⟩, rfl, To.refl⟩ ?_
  rintro t h1 ⟨i, x1, vs1, S1, rfl, hi, q1, a1, hx1, hh1, hul, hcl, t1⟩
  have hl1 : RJ h1 lits xs := by
    by_cases hne : xs = []
    · subst hne
      exact ⟨hl.len, hl.cap, (R.nil_of (toV := toI) (h := h1) hl.len).cells⟩
    · exact R.to hl t1 (hlo hne)
  refine ⟨fun hlt => ?_, fun hge => ?_⟩
  · have hlt := of_decide_eq_true hlt
    refine seq.cut (fun (_ : Unit) hh' => ∃ (x' : Nm → Sl) (vs' : Nm → List Value) (S' : SS), SM hh' p x' vs' S' ∧ Ask n S' ∧ S'.nxt = S'.tra.length ∧ S'.hea.length ≤ i + 1 ∧ (∀ j, (S'.cl j).use = (S.cl j).use ∧ (S'.cl j).learned = (S.cl j).learned) ∧ S'.cls.length = S.cls.length ∧ To p 8 h x hh' x') ?_ ?_
    · refine RJ.ld hl1 (j := i) rfl (by omega) ?_
      refine Decide_spec q1 a1 hx1 (by omega) (fun h2 e2 => iteT rfl ⟨x1, vs1, S1, q1.ext e2, a1, hx1, by omega, hul, hcl, t1.trans (q1.toExt e2)⟩) fun h2 x2 vs2 q2 a2 t2 => iteF rfl ?_
      have hul2 : ∀ j, ((decS S1 (at0 xs i)).cl j).use = (S.cl j).use ∧ ((decS S1 (at0 xs i)).cl j).learned = (S.cl j).learned := hul
      have hcl2 : (decS S1 (at0 xs i)).cls.length = S.cls.length := hcl
      have hhl : (decS S1 (at0 xs i)).hea.length ≤ i + 1 := by show (S1.hea ++ [_]).length ≤ _; simp; omega
      generalize decS S1 (at0 xs i) = S2 at *
      have tk := a2.t
      refine q2.g2 (q2.g0 ?_)
      refine Close_spec q2.srd q2.val.r (by rw [tk.vn]; omega) tk.tri (by omega) (fun j hj => by rw [tk.vn]; exact tk.fit j hj) (fun j hj => ?_) (fun r W h3 hr f hst hrb e3 => ?_) (fun r W h3 cc f hcc hfc e3 => ?_)
      · have ff := tk.fit j hj
        have := few_of_nodup ff.2.1 (N := n) (fun v hv => by obtain ⟨l, hl, e⟩ := List.mem_map.1 hv; rw [← e]; exact (ff.1 l hl).tr)
        rw [List.length_map] at this
        omega
      · refine Run_spec (q2.ext e3) a2 (fun j => by rw [(hul2 j).1]; have := hu j; omega) (fun h4 x4 vs4 S4 q4 t4 r4 a4 hx4 => ?_) (fun j h4 x4 vs4 S4 hj q4 t4 r4 bad => ?_)
        · refine iteF (by show (!(decide ((-1 : Int) ≥ 0) == false)) = false; decide) (iteF rfl ?_)
          refine q4.g2 ?_
          have hW := one_end tk f hst r4 a4 hx4
          have hr4 : RJ h4 r W := R.to hr t4 fun b hb => by
            have := hrb b hb
            exact ⟨by have := q2.plt; omega, fun i hi => by have := q2.ns.lt hi; omega⟩
          refine SameInts_spec (xs := W) (by rw [← hW]; exact q4.val.r) hr4 (by rw [← hW, r4.t.vn]; omega) (iteF rfl ?_)
          exact ⟨x4, vs4, S4, q4, a4, hx4, by rw [r4.hea]; exact hhl, fun j => ⟨(r4.lu j).2.trans (hul2 j).1, (r4.lu j).1.trans (hul2 j).2⟩, r4.cl.trans hcl2, t1.trans (t2.trans ((q2.toExt e3).trans t4))⟩
        · exfalso
          obtain ⟨cc, hc1, hc2⟩ := r4.bad (by rw [r4.cl]; exact hj) bad
          exact no_clash (C := C0 S2) (T := fun l => vl S2.val l = 1) (V := W) hst f.told r4.derV hc1 hc2
      · refine Run_spec (q2.ext e3) a2 (fun j => by rw [(hul2 j).1]; have := hu j; omega) (fun h4 x4 vs4 S4 q4 t4 r4 a4 hx4 => ?_) (fun j h4 x4 vs4 S4 hj q4 t4 r4 bad => ?_)
        · exfalso
          exact no_clash (C := C0 S2) (T := fun l => vl S2.val l = 1) (V := S4.val) (r4.stand a4 hx4) (r4.told tk) f.der hcc hfc
        · refine iteF (by simp) (iteT rfl ?_)
          exact K h4 (e0 h4 x4 (t1.trans (t2.trans ((q2.toExt e3).trans t4))))
    rintro _ h2 ⟨x2, vs2, S2, q2, a2, hx2, hh2, hul2, hcl2, t2⟩
    rw [w64 (by omega) (by omega)]
    exact ⟨⟨i + 1, x2, vs2, S2, by omega, by omega, q2, a2, hx2, hh2, hul2, hcl2, t2⟩, by omega⟩
  · refine q1.g6 ⟨fun hg => ?_, fun _ => K h1 (e0 h1 x1 t1)⟩
    have hg := of_decide_eq_true hg
    rw [q1.hea.r.len] at hg
    refine q1.g0 ?_
    rintro _ rfl
    refine Reduce_held q1 (by omega) (by rw [hcl, lrn_same (S := S) fun j => (hul j).2]; exact hlr) (by omega) fun h2 e2 => ?_
    refine (q1.ext e2).g0 ?_
    rw [beq_self_eq_true]
    exact K h2 (e0 h2 x1 (t1.trans (q1.toExt e2)))
end Go.Sh

namespace Go.Sh
open Go Go.Lift Go.Cla
variable {h h' : Heap} {p : Addr} {x : Nm → Sl} {vs : Nm → List Value} {S : SS} {n : Nat} {cs : List Cl}
theorem kept_at {g : Int → Option Bool} {i : Nat} (hg : gv g i = false) : ∀ {n : Nat}, i < n → (keptN g n)[(keptN g i).length]? = some i
  | 0, h => by omega
  | n + 1, h => by
    rw [keptN_succ]
    by_cases e : i = n
    · subst e
      rw [if_neg (by rw [hg]; simp), List.getElem?_append_right (Nat.le_refl _)]
      simp
    · have ih := kept_at hg (n := n) (by omega)
      split
      · exact ih
      · rw [List.getElem?_append_left (List.getElem?_eq_some_iff.1 ih).1]; exact ih
theorem kept_up {g : Int → Option Bool} {i : Nat} : (keptN g (i + 1)).length = (keptN g i).length + (if gv g i = true then 0 else 1) := by
  rw [keptN_succ]
  split <;> simp
theorem lexU.no {U : Int → Int} {a b : Int} (h : lexU U a b) (k : lexU U b a) : False := by unfold lexU at *; omega
theorem pick_eq {U : Int → Int} {ys : List Int} {t : Nat} {w : Int} (hs : ys.Pairwise (lexU U)) (ht : t < ys.length) (hw : w ∈ ys.drop t) (hm : ∀ c ∈ ys.drop t, c = w ∨ lexU U w c) : w = ys[t] := by
  obtain ⟨k, hk, hk2, rfl⟩ := drop_at hw
  rw [at_get hk2] at hm ⊢
  by_cases e : k = t
  · subst e; rfl
  · have h1 := List.pairwise_iff_getElem.1 hs t k ht hk2 (by omega)
    rcases hm ys[t] (List.mem_iff_getElem.2 ⟨0, by rw [List.length_drop]; omega, by simp⟩) with h2 | h2
    · exact h2.symm
    · exact (h1.no h2).elim
theorem trip_cells {s : Sl} {m : Nat} (ho : OwnV h (Sl.sc 3 s) ((List.range m).flatMap (trip x cs))) {i : Int} {j : Nat} {k : Addr → Prop} (hi : i = (j : Int)) (hj : j < m)
    (K : ∀ a : Addr, cell? h ((a.add (j * 3)).add 0) = some (Sl.toV (x (.c j))) → cell? h ((a.add (j * 3)).add 1) = some (Value.bool (cs.getD j d0).learned) → cell? h ((a.add (j * 3)).add 2) = some (toI (cs.getD j d0).use) → k (a.add (j * 3))) : idxS s i 3 k := by
  subst hi
  have hl := ho.len
  rw [flat_trip_len, List.length_range] at hl
  have hl : s.len * 3 = 3 * m := hl
  have get : ∀ u, u < 3 → ∃ b, s.a = some ⟨b, 0, none⟩ ∧ cell? h ((⟨b, 0, none⟩ : Addr).add (3 * j + u)) = (trip x cs j)[u]? := fun u hu => by
    obtain ⟨b, h1, h2⟩ := ho.get (j := 3 * j + u) (by rw [flat_trip_len, List.length_range]; omega)
    refine ⟨b, h1, h2.trans ?_⟩
    have := flat_trip_get x cs (List.range m) j (by simpa using hj) u hu
    rw [List.getElem_range] at this
    rw [← this]
    exact (List.getElem?_eq_getElem _).symm
  obtain ⟨b, g0, c0⟩ := get 0 (by decide)
  obtain ⟨b1, g1, c1⟩ := get 1 (by decide)
  obtain ⟨b2, g2, c2⟩ := get 2 (by decide)
  rw [g0] at g1 g2
  cases g1; cases g2
  refine ⟨⟨b, 0, none⟩, g0, by omega, ?_⟩
  rw [Int.toNat_natCast]
  have ad : ∀ u, ((⟨b, 0, none⟩ : Addr).add (j * 3)).add u = (⟨b, 0, none⟩ : Addr).add (3 * j + u) := fun u => by
    rw [addr_add_add, Nat.mul_comm j 3]
  refine K _ ?_ ?_ ?_
  · rw [ad, c0]; rfl
  · rw [ad, c1]; rfl
  · rw [ad, c2]; rfl
theorem trip_ld {s : Sl} {m : Nat} (ho : OwnV h (Sl.sc 3 s) ((List.range m).flatMap (trip x cs))) {i : Int} {j : Nat} {k : Sl × Bool × Int → Prop} (hi : i = (j : Int)) (hj : j < m) (K : k (x (.c j), (cs.getD j d0).learned, (cs.getD j d0).use)) : idxS s i 3 fun a => loadS C_sl_bool_i64 3 a h k :=
  trip_cells ho hi hj fun a h0 h1 h2 => ⟨_, by
    have := cells?_mk (h := h) (a := a.add (j * 3)) (C_sl_bool_i64 (x (.c j), (cs.getD j d0).learned, (cs.getD j d0).use)) 0 (fun m hm => by
      have hm : m < 3 := hm
      rw [Nat.zero_add]
      match m, hm with
      | 0, _ => exact h0
      | 1, _ => exact h1
      | 2, _ => exact h2)
    exact this, K⟩
theorem and7 (v : Int) : ∃ m : Nat, IntKind.wrap .i64 (((BitVec.ofInt (IntKind.bits .i64) v &&& BitVec.ofInt (IntKind.bits .i64) 7).toNat : Int)) = (m : Int) ∧ m ≤ 7 := by
  have h7 : (BitVec.ofInt (IntKind.bits .i64) v &&& BitVec.ofInt (IntKind.bits .i64) 7).toNat ≤ 7 := by
    rw [BitVec.toNat_and]
    refine Nat.le_trans Nat.and_le_right ?_
    decide
  exact ⟨_, w64 (by omega) (by omega), h7⟩
end Go.Sh
