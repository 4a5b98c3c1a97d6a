/-
  Laws that the proof of this claim's statement leans on, each proved under the conditions that it states.
-/
import Derived.Test.YtlclchgingkkhaaGreatDoorSA
set_option linter.unusedVariables false
set_option linter.unusedSimpArgs false
namespace Go.Sh
open Go Go.Lift
def Ch : Nat → TT → Prop
  | 0, _ => True
  | n + 1, t => ∃ t' i up m, Mv t t' i up m ∧ Ch n t'
theorem Ch.seq : ∀ {n : Nat} {t : TT}, Ch n t → ∃ (T : Nat → TT) (I : Nat → Nat) (U : Nat → Bool) (M : Nat → Int × Rat), T 0 = t ∧ ∀ k, k < n → Mv (T k) (T (k + 1)) (I k) (U k) (M k)
  | 0, t, _ => ⟨fun _ => t, fun _ => 0, fun _ => true, fun _ => (0, 0), rfl, fun k hk => by omega⟩
  | n + 1, t, ⟨t', i, up, m, h1, h2⟩ => by
    obtain ⟨T, I, U, M, e, h⟩ := Ch.seq h2
    refine ⟨fun k => if k = 0 then t else T (k - 1), fun k => if k = 0 then i else I (k - 1), fun k => if k = 0 then up else U (k - 1), fun k => if k = 0 then m else M (k - 1), rfl, fun k hk => ?_⟩
    by_cases hk0 : k = 0
    · subst hk0
      simp only [if_pos, Nat.zero_add, Nat.one_ne_zero, if_false, Nat.sub_self, e]
      exact h1
    · have := h (k - 1) (by omega)
      have e1 : k + 1 - 1 = k - 1 + 1 := by omega
      simp only [if_neg hk0, if_neg (Nat.succ_ne_zero k), e1]
      exact this
theorem Ch.bound {n : Nat} {t : TT} (h : Ch n t) (g : RG t) (b : NB t) : n < 4 ^ t.vs.length := by
  obtain ⟨T, I, U, M, e, hm⟩ := h.seq
  have := zJ (T := T) (e ▸ g) (e ▸ b) hm
  rw [e] at this
  exact this
theorem adO {P : Nat → Prop} : ∀ {b : Nat}, P 0 → (∀ n, P n → n < b) → ∃ n, P n ∧ ∀ k, P k → k ≤ n := by
  intro b h0 hb
  refine Classical.byContradiction fun hno => ?_
  have : ∀ n, ∃ k, n ≤ k ∧ P k := by
    intro n
    induction n with
    | zero => exact ⟨0, Nat.le_refl _, h0⟩
    | succ n ih =>
      obtain ⟨k, h1, h2⟩ := ih
      refine Classical.byContradiction fun hc => hno ⟨k, h2, fun j hj => ?_⟩
      refine Classical.byContradiction fun hjk => hc ⟨j, by omega, hj⟩
  obtain ⟨k, h1, h2⟩ := this b
  have := hb k h2
  omega
def Left (t : TT) (n : Nat) : Prop := Ch n t ∧ ∀ k, Ch k t → k ≤ n
theorem Left.some {t : TT} (g : RG t) (b : NB t) : ∃ n, Left t n := adO (b := 4 ^ t.vs.length) trivial fun n h => Ch.bound h g b
theorem Left.lt {t t' : TT} {i : Nat} {up : Bool} {m : Int × Rat} {n n' : Nat} (M : Mv t t' i up m) (h : Left t n) (h' : Left t' n') : n' < n := by
  have := h.2 (n' + 1) ⟨t', i, up, m, M, h'.1⟩
  omega
theorem mC {P : Nat → Prop} : (∃ n, P n) → ∃ n, P n ∧ ∀ k, P k → n ≤ k := by
  rintro ⟨n, hn⟩
  induction n using Nat.strongRecOn with
  | _ n ih =>
    by_cases hc : ∃ k, k < n ∧ P k
    · obtain ⟨k, h1, h2⟩ := hc
      exact ih k h1 h2
    · exact ⟨n, hn, fun k hk => Classical.byContradiction fun h => hc ⟨k, by omega, hk⟩⟩
open Classical in
theorem loop.rank {σ : Type} {body : σ → Heap → (σ → Heap → Prop) → Prop} {s : σ} {h : Heap} (J : Nat → σ → Heap → Prop) (h0 : ∃ n, J n s h) (hb : ∀ n s h, J n s h → body s h fun s' h' => ∃ n', n' < n ∧ J n' s' h') : Lift.loop body s h := by
  refine Lift.loop.inv (fun s h => ∃ n, J n s h) (fun s h => if e : ∃ n, J n s h then Classical.choose (mC e) else 0) h0 fun s h hI => ?_
  have hc := Classical.choose_spec (mC hI)
  have := hb _ s h hc.1
  have e : (fun s' h' => ∃ n', n' < Classical.choose (mC hI) ∧ J n' s' h') = fun s' h' => (∃ n, J n s' h') ∧ (if e : ∃ n, J n s' h' then Classical.choose (mC e) else 0) < (if e : ∃ n, J n s h then Classical.choose (mC e) else 0) := by
    funext s' h'
    refine propext ⟨fun ⟨n', h1, h2⟩ => ?_, fun ⟨h1, h2⟩ => ?_⟩
    · have hI' : ∃ n, J n s' h' := ⟨n', h2⟩
      refine ⟨hI', ?_⟩
      rw [dif_pos hI', dif_pos hI]
      have := (Classical.choose_spec (mC hI')).2 n' h2
      omega
    · rw [dif_pos h1, dif_pos hI] at h2
      exact ⟨_, h2, (Classical.choose_spec (mC h1)).1⟩
  rw [e] at this
  exact this
structure Rch (t t' : TT) : Prop where
  nb : NB t'
  lo : t'.lo = t.lo
  up : t'.up = t.up
  np : t'.ps.length = t.ps.length
  nv : t'.vs.length = t.vs.length
  sol : ∀ f, Sol t' f ↔ Sol t f
theorem Rch.refl {t : TT} (n : NB t) : Rch t t := ⟨n, rfl, rfl, rfl, rfl, fun _ => Iff.rfl⟩
theorem Rch.mv {t t' t2 : TT} {i : Nat} {up : Bool} {m : Int × Rat} (r : Rch t t') (g : RG t') (M : Mv t' t2 i up m) : Rch t t2 := by
  have s := M.step g
  exact ⟨M.nb g r.nb, by rw [M.e]; exact r.lo, by rw [M.e]; exact r.up, s.np.trans r.np, s.nv.trans r.nv, fun f => (s.sol f).trans (r.sol f)⟩
section
variable {h0 h h' : Heap} {V : Vol} {x : S5} {t : TT} {n : Nat}
theorem xS {Q : (Sl × Int) → Heap → Prop} (q : TM h0 V 60 false h x t) (f : FitT t n) (b : NB t)
    (CO : ∀ h', BO h0 V.a 60 true h' → Q (Sl.nil, 6) h')
    (C : ∀ s t' rs x' h', TM h0 V 60 false h' x' t' → KK V.K h h' → FitT t' n → Rch t t' → ((∀ k c, k < t'.ps.length → viol t' k c = false) ∧ rs = [] ∨ ∃ i up, Wst t' i up ∧ rs = rsn t' i up) → MK K0 h' s rs → Q (s, 0) h') : dl (some V.a) (some V.p) h Q := by
  obtain ⟨l, hl⟩ := Left.some f.g b
  refine loop.rank (fun l _ h' => ∃ x' t', TM h0 V 60 false h' x' t' ∧ KK V.K h h' ∧ FitT t' n ∧ Rch t t' ∧ Left t' l) ⟨l, x, t, q, KK.refl, f, Rch.refl b, hl⟩ ?_
  rintro l s h1 ⟨x1, t1, q1, k1, f1, r1, l1⟩
  refine tg q1 (by decide) (by decide) f1.fl (fun h2 b2 _ => ⟨fun _ => CO h2 b2, fun g => by simp at g⟩) fun st s t2 rs x2 h2 q2 k2 D m2 => ?_
  have f2 := (D.fit f1).1
  cases D with
  | fine hf => exact ⟨fun _ => C s _ _ x2 h2 q2 (k1.trans k2) f2 r1 (.inl ⟨hf, rfl⟩) m2, fun g => by simp at g⟩
  | clash i up w hn => exact ⟨fun _ => C s _ _ x2 h2 q2 (k1.trans k2) f2 r1 (.inr ⟨i, up, w, rfl⟩) m2, fun g => by simp at g⟩
  | move i up j m w F hm g1 g2 g3 =>
    refine ⟨fun g => by simp at g, fun _ => ?_⟩
    have M : Mv t1 _ i up m := ⟨w, ⟨j, F, hm⟩, rfl⟩
    have r2 := r1.mv f1.g M
    obtain ⟨l2, hl2⟩ := Left.some f2.g r2.nb
    exact ⟨l2, l1.lt M hl2, x2, _, q2, k1.trans k2, f2, r2, hl2⟩
end
end Go.Sh

namespace Go.Sh
open Go Go.Lift
section
variable {t t' : TT} {v : Int} {up : Bool} {e : Eg} {rs : PL} {er : Int} {lim : Nat}
theorem rA (g : RG t) (h0 : 0 ≤ v) (h1 : v < (t.vs.length : Int)) {c : Bool} {w : Int} (hw : 0 ≤ w) : egT (setE t up v e) c w = if c = up ∧ w = v then e else egT t c w := by
  have key : ∀ {l : List Eg}, l.length = t.vs.length → edA (l.set v.toNat e) w = if w = v then e else edA l w := by
    intro l hl
    unfold edA
    rw [List.getD_eq_getElem?_getD, List.getElem?_set]
    by_cases h : w = v
    · subst h
      rw [if_pos rfl, if_pos (by omega), if_pos rfl]; rfl
    · rw [if_neg (by omega), if_neg h, List.getD_eq_getElem?_getD]
  unfold egT
  cases up <;> cases c
  · show edA (t.lo.set v.toNat e) w = _
    rw [key g.ll]; simp [sd]
  · show edA t.up w = _
    simp [sd]
  · show edA t.lo w = _
    simp [sd]
  · show edA (t.up.set v.toNat e) w = _
    rw [key g.lu]; simp [sd]
theorem aaq {c : Bool} {w : Int} (hw : w < 0) (g : RG t) : egT t c w = egT t c 0 := by
  unfold egT edA
  rw [show w.toNat = (0 : Int).toNat by omega]
theorem abt {c : Bool} {a b : Eg} (ha : a.1 ≠ 0) (h : byd c a b.2 = false) : byd (!c) b a.2 = false := by
  cases hb : byd (!c) b a.2
  · rfl
  · have h1 := (zx.1 hb).2
    have : byd c a b.2 = true := zx.2 ⟨ha, by cases c <;> simpa using h1⟩
    rw [h] at this; cases this
theorem nbas (g : RG t) (h : rowI t.bs v < 0) : ¬ Bas t v := fun ⟨k, hk, e⟩ => g.nb h k hk e.symm
theorem acE (g : RG t) (h : ¬ Bas t v) : rowI t.bs v < 0 := g.no fun k hk e => h ⟨k, hk, e.symm⟩
structure NB0 (t : TT) : Prop where
  inb : ∀ w, 0 ≤ w → w < (t.vs.length : Int) → ¬ Bas t w → ∀ c, byd c (egT t c w) (atD t.vs w) = false
  cons : ∀ w, 0 ≤ w → ∀ c, (egT t c w).1 ≠ 0 → byd (!c) (egT t (!c) w) (egT t c w).2 = false
theorem NB0.nb (n : NB0 t) (g : RG t) : NB t := ⟨n.inb, fun w c h => by
  rcases Int.lt_or_le w 0 with hw | hw
  · rw [aaq hw g] at h ⊢
    rw [aaq hw g]
    exact n.cons 0 (by omega) c h
  · exact n.cons w hw c h⟩
theorem Bd.nb0 (D : Bd lim t v up e t' rs er) (g : RG t) (n : NB0 t) : NB0 t' := by
  have setN : 0 ≤ v → v < (t.vs.length : Int) → e.1 ≠ 0 → byd (!up) (edA (sd t (!up)) v) e.2 = false → ∀ w, 0 ≤ w → ∀ c, (egT (setE t up v e) c w).1 ≠ 0 → byd (!c) (egT (setE t up v e) (!c) w) (egT (setE t up v e) c w).2 = false := by
    intro h0 h1 he hb w hw c hc
    rw [rA g h0 h1 hw] at hc ⊢
    rw [rA g h0 h1 hw]
    by_cases hwv : w = v
    · subst hwv
      by_cases hcu : c = up
      · subst hcu
        have h2 : ¬ ((!c) = c ∧ w = w) := fun h => by cases c <;> simp at h
        rw [if_neg h2, if_pos ⟨rfl, rfl⟩]
        exact hb
      · have hcu' : c = !up := by cases c <;> cases up <;> simp_all
        subst hcu'
        have h2 : ¬ ((!up) = up ∧ w = w) := fun h => by cases up <;> simp at h
        rw [if_neg h2] at hc ⊢
        rw [if_pos ⟨Bool.not_not up, rfl⟩]
        exact abt hc hb
    · rw [if_neg fun h => hwv h.2] at hc ⊢
      rw [if_neg fun h => hwv h.2]
      exact n.cons w hw c hc
  cases D with
  | rng => exact n
  | arg => exact n
  | old => exact n
  | cla => exact n
  | set h0 h1 he _ hb hno =>
    refine ⟨fun w hw hwl hbs c => ?_, setN h0 h1 he hb⟩
    have hbs' : ¬ Bas t w := fun ⟨k, hk, e⟩ => hbs ⟨k, by rw [fA]; exact hk, by rw [fm]; exact e⟩
    rw [eP] at hwl ⊢
    rw [rA g h0 h1 hw]
    split
    · rename_i hcw
      obtain ⟨rfl, rfl⟩ := hcw
      cases hx : byd c e (atD t.vs w)
      · rfl
      · exact absurd ⟨acE g hbs', hx⟩ hno
    · exact n.inb w hw hwl hbs' c
  | upd h0 h1 he _ hb hr hy _ =>
    have g1 := g.setE (up := up) (v := v) he
    have hr1 : rowI (setE t up v e).bs v < 0 := by rw [fm]; exact hr
    have h11 : v < ((setE t up v e).vs.length : Int) := by rw [eP]; exact h1
    refine ⟨fun w hw hwl hbs c => ?_, setN h0 h1 he hb⟩
    have hbs1 : ¬ Bas (setE t up v e) w := hbs
    have hbs' : ¬ Bas t w := fun ⟨k, hk, e⟩ => hbs ⟨k, by rw [abT, fA]; exact hk, by rw [acZ, fm]; exact e⟩
    have hl : (updT (setE t up v e) v e.2).vs.length = t.vs.length := by
      rw [← fV (g1.upd h0 h11 hr1), iS]; simp [eP]
    rw [hl] at hwl
    show byd c (egT (setE t up v e) c w) _ = false
    rw [mJ g1 h0 h11 hr1 hw hbs1, rA g h0 h1 hw]
    by_cases hwv : w = v
    · subst hwv
      rw [if_pos rfl]
      by_cases hcu : c = up
      · subst hcu
        rw [if_pos ⟨rfl, rfl⟩]
        exact xA
      · have hcu' : c = !up := by cases c <;> cases up <;> simp_all
        subst hcu'
        rw [if_neg fun h => hcu h.1]
        exact hb
    · rw [if_neg hwv, if_neg fun h => hwv h.2, eP]
      exact n.inb w hw hwl hbs' c
end
end Go.Sh
