/- Laws that the proof of this claim's statement leans on, each proved under the conditions that it states. -/
import Derived.Test.YtdcdidecehbplaaDoorSpecG5
set_option linter.unusedVariables false
set_option linter.unusedSimpArgs false
namespace Go.Sh
open Go Go.Lift

/-- What came in can't lie in a block that was made since, or it is nothing. -/
theorem in_blk {h : Heap} {x : Sl} {xs : List Nat} {a : Addr} {b : Nat} (hx : RI .u32 h x xs) (ha : h.size ≤ a.block) : x.blk = some a.block → val b xs = 0 := by
  intro hb
  cases hxa : x.a with
  | none => simp [Sl.blk, hxa] at hb
  | some a' =>
    simp only [Sl.blk, hxa, Option.map_some, Option.some.injEq] at hb
    by_cases hne : xs = []
    · subst hne; rfl
    · have := hx.lt hxa hne
      omega

theorem great2 {x y : Sl} {h0 h : Heap} {s : ByteArray} {k : Nat} {J : Bool → Heap → Prop} (he : Ext h0 h)
    (K : ∀ b h', (b = true ∨ x.len ≤ 12 ∧ y.len ≤ 12) → Ext h0 h' → J b h') : new [Sl.toV x, Sl.toV y] h fun a h0u2 => law01ugreat (⟨some a, 2, 2⟩ : Sl) h0u2 J := by
  intro T
  have ho := Own.new (toV := Sl.toV) (ys := [x, y]) (cs := [Sl.toV x, Sl.toV y]) (h := h) (T := T) rfl
  refine great_spec ho.r (by simp) (K _ _ ?_ (he.trans (Ext.push _ _)))
  by_cases hg : 12 < x.len
  · left; simp [hg]
  · by_cases hg2 : 12 < y.len
    · left; simp [hg2]
    · right; omega

theorem Sub_over {a : Addr} {lim : Nat} {x y : Sl} {m n : Nat} {h : Heap} {Q : Sl → Heap → Prop} (hb : Bench h a lim true) (hx : NV h x m) (hy : NV h y n) (hxl : x.len ≤ 1048000)
    (K : ∀ h', Bench h' a lim true → Keep (some a.block) h h' → Q Sl.nil h') : nat_Bench_Sub (some a) x y h Q :=
  Sub_spec hb hx hy hxl (fun _ => K h hb (Keep.refl _ _)) fun _ r h' hb' hk _ ht _ => by
    simp only [Bool.true_or] at hb' ht
    have hr := ht trivial
    subst hr
    exact K h' hb' hk
theorem Div_over {a : Addr} {lim : Nat} {x y : Sl} {m n : Nat} {h : Heap} {Q : (Sl × Sl) → Heap → Prop} (hb : Bench h a lim true) (hx : NV h x m) (hy : NV h y n) (hxl : x.len ≤ 30000) (hyl : y.len ≤ 30000)
    (K : ∀ h', Bench h' a lim true → Keep (some a.block) h h' → Q (Sl.nil, Sl.nil) h') : nat_Bench_Div (some a) x y h Q :=
  Div_spec hb hx hy hxl hyl (fun _ => K h hb (Keep.refl _ _)) fun _ q r h' ov hov hb' hk _ ht _ => by
    simp only [Bool.true_or] at hov
    subst hov
    obtain ⟨rfl, rfl⟩ := ht rfl
    exact K h' hb' hk

theorem NatOver_holds {x y : Sl} {s : ByteArray} {xs ys : List Nat} {h : Heap} {Q : Bool → Heap → Prop} (ht : Tab h) (hx : RI .u32 h x xs) (hxl : Lim 4294967296 xs) (hy : RI .u32 h y ys) (hyl : Lim 4294967296 ys) (K : ∀ h', Ext h h' → Q true h') : law01uNatOver x y s h Q := by
  unfold law01uNatOver
  refine speaks_spec fun h1 he1 => ⟨nofun, fun _ => ?_⟩
  have lx := hx.len
  have ly := hy.len
  refine seq.cut (fun b h' => (b = true ∨ x.len ≤ 12 ∧ y.len ≤ 12) ∧ Ext h h') ?_ ?_
  · refine great2 (s := s) (k := 0) he1 fun b h2 hb he2 => ⟨fun _ => ⟨.inl rfl, he2⟩, fun hf => ⟨?_, he2⟩⟩
    rcases hb with hb | hb
    · rw [hf] at hb; cases hb
    · exact .inr hb
  rintro b h2 ⟨hb, he2⟩
  refine ⟨fun _ => K h2 he2, fun hbf => ?_⟩
  obtain ⟨hx12, hy12⟩ : x.len ≤ 12 ∧ y.len ≤ 12 := by
    rcases hb with hb | hb
    · rw [hbf] at hb; cases hb
    · exact hb
  clear hb hbf
  refine New_spec fun a h3 hb3 hab he3 => ?_
  refine newN (kd := .u32) (ms := [0, 1]) rfl fun h4 ho4 he4 hs4 => ?_
  refine new1 (m := 5) rfl fun h5 hr5 he5 hs5 => ?_
  refine Mul_spec (m := 4294967296) (n := 5) ((hb3.ext he4).ext he5) ⟨_, ho4.r.ext he5, by intro z hz; simp at hz; omega, by simp [val], by simp⟩ (one_nv hr5 (by decide)) (by simp) (by simp) fun r h6 hb6 hk6 _ _ _ => ?_
  have hd : decide (max (Int.toNat 1) 1 < nl (4294967296 * 5)) = true := by
    have h1 : ¬ nl (4294967296 * 5) ≤ 1 := by rw [nl_le_iff]; decide
    have : max (Int.toNat 1) 1 = 1 := rfl
    rw [this]
    simp only [decide_eq_true_eq]
    omega
  rw [Bool.false_or, hd] at hb6
  have hab0 : h.size ≤ a.block := by have := he2.size; omega
  have he6 : Ext h h6 := ((he2.trans he3).trans (he4.trans he5)).fresh hab0 hk6
  have fresh : ∀ {h' h'' : Heap}, Ext h h' → Keep (some a.block) h' h'' → Ext h h'' := fun e k => e.fresh hab0 k
  clear hk6 hd hr5 he5 hs5 ho4 he4 hs4 hb3 he3 he2 he1
  have nvx : ∀ {h' : Heap}, Ext h h' → NV h' x (val 4294967296 xs) := fun e => ⟨xs, hx.ext e, hxl, rfl, by omega⟩
  have nvy : ∀ {h' : Heap}, Ext h h' → NV h' y (val 4294967296 ys) := fun e => ⟨ys, hy.ext e, hyl, rfl, by omega⟩
  refine Div_over hb6 (nvx he6) (nvy he6) (by omega) (by omega) fun h8 hb8 hk8 => ?_
  have he8 := fresh he6 hk8
  refine Parse_over hb8 fun h9 hb9 hk9 => ?_
  have he9 := fresh he8 hk9
  refine seq.dup (Over_spec hb9 ⟨fun _ => ?_, nofun⟩)
  refine Add_spec hb9 (nvx he9) (nvy he9) (by omega) (by omega) fun r1 h10 hb10 hk10 _ ht10 _ => ?_
  simp only [Bool.true_or] at hb10
  have hr1 := ht10 (by simp)
  subst hr1
  have he10 := fresh he9 hk10
  refine ⟨fun _ => ?_, fun hc => absurd hc (by decide)⟩
  refine Sub_over hb10 (nvx he10) (nvy he10) (by omega) fun h11 hb11 hk11 => ⟨fun _ => ?_, fun hc => absurd hc (by decide)⟩
  have he11 := fresh he10 hk11
  refine Mul_spec hb11 (nvx he11) (nvy he11) (by omega) (by omega) fun r2 h12 hb12 hk12 _ ht12 _ => ?_
  simp only [Bool.true_or] at hb12
  have hr2 := ht12 (by simp)
  subst hr2
  have he12 := fresh he11 hk12
  refine ⟨fun _ => ?_, fun hc => absurd hc (by decide)⟩
  refine Gcd_spec (ht.ext he12) hb12 (nvx he12) (nvy he12) (by omega) (by omega) (in_blk hx hab0) (in_blk hy hab0) fun r3 h13 hb13 hk13 _ ht13 _ => ?_
  simp only [Bool.true_or] at hb13
  have hr3 := ht13 (by simp)
  subst hr3
  have he13 := fresh he12 hk13
  refine ⟨fun _ => ?_, fun hc => absurd hc (by decide)⟩
  refine ⟨fun _ => ?_, fun hc => absurd hc (by decide)⟩
  refine ⟨fun _ => ?_, fun hc => absurd hc (by decide)⟩
  refine ⟨fun _ => ?_, fun hc => absurd hc (by decide)⟩
  refine ⟨fun _ => ?_, fun hc => absurd hc (by decide)⟩
  exact Over_spec hb13 (K h13 he13)
end Go.Sh
