/- Laws that the proof of this claim's statement leans on, each proved under the conditions that it states. -/
import Derived.Test.YtdcdidecehbplaaDoorSpecD1
import Derived.Test.YtdcdidecehbplaaDoorSpecOver
set_option linter.unusedVariables false
set_option linter.unusedSimpArgs false
namespace Go.Sh
open Go Go.Lift

theorem nl_lt {n : Nat} : n < 4294967296 ^ nl n := nl_le_iff.1 (Nat.le_refl _)
theorem nl_add (m n : Nat) : nl (m + n) ≤ max (nl m) (nl n) + 1 := by
  rw [nl_le_iff]
  have h1 : m < 4294967296 ^ max (nl m) (nl n) := Nat.lt_of_lt_of_le nl_lt (Nat.pow_le_pow_right (by decide) (Nat.le_max_left _ _))
  have h2 : n < 4294967296 ^ max (nl m) (nl n) := Nat.lt_of_lt_of_le nl_lt (Nat.pow_le_pow_right (by decide) (Nat.le_max_right _ _))
  rw [Nat.pow_succ]
  generalize 4294967296 ^ max (nl m) (nl n) = p at *
  omega
theorem nl_mul (m n : Nat) : nl (m * n) ≤ nl m + nl n := by
  rw [nl_le_iff, Nat.pow_add]
  have h1 : m < 4294967296 ^ nl m := nl_lt
  have h2 : n < 4294967296 ^ nl n := nl_lt
  exact Nat.mul_lt_mul'' h1 h2

section
variable {a : Addr} {lim : Nat} {x y : Sl} {m n : Nat} {h : Heap}
theorem nofit {lim k : Nat} (hk : k ≤ lim) : (false || decide (lim < k)) = false := by simp; omega
theorem fresh_ne {r : Sl} (hb : Bench h a lim false) (hs : ∀ b, r.blk = some b → h.size ≤ b) : r.blk ≠ some a.block := fun he => by
  have := hs _ he
  have := hb.lt
  omega
theorem Add_fit {Q : Sl → Heap → Prop} (hb : Bench h a lim false) (hx : NV h x m) (hy : NV h y n) (hxl : x.len ≤ 1048000) (hyl : y.len ≤ 1048000) (hf : nl (m + n) ≤ lim)
    (K : ∀ r h', Bench h' a lim false → Keep (some a.block) h h' → NN h' r (m + n) → r.blk ≠ some a.block → Q r h') : nat_Bench_Add (some a) x y h Q :=
  Add_spec hb hx hy hxl hyl fun r h' hb' hk hn _ hs => K r h' (by rwa [nofit hf] at hb') hk (hn (nofit hf)) (fresh_ne hb hs)
theorem Mul_fit {Q : Sl → Heap → Prop} (hb : Bench h a lim false) (hx : NV h x m) (hy : NV h y n) (hxl : x.len ≤ 400000) (hyl : y.len ≤ 400000) (hf : nl (m * n) ≤ lim)
    (K : ∀ r h', Bench h' a lim false → Keep (some a.block) h h' → NN h' r (m * n) → r.blk ≠ some a.block → Q r h') : nat_Bench_Mul (some a) x y h Q :=
  Mul_spec hb hx hy hxl hyl fun r h' hb' hk hn _ hs => K r h' (by rwa [nofit hf] at hb') hk (hn (nofit hf)) (fresh_ne hb hs)
theorem Sub_fit {Q : Sl → Heap → Prop} (hb : Bench h a lim false) (hx : NV h x m) (hy : NV h y n) (hxl : x.len ≤ 1048000) (hle : n ≤ m) (hf : nl (m - n) ≤ lim)
    (K : ∀ r h', Bench h' a lim false → Keep (some a.block) h h' → NN h' r (m - n) → r.blk ≠ some a.block → Q r h') : nat_Bench_Sub (some a) x y h Q :=
  Sub_spec hb hx hy hxl (fun hlt => by omega) fun _ r h' hb' hk hn _ hs => K r h' (by rwa [nofit hf] at hb') hk (hn (nofit hf)) (fresh_ne hb hs)
theorem Gcd_fit {Q : Sl → Heap → Prop} (ht : Tab h) (hb : Bench h a lim false) (hx : NV h x m) (hy : NV h y n) (hxl : x.len ≤ 1000) (hyl : y.len ≤ 1000)
    (hxb : x.blk = some a.block → m = 0) (hyb : y.blk = some a.block → n = 0) (hf : nl (Nat.gcd m n) ≤ lim)
    (K : ∀ r h', Bench h' a lim false → Keep (some a.block) h h' → NN h' r (Nat.gcd m n) → r.blk ≠ some a.block → Q r h') : nat_Bench_Gcd (some a) x y h Q :=
  Gcd_spec ht hb hx hy hxl hyl hxb hyb fun r h' hb' hk hn _ hs => K r h' (by rwa [nofit hf] at hb') hk (hn (nofit hf)) (fresh_ne hb hs)
theorem Div_fit {Q : (Sl × Sl) → Heap → Prop} (hb : Bench h a lim false) (hx : NV h x m) (hy : NV h y n) (hxl : x.len ≤ 30000) (hyl : y.len ≤ 30000) (hn0 : n ≠ 0) (hf : nl (m / n) ≤ lim) (hg : nl (m % n) ≤ lim)
    (K : ∀ q r h', Bench h' a lim false → Keep (some a.block) h h' → NN h' q (m / n) → NN h' r (m % n) → q.blk ≠ some a.block → r.blk ≠ some a.block → Q (q, r) h') : nat_Bench_Div (some a) x y h Q := by
  refine Div_spec hb hx hy hxl hyl (fun h0 => absurd h0 hn0) fun _ q r h' ov hov hb' hk hn _ hs => ?_
  have : ov = false := by
    rw [hov]
    have h1 := nofit hf
    rw [h1]
    exact nofit hg
  subst this
  exact K q r h' hb' hk (hn rfl).1 (hn rfl).2 (fresh_ne hb (fun b hbb => hs b (.inl hbb))) (fresh_ne hb (fun b hbb => hs b (.inr hbb)))
theorem Same_nn {Q : Bool → Heap → Prop} (hx : NN h x m) (hy : NN h y m) (K : Q true h) : ref01uSame x y h Q := by
  obtain ⟨xs, x1, x2, x3, x4, x5⟩ := hx
  obtain ⟨ys, y1, y2, y3, y4, y5⟩ := hy
  have : xs = ys := val_inj (b := 4294967296) (by decide) x2 y2 x3 y3 (by rw [x4, y4])
  subst this
  refine Same_spec x1 y1 x5 ?_
  rw [beq_self_eq_true]; exact K
end

theorem NatRules_holds {x y z : Sl} {xs ys zs : List Nat} {h : Heap} {Q : Bool → Heap → Prop} (ht : Tab h) (hx : RI .u32 h x xs) (hxl : Lim 4294967296 xs) (hy : RI .u32 h y ys) (hyl : Lim 4294967296 ys) (hz : RI .u32 h z zs) (hzl : Lim 4294967296 zs)
    (K : ∀ h', Ext h h' → Q true h') : law01uNatRules x y z h Q := by
  unfold law01uNatRules
  refine speaks_spec fun h1 he1 => ⟨nofun, fun _ => ?_⟩
  have lx := hx.len
  have ly := hy.len
  have lz := hz.len
  intro T
  have ho := Own.new (toV := Sl.toV) (ys := [x, y, z]) (cs := [Sl.toV x, Sl.toV y, Sl.toV z]) (h := h1) (T := T) rfl
  have he2 := he1.trans (Ext.push h1 (.cells [Sl.toV x, Sl.toV y, Sl.toV z].toArray T (0, 0)))
  generalize h1.push (.cells [Sl.toV x, Sl.toV y, Sl.toV z].toArray T (0, 0)) = h2 at *
  refine great_spec ho.r (by simp) ⟨fun _ => K h2 he2, fun hg => ?_⟩
  obtain ⟨hx12, hy12, hz12⟩ : x.len ≤ 12 ∧ y.len ≤ 12 ∧ z.len ≤ 12 := by
    simp at hg
    omega
  clear hg ho
  refine New_spec fun a h3 hb3 hab he3 => ?_
  have hab0 : h.size ≤ a.block := by have := he2.size; omega
  have fresh : ∀ {h' h'' : Heap}, Ext h h' → Keep (some a.block) h' h'' → Ext h h'' := fun e k => e.fresh hab0 k
  have hm100 : max (Int.toNat 100) 1 = 100 := rfl
  rw [hm100] at hb3
  have e3 := he2.trans he3
  clear he2 he3 he1
  have hvx : ∀ {k : Nat} {l : List Nat}, Lim 4294967296 l → l.length ≤ k → nl (val 4294967296 l) ≤ k := fun hl hk => by
    rw [nl_le_iff]
    exact Nat.lt_of_lt_of_le (val_lt hl) (Nat.pow_le_pow_right (by decide) hk)
  have nX := hvx (k := 12) hxl (by omega)
  have nY := hvx (k := 12) hyl (by omega)
  have nZ := hvx (k := 12) hzl (by omega)
  have nvx : ∀ {h' : Heap}, Ext h h' → NV h' x (val 4294967296 xs) := fun e => ⟨xs, hx.ext e, hxl, rfl, by omega⟩
  have nvy : ∀ {h' : Heap}, Ext h h' → NV h' y (val 4294967296 ys) := fun e => ⟨ys, hy.ext e, hyl, rfl, by omega⟩
  have nvz : ∀ {h' : Heap}, Ext h h' → NV h' z (val 4294967296 zs) := fun e => ⟨zs, hz.ext e, hzl, rfl, by omega⟩
  have bx := in_blk (b := 4294967296) hx hab0
  have byy := in_blk (b := 4294967296) hy hab0
  have hOf : ∀ {h' : Heap} {Q' : Sl → Heap → Prop}, Ext h h' → (∀ r h'', DN h'' r (val 4294967296 ys) → Ext h' h'' → Q' r h'') → ref01uOf y h' Q' := fun e K' => Of10uspec (hy.ext e) hyl (by omega) fun r h'' hr he _ => K' r h'' hr he
  generalize val 4294967296 xs = X at *
  generalize val 4294967296 ys = Y at *
  generalize val 4294967296 zs = Z at *
  have nXY := nl_add X Y
  have nYZ := nl_add Y Z
  have mXY := nl_mul X Y
  have mXZ := nl_mul X Z
  have nX0 : nl (X + 0) ≤ 12 := nX
  refine seq.cut (fun b h' => b = false ∧ Bench h' a 100 false ∧ Ext h h') ?_ ?_
  · refine Add_fit hb3 (nvx e3) (nvy e3) (by omega) (by omega) (by omega) fun r1 h4 hb4 k4 hr1 s1 => ?_
    have e4 := fresh e3 k4
    refine Add_fit hb4 (nvy e4) (nvx e4) (by omega) (by omega) (by rw [Nat.add_comm]; omega) fun r2 h5 hb5 k5 hr2 s2 => ?_
    have e5 := fresh e4 k5
    rw [Nat.add_comm] at hr2
    refine Same_nn (hr1.keep k5 s1) hr2 ⟨nofun, fun _ => ?_⟩
    refine Mul_fit hb5 (nvx e5) (nvy e5) (by omega) (by omega) (by omega) fun r3 h6 hb6 k6 hr3 s3 => ?_
    have e6 := fresh e5 k6
    refine Mul_fit hb6 (nvy e6) (nvx e6) (by omega) (by omega) (by rw [Nat.mul_comm]; omega) fun r4 h7 hb7 k7 hr4 s4 => ?_
    have e7 := fresh e6 k7
    rw [Nat.mul_comm] at hr4
    refine Same_nn (hr3.keep k7 s3) hr4 ⟨nofun, fun _ => ?_⟩
    refine Add_fit hb7 (nvy e7) (nvz e7) (by omega) (by omega) (by omega) fun r5 h8 hb8 k8 hr5 s5 => ?_
    have e8 := fresh e7 k8
    have l5 := hr5.nl
    have mX5 := nl_mul X (Y + Z)
    refine Mul_fit hb8 (nvx e8) hr5.nv (by omega) (by omega) (by omega) fun r6 h9 hb9 k9 hr6 s6 => ?_
    have e9 := fresh e8 k9
    refine Mul_fit hb9 (nvx e9) (nvy e9) (by omega) (by omega) (by omega) fun r7 h10 hb10 k10 hr7 s7 => ?_
    have e10 := fresh e9 k10
    refine Mul_fit hb10 (nvx e10) (nvz e10) (by omega) (by omega) (by omega) fun r8 h11 hb11 k11 hr8 s8 => ?_
    have e11 := fresh e10 k11
    have hr7' := hr7.keep k11 s7
    have l7 := hr7'.nl
    have l8 := hr8.nl
    have a78 := nl_add (X * Y) (X * Z)
    refine Add_fit hb11 hr7'.nv hr8.nv (by omega) (by omega) (by omega) fun r9 h12 hb12 k12 hr9 s9 => ?_
    have e12 := fresh e11 k12
    rw [← Nat.mul_add] at hr9
    refine Same_nn (((hr6.keep k10 s6).keep k11 s6).keep k12 s6) hr9 ⟨nofun, fun _ => ?_⟩
    refine Add_fit hb12 (nvx e12) (nvy e12) (by omega) (by omega) (by omega) fun r10 h13 hb13 k13 hr10 s10 => ?_
    have e13 := fresh e12 k13
    have l10 := hr10.nl
    have hsub : X + Y - Y = X := by omega
    refine Sub_fit hb13 hr10.nv (nvy e13) (by omega) (by omega) (by rw [hsub]; omega) fun r11 h14 hb14 k14 hr11 s11 => ?_
    have e14 := fresh e13 k14
    rw [hsub] at hr11
    refine Add_fit hb14 (nvx e14) NV.nil (by omega) (by simp [Sl.nil]) (by omega) fun r12 h15 hb15 k15 hr12 s12 => ?_
    have e15 := fresh e14 k15
    exact Same_nn (hr11.keep k15 s11) hr12 ⟨rfl, hb15, e15⟩
  · rintro b h4 ⟨rfl, hb4, e4⟩
    refine ⟨nofun, fun _ => ?_⟩
    refine hOf e4 fun dy h5 hdy he5 => ?_
    have hb5 := hb4.ext he5
    have e5 := e4.trans he5
    refine ⟨fun h0 => ?_, fun h0 => ?_⟩
    · simp only [beq_iff_eq] at h0
      have hY : Y = 0 := hdy.len_zero.1 (by omega)
      subst hY
      have hg0 : Nat.gcd X 0 = X := Nat.gcd_zero_right _
      refine Gcd_fit (ht.ext e5) hb5 (nvx e5) (nvy e5) (by omega) (by omega) bx byy (by rw [hg0]; omega) fun r1 h6 hb6 k6 hr1 s1 => ?_
      have e6 := fresh e5 k6
      rw [hg0] at hr1
      refine Add_fit hb6 (nvx e6) NV.nil (by omega) (by simp [Sl.nil]) (by omega) fun r2 h7 hb7 k7 hr2 s2 => ?_
      have e7 := fresh e6 k7
      exact Same_nn (hr1.keep k7 s1) hr2 (K h7 e7)
    · simp only [beq_eq_false_iff_ne, ne_eq] at h0
      have hY : Y ≠ 0 := fun h => h0 (by have := hdy.len_zero.2 h; omega)
      have hg0 : Nat.gcd X Y ≠ 0 := fun h => hY (Nat.eq_zero_of_gcd_eq_zero_right h)
      have hgY : Nat.gcd X Y ≤ Y := Nat.le_of_dvd (by omega) (Nat.gcd_dvd_right X Y)
      have ng : nl (Nat.gcd X Y) ≤ 12 := Nat.le_trans (nl_mono hgY) nY
      have nq : ∀ d, nl (X / d) ≤ 12 := fun d => Nat.le_trans (nl_mono (Nat.div_le_self X d)) nX
      have nq2 : ∀ d, nl (Y / d) ≤ 12 := fun d => Nat.le_trans (nl_mono (Nat.div_le_self Y d)) nY
      have nr : ∀ d, nl (X % d) ≤ 12 := fun d => Nat.le_trans (nl_mono (Nat.mod_le X d)) nX
      have nr2 : ∀ d, nl (Y % d) ≤ 12 := fun d => Nat.le_trans (nl_mono (Nat.mod_le Y d)) nY
      have q1 := nq Y
      have q2 := nr Y
      have q3 := nq (Nat.gcd X Y)
      have q4 := nr (Nat.gcd X Y)
      have q5 := nq2 (Nat.gcd X Y)
      have q6 := nr2 (Nat.gcd X Y)
      refine Div_fit hb5 (nvx e5) (nvy e5) (by omega) (by omega) hY (by omega) (by omega) fun q r h6 hb6 k6 hq hr sq sr => ?_
      have e6 := fresh e5 k6
      refine Gcd_fit (ht.ext e6) hb6 (nvx e6) (nvy e6) (by omega) (by omega) bx byy (by omega) fun g h7 hb7 k7 hg sg => ?_
      have e7 := fresh e6 k7
      have lg := hg.nl
      refine Div_fit hb7 (nvx e7) hg.nv (by omega) (by omega) hg0 (by omega) (by omega) fun t1 m1 h8 hb8 k8 ht1 hm1 st1 sm1 => ?_
      have e8 := fresh e7 k8
      have hg8 := hg.keep k8 sg
      refine Div_fit hb8 (nvy e8) hg8.nv (by omega) (by omega) hg0 (by omega) (by omega) fun t2 m2 h9 hb9 k9 ht2 hm2 st2 sm2 => ?_
      have e9 := fresh e8 k9
      have hq9 := ((hq.keep k7 sq).keep k8 sq).keep k9 sq
      have hr9 := ((hr.keep k7 sr).keep k8 sr).keep k9 sr
      have hm1' := hm1.keep k9 sm1
      have hz1 : X % Nat.gcd X Y = 0 := Nat.mod_eq_zero_of_dvd (Nat.gcd_dvd_left X Y)
      have hz2 : Y % Nat.gcd X Y = 0 := Nat.mod_eq_zero_of_dvd (Nat.gcd_dvd_right X Y)
      have hmod := Nat.mod_lt X (Nat.pos_of_ne_zero hY)
      refine seq.cut (fun b h' => b = true ∧ Ext h h') ?_ (by rintro b h' ⟨rfl, e⟩; exact K h' e)
      refine Cmp_spec hr9.nv (nvy e9) ?_
      have hc : cmpI (X % Y) Y = -1 := by unfold cmpI; rw [if_pos hmod]
      rw [hc]
      refine ⟨fun _ => ?_, fun hf => absurd hf (by decide)⟩
      dsimp only
      have lq := hq9.nl
      have mqy := nl_mul (X / Y) Y
      refine Mul_fit hb9 hq9.nv (nvy e9) (by omega) (by omega) (by omega) fun p h10 hb10 k10 hp sp => ?_
      have e10 := fresh e9 k10
      have hr10 := hr9.keep k10 sr
      have lp := hp.nl
      have lr := hr10.nl
      have hsum : X / Y * Y + X % Y = X := by rw [Nat.mul_comm]; exact Nat.div_add_mod X Y
      refine Add_fit hb10 hp.nv hr10.nv (by omega) (by omega) (by rw [hsum]; omega) fun u h11 hb11 k11 hu su => ?_
      have e11 := fresh e10 k11
      rw [hsum] at hu
      refine Add_fit hb11 (nvx e11) NV.nil (by omega) (by simp [Sl.nil]) (by omega) fun v h12 hb12 k12 hv sv => ?_
      have e12 := fresh e11 k12
      refine Same_nn (hu.keep k12 su) hv ⟨fun _ => ?_, nofun⟩
      have lm1 : m1.len = 0 := hm1'.len_zero.2 hz1
      have lm2 : m2.len = 0 := hm2.len_zero.2 hz2
      have c1 : ((m1.len : Int) == 0) = true := by rw [lm1]; rfl
      have c2 : ((m2.len : Int) == 0) = true := by rw [lm2]; rfl
      refine ⟨fun _ => ⟨fun _ => ?_, fun hf => ?_⟩, fun hf => ?_⟩
      · exact Over_spec hb12 ⟨rfl, e12⟩
      · exact absurd (c2.symm.trans hf) (by decide)
      · exact absurd (c1.symm.trans hf) (by decide)
end Go.Sh
