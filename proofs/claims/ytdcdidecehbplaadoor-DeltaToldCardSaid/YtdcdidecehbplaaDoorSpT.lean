/-
  Laws that the proof of this claim's statement leans on, each proved under the conditions that it states.
-/
import Derived.Test.YtdcdidecehbplaaDoorSpD
set_option linter.unusedVariables false
set_option linter.unusedSimpArgs false
namespace Go.Sh
open Go Go.Lift

theorem nl_lt {n : Nat} : n < 4294967296 ^ nl n := nl_le_iff.1 (Nat.le_refl _)
theorem nl_add (m n : Nat) : nl (m + n) ≤ max (nl m) (nl n) + 1 := by
  rw [nl_le_iff]
  have h1 : m < 4294967296 ^ max (nl m) (nl n) := Nat.lt_of_lt_of_le nl_lt (Nat.pow_le_pow_right (by decide) (Nat.le_max_left _ _))
  have h2 : n < 4294967296 ^ max (nl m) (nl n) := Nat.lt_of_lt_of_le nl_lt (Nat.pow_le_pow_right (by decide) (Nat.le_max_right _ _))
  rw [Nat.pow_succ]
  generalize 4294967296 ^ max (nl m) (nl n) = p at *
  omega
theorem nl_mul (m n : Nat) : nl (m * n) ≤ nl m + nl n := by
  rw [nl_le_iff, Nat.pow_add]
  have h1 : m < 4294967296 ^ nl m := nl_lt
  have h2 : n < 4294967296 ^ nl n := nl_lt
  exact Nat.mul_lt_mul'' h1 h2

section
variable {a : Addr} {lim : Nat} {x y : Sl} {m n : Nat} {h : Heap}
theorem nofit {lim k : Nat} (hk : k ≤ lim) : (false || decide (lim < k)) = false := by simp; omega
theorem fresh_ne {r : Sl} (hb : Bench h a lim false) (hs : ∀ b, r.blk = some b → h.size ≤ b) : r.blk ≠ some a.block := fun he => by
  have := hs _ he
  have := hb.lt
  omega
theorem Add_fit {Q : Sl → Heap → Prop} (hb : Bench h a lim false) (hx : NV h x m) (hy : NV h y n) (hxl : x.len ≤ 1048000) (hyl : y.len ≤ 1048000) (hf : nl (m + n) ≤ lim)
    (K : ∀ r h', Bench h' a lim false → Keep (some a.block) h h' → NN h' r (m + n) → r.blk ≠ some a.block → Q r h') : nat_Bench_Add (some a) x y h Q :=
  Add_spec hb hx hy hxl hyl fun r h' hb' hk hn _ hs => K r h' (by rwa [nofit hf] at hb') hk (hn (nofit hf)) (fresh_ne hb hs)
theorem Mul_fit {Q : Sl → Heap → Prop} (hb : Bench h a lim false) (hx : NV h x m) (hy : NV h y n) (hxl : x.len ≤ 400000) (hyl : y.len ≤ 400000) (hf : nl (m * n) ≤ lim)
    (K : ∀ r h', Bench h' a lim false → Keep (some a.block) h h' → NN h' r (m * n) → r.blk ≠ some a.block → Q r h') : nat_Bench_Mul (some a) x y h Q :=
  Mul_spec hb hx hy hxl hyl fun r h' hb' hk hn _ hs => K r h' (by rwa [nofit hf] at hb') hk (hn (nofit hf)) (fresh_ne hb hs)
theorem Sub_fit {Q : Sl → Heap → Prop} (hb : Bench h a lim false) (hx : NV h x m) (hy : NV h y n) (hxl : x.len ≤ 1048000) (hle : n ≤ m) (hf : nl (m - n) ≤ lim)
    (K : ∀ r h', Bench h' a lim false → Keep (some a.block) h h' → NN h' r (m - n) → r.blk ≠ some a.block → Q r h') : nat_Bench_Sub (some a) x y h Q :=
  Sub_spec hb hx hy hxl (fun hlt => by omega) fun _ r h' hb' hk hn _ hs => K r h' (by rwa [nofit hf] at hb') hk (hn (nofit hf)) (fresh_ne hb hs)
theorem Gcd_fit {Q : Sl → Heap → Prop} (ht : Tab h) (hb : Bench h a lim false) (hx : NV h x m) (hy : NV h y n) (hxl : x.len ≤ 1000) (hyl : y.len ≤ 1000)
    (hxb : x.blk = some a.block → m = 0) (hyb : y.blk = some a.block → n = 0) (hf : nl (Nat.gcd m n) ≤ lim)
    (K : ∀ r h', Bench h' a lim false → Keep (some a.block) h h' → NN h' r (Nat.gcd m n) → r.blk ≠ some a.block → Q r h') : nat_Bench_Gcd (some a) x y h Q :=
  Gcd_spec ht hb hx hy hxl hyl hxb hyb fun r h' hb' hk hn _ hs => K r h' (by rwa [nofit hf] at hb') hk (hn (nofit hf)) (fresh_ne hb hs)
theorem Div_fit {Q : (Sl × Sl) → Heap → Prop} (hb : Bench h a lim false) (hx : NV h x m) (hy : NV h y n) (hxl : x.len ≤ 30000) (hyl : y.len ≤ 30000) (hn0 : n ≠ 0) (hf : nl (m / n) ≤ lim) (hg : nl (m % n) ≤ lim)
    (K : ∀ q r h', Bench h' a lim false → Keep (some a.block) h h' → NN h' q (m / n) → NN h' r (m % n) → q.blk ≠ some a.block → r.blk ≠ some a.block → Q (q, r) h') : nat_Bench_Div (some a) x y h Q := by
  refine Div_spec hb hx hy hxl hyl (fun h0 => absurd h0 hn0) fun _ q r h' ov hov hb' hk hn _ hs => ?_
  have : ov = false := by
    rw [hov]
    have h1 := nofit hf
    rw [h1]
    exact nofit hg
  subst this
  exact K q r h' hb' hk (hn rfl).1 (hn rfl).2 (fresh_ne hb (fun b hbb => hs b (.inl hbb))) (fresh_ne hb (fun b hbb => hs b (.inr hbb)))
theorem Same_nn {Q : Bool → Heap → Prop} (hx : NN h x m) (hy : NN h y m) (K : Q true h) : ref01uSame x y h Q := by
  obtain ⟨xs, x1, x2, x3, x4, x5⟩ := hx
  obtain ⟨ys, y1, y2, y3, y4, y5⟩ := hy
  have : xs = ys := val_inj (b := 4294967296) (by decide) x2 y2 x3 y3 (by rw [x4, y4])
  subst this
  refine Same_spec x1 y1 x5 ?_
  rw [beq_self_eq_true]; exact K
end

theorem NatRules_holds {x y z : Sl} {xs ys zs : List Nat} {h : Heap} {Q : Bool → Heap → Prop} (ht : Tab h) (hx : RI .u32 h x xs) (hxl : Lim 4294967296 xs) (hy : RI .u32 h y ys) (hyl : Lim 4294967296 ys) (hz : RI .u32 h z zs) (hzl : Lim 4294967296 zs)
    (K : ∀ h', Ext h h' → Q true h') : law01uNatRules x y z h Q := by
  unfold law01uNatRules
  refine speaks_spec fun h1 he1 => ⟨nofun, fun _ => ?_⟩
  have lx := hx.len
  have ly := hy.len
  have lz := hz.len
  intro T
  have ho := Own.new (toV := Sl.toV) (ys := [x, y, z]) (cs := [Sl.toV x, Sl.toV y, Sl.toV z]) (h := h1) (T := T) rfl
  have he2 := he1.trans (Ext.push h1 (.cells [Sl.toV x, Sl.toV y, Sl.toV z].toArray T (0, 0)))
  generalize h1.push (.cells [Sl.toV x, Sl.toV y, Sl.toV z].toArray T (0, 0)) = h2 at *
  refine great_spec ho.r (by simp) ⟨fun _ => K h2 he2, fun hg => ?_⟩
  obtain ⟨hx12, hy12, hz12⟩ : x.len ≤ 12 ∧ y.len ≤ 12 ∧ z.len ≤ 12 := by
    simp at hg
    omega
  clear hg ho
  refine New_spec fun a h3 hb3 hab he3 => ?_
  have hab0 : h.size ≤ a.block := by have := he2.size; omega
  have fresh : ∀ {h' h'' : Heap}, Ext h h' → Keep (some a.block) h' h'' → Ext h h'' := fun e k => e.fresh hab0 k
  have hm100 : max (Int.toNat 100) 1 = 100 := rfl
  rw [hm100] at hb3
  have e3 := he2.trans he3
  clear he2 he3 he1
  have hvx : ∀ {k : Nat} {l : List Nat}, Lim 4294967296 l → l.length ≤ k → nl (val 4294967296 l) ≤ k := fun hl hk => by
    rw [nl_le_iff]
    exact Nat.lt_of_lt_of_le (val_lt hl) (Nat.pow_le_pow_right (by decide) hk)
  have nX := hvx (k := 12) hxl (by omega)
  have nY := hvx (k := 12) hyl (by omega)
  have nZ := hvx (k := 12) hzl (by omega)
  have nvx : ∀ {h' : Heap}, Ext h h' → NV h' x (val 4294967296 xs) := fun e => ⟨xs, hx.ext e, hxl, rfl, by omega⟩
  have nvy : ∀ {h' : Heap}, Ext h h' → NV h' y (val 4294967296 ys) := fun e => ⟨ys, hy.ext e, hyl, rfl, by omega⟩
  have nvz : ∀ {h' : Heap}, Ext h h' → NV h' z (val 4294967296 zs) := fun e => ⟨zs, hz.ext e, hzl, rfl, by omega⟩
  have bx := in_blk (b := 4294967296) hx hab0
  have byy := in_blk (b := 4294967296) hy hab0
  have hOf : ∀ {h' : Heap} {Q' : Sl → Heap → Prop}, Ext h h' → (∀ r h'', DN h'' r (val 4294967296 ys) → Ext h' h'' → Q' r h'') → ref01uOf y h' Q' := fun e K' => Of10uspec (hy.ext e) hyl (by omega) fun r h'' hr he _ => K' r h'' hr he
  generalize val 4294967296 xs = X at *
  generalize val 4294967296 ys = Y at *
  generalize val 4294967296 zs = Z at *
  have nXY := nl_add X Y
  have nYZ := nl_add Y Z
  have mXY := nl_mul X Y
  have mXZ := nl_mul X Z
  have nX0 : nl (X + 0) ≤ 12 := nX
  refine seq.cut (fun b h' => b = false ∧ Bench h' a 100 false ∧ Ext h h') ?_ ?_
  · refine Add_fit hb3 (nvx e3) (nvy e3) (by omega) (by omega) (by omega) fun r1 h4 hb4 k4 hr1 s1 => ?_
    have e4 := fresh e3 k4
    refine Add_fit hb4 (nvy e4) (nvx e4) (by omega) (by omega) (by rw [Nat.add_comm]; omega) fun r2 h5 hb5 k5 hr2 s2 => ?_
    have e5 := fresh e4 k5
    rw [Nat.add_comm] at hr2
    refine Same_nn (hr1.keep k5 s1) hr2 ⟨nofun, fun _ => ?_⟩
    refine Mul_fit hb5 (nvx e5) (nvy e5) (by omega) (by omega) (by omega) fun r3 h6 hb6 k6 hr3 s3 => ?_
    have e6 := fresh e5 k6
    refine Mul_fit hb6 (nvy e6) (nvx e6) (by omega) (by omega) (by rw [Nat.mul_comm]; omega) fun r4 h7 hb7 k7 hr4 s4 => ?_
    have e7 := fresh e6 k7
    rw [Nat.mul_comm] at hr4
    refine Same_nn (hr3.keep k7 s3) hr4 ⟨nofun, fun _ => ?_⟩
    refine Add_fit hb7 (nvy e7) (nvz e7) (by omega) (by omega) (by omega) fun r5 h8 hb8 k8 hr5 s5 => ?_
    have e8 := fresh e7 k8
    have l5 := hr5.nl
    have mX5 := nl_mul X (Y + Z)
    refine Mul_fit hb8 (nvx e8) hr5.nv (by omega) (by omega) (by omega) fun r6 h9 hb9 k9 hr6 s6 => ?_
    have e9 := fresh e8 k9
    refine Mul_fit hb9 (nvx e9) (nvy e9) (by omega) (by omega) (by omega) fun r7 h10 hb10 k10 hr7 s7 => ?_
    have e10 := fresh e9 k10
    refine Mul_fit hb10 (nvx e10) (nvz e10) (by omega) (by omega) (by omega) fun r8 h11 hb11 k11 hr8 s8 => ?_
    have e11 := fresh e10 k11
    have hr7' := hr7.keep k11 s7
    have l7 := hr7'.nl
    have l8 := hr8.nl
    have a78 := nl_add (X * Y) (X * Z)
    refine Add_fit hb11 hr7'.nv hr8.nv (by omega) (by omega) (by omega) fun r9 h12 hb12 k12 hr9 s9 => ?_
    have e12 := fresh e11 k12
    rw [← Nat.mul_add] at hr9
    refine Same_nn (((hr6.keep k10 s6).keep k11 s6).keep k12 s6) hr9 ⟨nofun, fun _ => ?_⟩
    refine Add_fit hb12 (nvx e12) (nvy e12) (by omega) (by omega) (by omega) fun r10 h13 hb13 k13 hr10 s10 => ?_
    have e13 := fresh e12 k13
    have l10 := hr10.nl
    have hsub : X + Y - Y = X := by omega
    refine Sub_fit hb13 hr10.nv (nvy e13) (by omega) (by omega) (by rw [hsub]; omega) fun r11 h14 hb14 k14 hr11 s11 => ?_
    have e14 := fresh e13 k14
    rw [hsub] at hr11
    refine Add_fit hb14 (nvx e14) NV.nil (by omega) (by simp [Sl.nil]) (by omega) fun r12 h15 hb15 k15 hr12 s12 => ?_
    have e15 := fresh e14 k15
    exact Same_nn (hr11.keep k15 s11) hr12 ⟨rfl, hb15, e15⟩
  · rintro b h4 ⟨rfl, hb4, e4⟩
    refine ⟨nofun, fun _ => ?_⟩
    refine hOf e4 fun dy h5 hdy he5 => ?_
    have hb5 := hb4.ext he5
    have e5 := e4.trans he5
    refine ⟨fun h0 => ?_, fun h0 => ?_⟩
    · simp only [beq_iff_eq] at h0
      have hY : Y = 0 := hdy.len_zero.1 (by omega)
      subst hY
      have hg0 : Nat.gcd X 0 = X := Nat.gcd_zero_right _
      refine Gcd_fit (ht.ext e5) hb5 (nvx e5) (nvy e5) (by omega) (by omega) bx byy (by rw [hg0]; omega) fun r1 h6 hb6 k6 hr1 s1 => ?_
      have e6 := fresh e5 k6
      rw [hg0] at hr1
      refine Add_fit hb6 (nvx e6) NV.nil (by omega) (by simp [Sl.nil]) (by omega) fun r2 h7 hb7 k7 hr2 s2 => ?_
      have e7 := fresh e6 k7
      exact Same_nn (hr1.keep k7 s1) hr2 (K h7 e7)
    · simp only [beq_eq_false_iff_ne, ne_eq] at h0
      have hY : Y ≠ 0 := fun h => h0 (by have := hdy.len_zero.2 h; omega)
      have hg0 : Nat.gcd X Y ≠ 0 := fun h => hY (Nat.eq_zero_of_gcd_eq_zero_right h)
      have hgY : Nat.gcd X Y ≤ Y := Nat.le_of_dvd (by omega) (Nat.gcd_dvd_right X Y)
      have ng : nl (Nat.gcd X Y) ≤ 12 := Nat.le_trans (nl_mono hgY) nY
      have nq : ∀ d, nl (X / d) ≤ 12 := fun d => Nat.le_trans (nl_mono (Nat.div_le_self X d)) nX
      have nq2 : ∀ d, nl (Y / d) ≤ 12 := fun d => Nat.le_trans (nl_mono (Nat.div_le_self Y d)) nY
      have nr : ∀ d, nl (X % d) ≤ 12 := fun d => Nat.le_trans (nl_mono (Nat.mod_le X d)) nX
      have nr2 : ∀ d, nl (Y % d) ≤ 12 := fun d => Nat.le_trans (nl_mono (Nat.mod_le Y d)) nY
      have q1 := nq Y
      have q2 := nr Y
      have q3 := nq (Nat.gcd X Y)
      have q4 := nr (Nat.gcd X Y)
      have q5 := nq2 (Nat.gcd X Y)
      have q6 := nr2 (Nat.gcd X Y)
      refine Div_fit hb5 (nvx e5) (nvy e5) (by omega) (by omega) hY (by omega) (by omega) fun q r h6 hb6 k6 hq hr sq sr => ?_
      have e6 := fresh e5 k6
      refine Gcd_fit (ht.ext e6) hb6 (nvx e6) (nvy e6) (by omega) (by omega) bx byy (by omega) fun g h7 hb7 k7 hg sg => ?_
      have e7 := fresh e6 k7
      have lg := hg.nl
      refine Div_fit hb7 (nvx e7) hg.nv (by omega) (by omega) hg0 (by omega) (by omega) fun t1 m1 h8 hb8 k8 ht1 hm1 st1 sm1 => ?_
      have e8 := fresh e7 k8
      have hg8 := hg.keep k8 sg
      refine Div_fit hb8 (nvy e8) hg8.nv (by omega) (by omega) hg0 (by omega) (by omega) fun t2 m2 h9 hb9 k9 ht2 hm2 st2 sm2 => ?_
      have e9 := fresh e8 k9
      have hq9 := ((hq.keep k7 sq).keep k8 sq).keep k9 sq
      have hr9 := ((hr.keep k7 sr).keep k8 sr).keep k9 sr
      have hm1' := hm1.keep k9 sm1
      have hz1 : X % Nat.gcd X Y = 0 := Nat.mod_eq_zero_of_dvd (Nat.gcd_dvd_left X Y)
      have hz2 : Y % Nat.gcd X Y = 0 := Nat.mod_eq_zero_of_dvd (Nat.gcd_dvd_right X Y)
      have hmod := Nat.mod_lt X (Nat.pos_of_ne_zero hY)
      refine seq.cut (fun b h' => b = true ∧ Ext h h') ?_ (by rintro b h' ⟨rfl, e⟩; exact K h' e)
      refine Cmp_spec hr9.nv (nvy e9) ?_
      have hc : cmpI (X % Y) Y = -1 := by unfold cmpI; rw [if_pos hmod]
      rw [hc]
      refine ⟨fun _ => ?_, fun hf => absurd hf (by decide)⟩
      dsimp only
      have lq := hq9.nl
      have mqy := nl_mul (X / Y) Y
      refine Mul_fit hb9 hq9.nv (nvy e9) (by omega) (by omega) (by omega) fun p h10 hb10 k10 hp sp => ?_
      have e10 := fresh e9 k10
      have hr10 := hr9.keep k10 sr
      have lp := hp.nl
      have lr := hr10.nl
      have hsum : X / Y * Y + X % Y = X := by rw [Nat.mul_comm]; exact Nat.div_add_mod X Y
      refine Add_fit hb10 hp.nv hr10.nv (by omega) (by omega) (by rw [hsum]; omega) fun u h11 hb11 k11 hu su => ?_
      have e11 := fresh e10 k11
      rw [hsum] at hu
      refine Add_fit hb11 (nvx e11) NV.nil (by omega) (by simp [Sl.nil]) (by omega) fun v h12 hb12 k12 hv sv => ?_
      have e12 := fresh e11 k12
      refine Same_nn (hu.keep k12 su) hv ⟨fun _ => ?_, nofun⟩
      have lm1 : m1.len = 0 := hm1'.len_zero.2 hz1
      have lm2 : m2.len = 0 := hm2.len_zero.2 hz2
      have c1 : ((m1.len : Int) == 0) = true := by rw [lm1]; rfl
      have c2 : ((m2.len : Int) == 0) = true := by rw [lm2]; rfl
      refine ⟨fun _ => ⟨fun _ => ?_, fun hf => ?_⟩, fun hf => ?_⟩
      · exact Over_spec hb12 ⟨rfl, e12⟩
      · exact absurd (c2.symm.trans hf) (by decide)
      · exact absurd (c1.symm.trans hf) (by decide)
end Go.Sh

namespace Go.Sh
open Go Go.Lift

noncomputable def numD (h : Heap) (s : Sl) : Nat := open Classical in if hx : ∃ k, DN h s k then Classical.choose hx else 0
theorem DN.uniq {h : Heap} {s : Sl} {m n : Nat} (hm : DN h s m) (hn : DN h s n) : m = n := by
  obtain ⟨xs, x1, _, _, x4⟩ := hm
  obtain ⟨ys, y1, _, _, y4⟩ := hn
  have h1 := x1.cells
  have h2 := y1.cells
  rw [h1] at h2
  simp only [Option.some.injEq] at h2
  have : xs = ys := by
    apply List.ext_getElem
    · have := congrArg List.length h2; simpa using this
    · intro i hi hj
      have := congrArg (fun l => l[i]?) h2
      simp [hi, hj] at this
      exact_mod_cast this
  rw [← x4, ← y4, this]
theorem numD_eq {h : Heap} {s : Sl} {n : Nat} (hn : DN h s n) : numD h s = n := by
  unfold numD
  have hx : ∃ k, DN h s k := ⟨n, hn⟩
  rw [dif_pos hx]
  exact (Classical.choose_spec hx).uniq hn

theorem cmp_ge {m n : Nat} : decide (cmpI m n ≥ 0) = decide (n ≤ m) := by
  unfold cmpI
  apply decide_eq_decide.2
  constructor
  · intro h
    split at h
    · simp at h
    · omega
  · intro h
    rw [if_neg (by omega)]
    split <;> decide

theorem Div10uspec {x y : Sl} {m n : Nat} {h : Heap} {Q : (Sl × Sl) → Heap → Prop} (hx : DN h x m) (hy : DN h y n) (hxl : x.len ≤ 100000) (hyl : y.len ≤ 100000)
    (K1 : n = 0 → ∀ q r h', DN h' q 0 → DN h' r 0 → Ext h h' → Q (q, r) h')
    (K : n ≠ 0 → ∀ q r h', DN h' q (m / n) → DN h' r (m % n) → Ext h h' → Q (q, r) h') : ref01uDiv x y h Q := by
  unfold ref01uDiv
  refine ⟨fun h0 => ?_, fun h0 => ?_⟩
  · simp only [beq_iff_eq] at h0
    have hn : n = 0 := hy.len_zero.1 (by omega)
    refine newN (kd := .i64) (ms := []) rfl fun h1 ho1 he1 _ => newN (kd := .i64) (ms := []) rfl fun h2 ho2 he2 _ => ?_
    exact K1 hn _ _ h2 ⟨[], (ho1.ext he2).r, Lim.nil, Nrm.nil, rfl⟩ ⟨[], ho2.r, Lim.nil, Nrm.nil, rfl⟩ (he1.trans he2)
  · simp only [beq_eq_false_iff_ne, ne_eq] at h0
    have hn0 : n ≠ 0 := fun h => h0 (by have := hy.len_zero.2 h; omega)
    have hdy := hy
    obtain ⟨E, hE⟩ : ∃ E : Nat, E = 100000 := ⟨_, rfl⟩
    have hyE : y.len ≤ E := by omega
    have hyb : n < 10 ^ E := by
      obtain ⟨ys, y1, y2, y3, y4⟩ := hy
      have h1 := val_lt y2
      have h2 : (10 : Nat) ^ ys.length ≤ 10 ^ E := Nat.pow_le_pow_right (by decide) (by rw [← y1.len]; exact hyE)
      rw [y4] at h1
      exact Nat.lt_of_lt_of_le h1 h2
    obtain ⟨xs, x1, x2, x3, x4⟩ := hx
    have lx := x1.len
    rintro t15 rfl
    refine mk_spec (m := xs.length) (by omega) (by omega) fun qv h1 hq1 he1 hql => ?_
    refine newN (kd := .i64) (ms := []) rfl fun h2 ho2 he2 _ => ?_
    rintro r0 rfl i rfl
    rw [w64 (n := (x.len : Int) - 1) (by omega) (by omega)]
    have hqb : ∀ b, qv.blk = some b → b < h1.size := fun b hb => (hq1.lt hb).2
    refine loop.inv (fun s h' => ∃ (j r : Nat) (qs : List Nat), s.2 = (j : Int) - 1 ∧ j ≤ xs.length ∧ DN h' s.1 r ∧ r < n ∧ (∀ b, s.1.blk = some b → h1.size ≤ b) ∧ OwnI .i64 h.size h' qv qs ∧ Lim 10 qs ∧ qs.length = xs.length ∧
        val 10 (qs.take j) = 0 ∧ val 10 (xs.drop j) = val 10 (qs.drop j) * n + r ∧ Ext h h' ∧ h1.size ≤ h'.size) (fun s _ => (s.2 + 1).toNat)
      ⟨xs.length, 0, List.replicate xs.length 0, by dsimp only; omega, by omega, ⟨[], ho2.r, Lim.nil, Nrm.nil, rfl⟩, Nat.pos_of_ne_zero hn0, (fun b hb => (ho2.lt hb).1), hq1.ext he2, (fun z hz => by rw [List.eq_of_mem_replicate hz]; decide), by simp, by rw [List.take_of_length_le (by simp), val_replicate_zero], by rw [List.drop_length, List.drop_of_length_le (by simp)]; simp [val], he1.trans he2, he2.size⟩ ?_
    rintro ⟨rs, i'⟩ h3 ⟨j, r, qs, hi, hj, hr, hrn, hrb, hoq, hlq, hqlen, hq0, hqv, hext, hsz⟩
    simp only at hi hr hrb
    subst hi
    dsimp only
    refine ⟨fun hge => ?_, fun hlt => ?_⟩
    · simp only [ge_iff_le, decide_eq_true_eq] at hge
      have hj1 : j - 1 < xs.length := by omega
      refine RI.ld (x1.ext hext) (j := j - 1) (by omega) hj1 ?_
      have hxj := x2.get hj1
      have hdx := val_drop (b := 10) xs (j - 1) hj1
      rw [show j - 1 + 1 = j from by omega, hqv] at hdx
      generalize xs[j - 1] = xj at *
      obtain ⟨rl, r1, r2, r3, r4⟩ := hr
      have hrl : rl.length ≤ E := len_le_of_val (b := 10) (by decide) r3 (by rw [r4]; exact Nat.lt_trans hrn hyb)
      refine newN (kd := .i64) (ms := [xj]) rfl fun h4 ho4 he4 hs4 => ?_
      refine ho4.append (by omega) (r1.ext he4) (one_int _) (by simp; omega) fun s5 h5 ho5 hk5 _ => ?_
      have he5 : Ext h3 h5 := Keep.own he4 ho4 (Nat.le_refl _) hk5
      have hrv : val 10 ([xj] ++ rl) = xj + 10 * r := by rw [← r4]; rfl
      have hrlim : Lim 10 ([xj] ++ rl) := Lim.append (by intro z hz; simp at hz; omega) r2
      refine CutD ho5.r hrlim (by simp; omega) fun s6 hs6 hb6 => ?_
      rw [hrv] at hs6
      have hs6b : ∀ b, s6.blk = some b → h1.size ≤ b := fun b hb => by
        rw [hb6] at hb
        have := (ho5.lt hb).1
        omega
      -- q's place is nought as yet
      have hj1q : j - 1 < qs.length := by omega
      have htq := val_take_succ (b := 10) qs (j - 1) hj1q
      rw [show j - 1 + 1 = j from by omega, hq0] at htq
      have hq0' : val 10 (qs.take (j - 1)) = 0 := by omega
      have hdq : ∀ t, val 10 ((qs.set (j - 1) t).drop (j - 1)) = t + 10 * val 10 (qs.drop j) := fun t => by
        have h1 : j - 1 < (qs.set (j - 1) t).length := by simpa using hj1q
        rw [val_drop _ _ h1, List.getElem_set_self, show j - 1 + 1 = j from by omega, List.drop_set_of_lt (by omega)]
      have hqj : qs[j - 1] = 0 := by
        have : 10 ^ (j - 1) * qs[j - 1] = 0 := by omega
        rcases Nat.mul_eq_zero.1 this with h | h
        · exact absurd h (Nat.pos_iff_ne_zero.1 (Nat.pow_pos (by decide)))
        · exact h
      have hqset : qs.set (j - 1) 0 = qs := by
        rw [← hqj]; exact List.set_getElem_self _
      have hqk : OwnI .i64 h.size h5 qv qs := hoq.ext he5
      refine loop.inv (fun s h' => ∃ (t p : Nat), DN h' s p ∧ p + t * n = xj + 10 * r ∧ (∀ b, s.blk = some b → h1.size ≤ b) ∧ OwnI .i64 h.size h' qv (qs.set (j - 1) t) ∧ Ext h h' ∧ h1.size ≤ h'.size) (fun s h' => numD h' s)
        ⟨0, xj + 10 * r, hs6, by omega, hs6b, by rw [hqset]; exact hqk, hext.trans he5, Nat.le_trans hsz he5.size⟩ ?_
      rintro s h6 ⟨t, p, hp, hpt, hsb, hoq6, hext6, hsz6⟩
      have ht9 : t ≤ 9 := by
        rcases Nat.lt_or_ge t 10 with h | h
        · omega
        · have : 10 * n ≤ t * n := Nat.mul_le_mul_right n h
          omega
      have hpl : s.len ≤ E + 1 := hp.len_le (by
        have : p ≤ xj + 10 * r := by omega
        have h2 : (10 : Nat) ^ (E + 1) = 10 * 10 ^ E := by rw [Nat.pow_succ, Nat.mul_comm]
        rw [h2]
        have h3 : 10 * n ≤ 10 * 10 ^ E := Nat.mul_le_mul_left _ (Nat.le_of_lt hyb)
        exact Nat.lt_of_lt_of_le (show p < 10 * n by omega) h3)
      rw [numD_eq hp]
      refine Cmp10uspec hp (hdy.ext hext6) (by omega) ?_
      rw [cmp_ge]
      refine ⟨fun hge2 => ?_, fun hlt2 => ?_⟩
      · simp only [decide_eq_true_eq] at hge2
        refine Sub10uspec hp (hdy.ext hext6) (by omega) fun s7 h7 hs7 he7 hb7 => ?_
        have hoq7 := hoq6.ext he7
        have hjs : j - 1 < (qs.set (j - 1) t).length := by simpa using hj1q
        refine RI.ld hoq7.r (j := j - 1) (by omega) hjs ?_
        rw [List.getElem_set_self, w64 (n := (t : Int) + 1) (by omega) (by omega)]
        refine Own.st hoq7 (j := j - 1) (m := t + 1) (by omega) hjs (by omega) fun h8 ho8 hk8 hs8 => ?_
        rw [List.set_set] at ho8
        have hs7' : DN h8 s7 (p - n) := hs7.keepO hk8 (fun b hb => by
          have h1 := hb7 b hb
          intro he
          have := hqb b he
          omega)
        have hext8 : Ext h h8 := Keep.own (hext6.trans he7) hoq7 (Nat.le_refl _) hk8
        have hs7sz := he7.size
        refine ⟨⟨t + 1, p - n, hs7', ?_, fun b hb => ?_, ho8, hext8, by omega⟩, ?_⟩
        · rw [Nat.add_mul, Nat.one_mul]; omega
        · have := hb7 b hb; omega
        · rw [numD_eq hs7']; omega
      · simp only [decide_eq_false_iff_not] at hlt2
        rintro i1 rfl
        rw [w64 (by omega) (by omega)]
        refine ⟨⟨j - 1, p, qs.set (j - 1) t, by omega, by omega, hp, by omega, hsb, hoq6, hlq.set _ (by omega), by simpa using hqlen, ?_, ?_, hext6, hsz6⟩, by omega⟩
        · rw [List.take_set_of_le (Nat.le_refl _)]; exact hq0'
        · rw [hdx, hdq, Nat.add_mul, Nat.mul_add, Nat.mul_assoc 10]; omega
    · simp only [ge_iff_le, decide_eq_false_iff_not] at hlt
      have hj0 : j = 0 := by omega
      subst hj0
      rw [List.drop_zero, List.drop_zero, x4] at hqv
      have hdm : m / n = val 10 qs ∧ m % n = r := by
        rw [hqv, Nat.mul_comm]
        have hnp := Nat.pos_of_ne_zero hn0
        exact ⟨by rw [Nat.mul_add_div hnp, Nat.div_eq_of_lt hrn, Nat.add_zero], by rw [Nat.mul_add_mod, Nat.mod_eq_of_lt hrn]⟩
      refine CutD hoq.r hlq (by omega) fun q hq _ => K hn0 q rs h3 (by rw [hdm.1]; exact hq) (by rw [hdm.2]; exact hr) hext

theorem Gcd10uspec {E : Nat} {x y : Sl} {m n : Nat} {h : Heap} {Q : Sl → Heap → Prop} (hE : E ≤ 100000) (hx : DN h x m) (hy : DN h y n) (hm : m < 10 ^ E) (hn : n < 10 ^ E)
    (K : ∀ r h', DN h' r (Nat.gcd m n) → Ext h h' → Q r h') : ref01uGcd x y h Q := by
  unfold ref01uGcd
  refine loop.inv (fun s h' => ∃ a b : Nat, DN h' s.1 a ∧ DN h' s.2 b ∧ a < 10 ^ E ∧ b < 10 ^ E ∧ Nat.gcd a b = Nat.gcd m n ∧ Ext h h') (fun s h' => numD h' s.2) ⟨m, n, hx, hy, hm, hn, rfl, Keep.refl _ _⟩ ?_
  rintro ⟨s1, s2⟩ h1 ⟨a, b, ha, hb, hab, hbb, hg, hext⟩
  simp only at ha hb
  dsimp only
  rw [numD_eq hb]
  have la := ha.len_le hab
  have lb := hb.len_le hbb
  refine ⟨fun hgt => ?_, fun hle => ?_⟩
  · simp only [gt_iff_lt, decide_eq_true_eq] at hgt
    have hb0 : b ≠ 0 := fun h => by have := hb.len_zero.2 h; omega
    refine Div10uspec ha hb (by omega) (by omega) (fun h => absurd h hb0) fun _ q r h2 _ hr he2 => ?_
    dsimp only
    have hlt := Nat.mod_lt a (Nat.pos_of_ne_zero hb0)
    refine ⟨⟨b, a % b, hb.ext he2, hr, hbb, Nat.lt_trans hlt hbb, ?_, hext.trans he2⟩, by rw [numD_eq hr]; exact hlt⟩
    rw [← hg, Nat.gcd_comm a b, Nat.gcd_rec b a, Nat.gcd_comm]
  · simp only [gt_iff_lt, decide_eq_false_iff_not] at hle
    have hb0 : b = 0 := hb.len_zero.1 (by omega)
    subst hb0
    rw [Nat.gcd_zero_right] at hg
    exact K s1 h1 (by rw [← hg]; exact ha) hext

theorem LimbsD {x : Sl} {n : Nat} {h : Heap} {Q : Sl → Heap → Prop} (hx : DN h x n) (hl : x.len ≤ 100000)
    (K : ∀ r h', NN h' r n → Ext h h' → Q r h') : ref01uLimbs x h Q := by
  obtain ⟨xs, x1, x2, x3, x4⟩ := hx
  refine Limbs_spec x1 x2 (by rw [← x1.len]; exact hl) fun r h' hr he _ => K r h' (by rw [← x4]; exact hr) he

/-- Whether an answer is what it has to be. -/
theorem told_spec {a : Addr} {lim : Nat} {ov : Bool} {x w : Sl} {n : Nat} {h : Heap} {Q : Bool → Heap → Prop} (hb : Bench h a lim ov) (hov : ov = decide (lim < nl n)) (hf : ov = false → NN h x n) (ht : ov = true → x = Sl.nil) (hw : DN h w n) (hwl : w.len ≤ 100000)
    (K : ∀ h', Ext h h' → Q true h') : law01utold (some a) (lim : Int) x w h Q := by
  unfold law01utold
  refine LimbsD hw hwl fun l h1 hl he1 => ?_
  have ll := hl.nl
  refine ⟨fun hgt => ?_, fun hle => ?_⟩
  · simp only [gt_iff_lt, decide_eq_true_eq] at hgt
    have : ov = true := by rw [hov]; simp only [decide_eq_true_eq]; omega
    subst this
    have hx := ht rfl
    subst hx
    exact seq.dup (Over_spec (hb.ext he1) ⟨fun _ => K h1 he1, nofun⟩)
  · simp only [gt_iff_lt, decide_eq_false_iff_not] at hle
    have : ov = false := by rw [hov]; simp only [decide_eq_false_iff_not]; omega
    subst this
    have hx := (hf rfl).ext he1
    refine seq.dup (Over_spec (hb.ext he1) ⟨fun _ => ?_, nofun⟩)
    refine Same_nn hx hl ⟨fun _ => ?_, nofun⟩
    obtain ⟨xs, x1, x2, x3, x4, x5⟩ := hx
    refine Right_spec x1 x5 ?_
    have : (xs.getLast? != some 0) = true := by
      unfold Nrm at x3
      simpa using x3
    rw [this]
    exact K h1 he1
end Go.Sh

namespace Go.Sh
open Go Go.Lift

theorem pow_bound {n k : Nat} (h : nl n ≤ k) : n < 10 ^ (10 * k) := by
  have h1 : n < 4294967296 ^ k := nl_le_iff.1 h
  have h2 : (4294967296 : Nat) ^ k ≤ (10 ^ 10) ^ k := Nat.pow_le_pow_left (by decide) k
  rw [← Nat.pow_mul] at h2
  exact Nat.lt_of_lt_of_le h1 h2
theorem DN.len_nl {h : Heap} {s : Sl} {n k : Nat} (hn : DN h s n) (hk : nl n ≤ k) : s.len ≤ 10 * k := hn.len_le (pow_bound hk)

theorem told_div {a : Addr} {N : Nat} {ov : Bool} {x y dx dy q r s t : Sl} {X Y QV RV : Nat} {h : Heap} {Q : Bool → Heap → Prop} (hb : Bench h a N ov) (hov : ov = (decide (N < nl QV) || decide (N < nl RV)))
    (hf : ov = false → NN h q QV ∧ NN h r RV) (ht : ov = true → q = Sl.nil ∧ r = Sl.nil) (hs : DN h s QV) (hst : DN h t RV) (hq12 : nl QV ≤ 12) (hr12 : nl RV ≤ 12)
    (hx : NV h x X) (hy : NV h y Y) (hxl : x.len ≤ 12) (hdx : DN h dx X) (hdy : DN h dy Y) (hX : nl X ≤ 12) (K : ∀ h', Ext h h' → Q true h') :
         seq (fun (K0u1 : Bool → Heap → Prop) =>
          ref01uLimbs s h fun v_26 h0u28 =>
          iteB (decide (((v_26.len : Nat) : Int) > (N : Int))) (
           K0u1 true h0u28
          ) (
           ref01uLimbs t h0u28 fun v_27 h0u29 =>
           K0u1 (decide (((v_27.len : Nat) : Int) > (N : Int))) h0u29
          )
         ) (fun t0u1 h0u27 =>
          iteB t0u1 (
           seq (fun (K0u2 : Bool → Heap → Prop) =>
            nat_Bench_Over (some a) h0u27 fun v_28 h0u31 =>
            iteB v_28 (
             iteB (((q.len : Nat) : Int) == 0) (
              K0u2 (((r.len : Nat) : Int) == 0) h0u31
             ) (
              K0u2 false h0u31
             )
            ) (
             K0u2 false h0u31
            )
           ) (fun t0u2 h0u30 =>
            Q t0u2 h0u30
           )
          ) (
           seq (fun (K0u3 : Bool → Heap → Prop) =>
            law01utold (some a) (N : Int) q s h0u27 fun v_29 h0u33 =>
            iteB v_29 (
             law01utold (some a) (N : Int) r t h0u33 fun v_30 h0u34 =>
             iteB v_30 (
              nat_Cmp x y h0u34 fun v_31 h0u35 =>
              ref01uCmp dx dy h0u35 fun v_32 h0u36 =>
              iteB (v_31 == v_32) (
               nat_Text x h0u36 fun v_33 h0u37 =>
               ref01uText dx h0u37 fun v_34 h0u38 =>
               K0u3 (v_33.toList == v_34.toList) h0u38
              ) (
               K0u3 false h0u36
              )
             ) (
              K0u3 false h0u34
             )
            ) (
             K0u3 false h0u33
            )
           ) (fun t0u3 h0u32 =>
            Q t0u3 h0u32
           )
          )
         ) := by
  have ls := hs.len_nl hq12
  have lt := hst.len_nl hr12
  refine seq.cut (fun b h' => b = ov ∧ Ext h h') ?_ ?_
  · refine LimbsD hs (by omega) fun l1 h1 hl1 he1 => ?_
    have ll1 := hl1.nl
    refine ⟨fun hgt => ?_, fun hle => ?_⟩
    · simp only [gt_iff_lt, decide_eq_true_eq] at hgt
      refine ⟨?_, he1⟩
      have : decide (N < nl QV) = true := by simp only [decide_eq_true_eq]; omega
      rw [hov, this, Bool.true_or]
    · simp only [gt_iff_lt, decide_eq_false_iff_not] at hle
      refine LimbsD (hst.ext he1) (by omega) fun l2 h2 hl2 he2 => ?_
      have ll2 := hl2.nl
      refine ⟨?_, he1.trans he2⟩
      have : decide (N < nl QV) = false := by simp only [decide_eq_false_iff_not]; omega
      rw [hov, this, Bool.false_or]
      exact decide_eq_decide.2 (by omega)
  rintro b h1 ⟨rfl, he1⟩
  have hb1 := hb.ext he1
  refine ⟨fun hbt => ?_, fun hbf => ?_⟩
  · obtain ⟨rfl, rfl⟩ := ht hbt
    rw [hbt] at hb1
    exact seq.dup (Over_spec hb1 ⟨fun _ => ⟨fun _ => K h1 he1, fun hc => absurd hc (by decide)⟩, nofun⟩)
  · obtain ⟨hq, hr⟩ := hf hbf
    have hov' := hov
    rw [hbf] at hov' hb1
    have h1' : decide (N < nl QV) = false := by
      cases hx : decide (N < nl QV) with
      | false => rfl
      | true => rw [hx] at hov'; simp at hov'
    have h2' : decide (N < nl RV) = false := by rw [h1', Bool.false_or] at hov'; exact hov'.symm
    refine seq.cut (fun b h' => b = true ∧ Ext h h') ?_ (by rintro b h' ⟨rfl, e⟩; exact K h' e)
    refine told_spec hb1 h1'.symm (fun _ => hq.ext he1) nofun (hs.ext he1) (by omega) fun h2 he2 => ⟨fun _ => ?_, nofun⟩
    have e2 := he1.trans he2
    refine told_spec (hb1.ext he2) h2'.symm (fun _ => hr.ext e2) nofun (hst.ext e2) (by omega) fun h3 he3 => ⟨fun _ => ?_, nofun⟩
    have e3 := e2.trans he3
    have ldx := hdx.len_nl hX
    refine Cmp_spec (hx.ext e3) (hy.ext e3) (Cmp10uspec (hdx.ext e3) (hdy.ext e3) (by omega) ?_)
    refine ⟨fun _ => ?_, fun hf => absurd hf (by simp)⟩
    refine Text_spec (hx.ext e3) (by omega) fun h4 es hel hen hev he4 => ?_
    obtain ⟨zs, z1, z2, z3, z4⟩ := (hdx.ext e3).ext he4
    refine Text10uspec z1 z2 (by rw [← z1.len]; omega) fun h5 he5 => ?_
    have : es = zs := val_inj (b := 10) (by decide) hel z2 hen z3 (by rw [hev, z4])
    rw [this, bytes_beq]
    exact ⟨rfl, (e3.trans he4).trans he5⟩

theorem NatTold_holds {limbs : Int} {x y : Sl} {xs ys : List Nat} {h : Heap} {Q : Bool → Heap → Prop} (ht : Tab h) (hx : RI .u32 h x xs) (hxl : Lim 4294967296 xs) (hy : RI .u32 h y ys) (hyl : Lim 4294967296 ys)
    (K : ∀ h', Ext h h' → Q true h') : law01uNatTold limbs x y h Q := by
  unfold law01uNatTold
  refine speaks_spec fun h1 he1 => ⟨nofun, fun _ => ?_⟩
  have lx := hx.len
  have ly := hy.len
  refine great2 (s := ByteArray.empty) (k := 0) he1 fun b h2 hb2 he2 => ⟨fun _ => K h2 he2, fun hbf => ?_⟩
  obtain ⟨hx12, hy12⟩ : x.len ≤ 12 ∧ y.len ≤ 12 := by
    rcases hb2 with hb | hb
    · rw [hbf] at hb; cases hb
    · exact hb
  clear hb2 hbf
  have hvx : ∀ {k : Nat} {l : List Nat}, Lim 4294967296 l → l.length ≤ k → nl (val 4294967296 l) ≤ k := fun hl hk => by
    rw [nl_le_iff]
    exact Nat.lt_of_lt_of_le (val_lt hl) (Nat.pow_le_pow_right (by decide) hk)
  have nX := hvx (k := 12) hxl (by omega)
  have nY := hvx (k := 12) hyl (by omega)
  have nvx : ∀ {h' : Heap}, Ext h h' → NV h' x (val 4294967296 xs) := fun e => ⟨xs, hx.ext e, hxl, rfl, by omega⟩
  have nvy : ∀ {h' : Heap}, Ext h h' → NV h' y (val 4294967296 ys) := fun e => ⟨ys, hy.ext e, hyl, rfl, by omega⟩
  have bx : ∀ {a : Addr}, h.size ≤ a.block → x.blk = some a.block → val 4294967296 xs = 0 := fun e => in_blk hx e
  have byy : ∀ {a : Addr}, h.size ≤ a.block → y.blk = some a.block → val 4294967296 ys = 0 := fun e => in_blk hy e
  refine Of10uspec (hx.ext he2) hxl (by omega) fun dx h3 hdx he3 _ => ?_
  refine Of10uspec ((hy.ext he2).ext he3) hyl (by omega) fun dy h4 hdy he4 _ => ?_
  have hdx4 := hdx.ext he4
  have e4 : Ext h h4 := (he2.trans he3).trans he4
  generalize val 4294967296 xs = X at *
  generalize val 4294967296 ys = Y at *
  rintro n rfl
  have hlimb : (if 1 > limbs then 1 else limbs) = ((max limbs.toNat 1 : Nat) : Int) := by split <;> omega
  rw [hlimb]
  generalize hN : max limbs.toNat 1 = N
  have ldx := hdx4.len_nl nX
  have ldy := hdy.len_nl nY
  have nAdd := nl_add X Y
  have nMul := nl_mul X Y
  have nSub : nl (X - Y) ≤ 12 := Nat.le_trans (nl_mono (Nat.sub_le X Y)) nX
  have fresh : ∀ {h' h'' : Heap} {a : Addr}, h4.size ≤ a.block → Ext h4 h' → Keep (some a.block) h' h'' → Ext h4 h'' := fun ha e k => e.fresh ha k
  have up : ∀ {h' : Heap}, Ext h4 h' → Ext h h' := fun e => e4.trans e
  refine New_spec fun a1 h5 hb5 ha5 he5 => ?_
  rw [hN] at hb5
  have hsz4 := e4.size
  refine seq.cut (fun b h' => b = false ∧ Ext h4 h') ?_ ?_
  · refine ⟨a1, rfl, _, hb5.limb, ⟨fun hne => ?_, fun _ => ?_⟩⟩
    · simp at hne
    refine Over_spec hb5 ⟨nofun, fun _ => ?_⟩
    refine Add_spec hb5 (nvx (up he5)) (nvy (up he5)) (by omega) (by omega) fun r h6 hb6 hk6 hf6 ht6 _ => ?_
    have e6 := fresh (by omega) he5 hk6
    refine Add10uspec (hdx4.ext e6) (hdy.ext e6) (by omega) (by omega) fun w h7 hw he7 _ => ?_
    have lw := hw.len_nl nAdd
    refine told_spec (hb6.ext he7) (by rw [Bool.false_or]) (fun hx => (hf6 hx).ext he7) ht6 hw (by omega) fun h8 he8 => ⟨rfl, (e6.trans he7).trans he8⟩
  rintro b h6 ⟨rfl, e6⟩
  refine ⟨nofun, fun _ => ?_⟩
  -- the difference
  refine New_spec fun a2 h7 hb7 ha7 he7 => ?_
  rw [hN] at hb7
  have e7 := e6.trans he7
  have hsz6 := e6.size
  have subTold : ∀ r h8 ov, ov = decide (N < nl (X - Y)) → Bench h8 a2 N ov → Ext h4 h8 → (ov = false → NN h8 r (X - Y)) → (ov = true → r = Sl.nil) → ∀ {Q' : Bool → Heap → Prop}, (∀ h', Ext h4 h' → Q' true h') →
      ref01uSub dx dy h8 fun v_13 h0u14 => law01utold (some a2) (N : Int) r v_13 h0u14 Q' := by
    intro r h8 ov hov hb8 e8 hf8 ht8 Q' KQ
    refine Sub10uspec (hdx4.ext e8) (hdy.ext e8) (by omega) fun w h9 hw he9 _ => ?_
    have lw := hw.len_nl nSub
    exact told_spec (hb8.ext he9) hov (fun hx => (hf8 hx).ext he9) ht8 hw (by omega) fun h10 he10 => KQ h10 ((e8.trans he9).trans he10)
  have goSub : ∀ {Q' : Bool → Heap → Prop}, (∀ h', Ext h4 h' → Q' true h') → nat_Bench_Sub (some a2) x y h7 fun v_12 h0u13 => ref01uSub dx dy h0u13 fun v_13 h0u14 => law01utold (some a2) (N : Int) v_12 v_13 h0u14 Q' := by
    intro Q' KQ
    refine Sub_spec hb7 (nvx (up e7)) (nvy (up e7)) (by omega) (fun hlt => ?_) (fun hle r h8 hb8 hk8 hf8 ht8 _ => ?_)
    · have h0 : X - Y = 0 := by omega
      refine subTold Sl.nil h7 false ?_ hb7 e7 (fun _ => by rw [h0]; exact NN.nil) nofun KQ
      rw [h0, nl_zero]; simp
    · simp only [Bool.false_or] at hb8 hf8 ht8
      exact subTold r h8 _ rfl hb8 (fresh (by omega) e7 hk8) hf8 ht8 KQ
  refine goSub fun h8 e8 => ⟨nofun, fun _ => ?_⟩
  clear goSub subTold
  -- the product
  refine New_spec fun a3 h9 hb9 ha9 he9 => ?_
  rw [hN] at hb9
  have e9 := e8.trans he9
  have hsz8 := e8.size
  refine Mul_spec hb9 (nvx (up e9)) (nvy (up e9)) (by omega) (by omega) fun r h10 hb10 hk10 hf10 ht10 _ => ?_
  have e10 := fresh (by omega) e9 hk10
  refine Mul10uspec (hdx4.ext e10) (hdy.ext e10) (by omega) (by omega) fun w h11 hw he11 _ => ?_
  have lw := hw.len_nl nMul
  refine told_spec (hb10.ext he11) (by rw [Bool.false_or]) (fun hx => (hf10 hx).ext he11) ht10 hw (by omega) fun h12 he12 => ⟨nofun, fun _ => ?_⟩
  have e12 := (e10.trans he11).trans he12
  clear lw hw hf10 ht10
  -- the greatest that divides both
  refine New_spec fun a4 h13 hb13 ha13 he13 => ?_
  rw [hN] at hb13
  have e13 := e12.trans he13
  have hsz12 := e12.size
  have nG : nl (Nat.gcd X Y) ≤ 12 := by
    by_cases hX0 : X = 0
    · subst hX0; rw [Nat.gcd_zero_left]; exact nY
    · exact Nat.le_trans (nl_mono (Nat.le_of_dvd (Nat.pos_of_ne_zero hX0) (Nat.gcd_dvd_left X Y))) nX
  refine Gcd_spec (ht.ext (up e13)) hb13 (nvx (up e13)) (nvy (up e13)) (by omega) (by omega) (bx (by omega)) (byy (by omega)) fun r4 h14 hb14 hk14 hf14 ht14 _ => ?_
  have e14 := fresh (by omega) e13 hk14
  refine Gcd10uspec (E := 10 * 12) (by decide) (hdx4.ext e14) (hdy.ext e14) (pow_bound nX) (pow_bound nY) fun w4 h15 hw4 he15 => ?_
  have lw4 := hw4.len_nl nG
  refine told_spec (hb14.ext he15) (by rw [Bool.false_or]) (fun hx => (hf14 hx).ext he15) ht14 hw4 (by omega) fun h16 he16 => ⟨nofun, fun _ => ?_⟩
  have e16 := (e14.trans he15).trans he16
  clear lw4 hw4 hf14 ht14
  -- how often, and what is left
  refine New_spec fun a5 h17 hb17 ha17 he17 => ?_
  rw [hN] at hb17
  have e17 := e16.trans he17
  have hsz16 := e16.size
  have nQ : nl (X / Y) ≤ 12 := Nat.le_trans (nl_mono (Nat.div_le_self X Y)) nX
  have nR : nl (X % Y) ≤ 12 := Nat.le_trans (nl_mono (Nat.mod_le X Y)) nX
  refine Div_spec hb17 (nvx (up e17)) (nvy (up e17)) (by omega) (by omega) (fun h0 => ?_) (fun h0 q r h18 ov hov hb18 hk18 hf18 ht18 _ => ?_)
  · refine Div10uspec (hdx4.ext e17) (hdy.ext e17) (by omega) (by omega) (fun _ s t h19 hs hst he19 => ?_) (fun h1 => absurd h0 h1)
    have e19 := e17.trans he19
    dsimp only
    exact told_div (QV := 0) (RV := 0) (hb17.ext he19) (by rw [nl_zero]; simp) (fun _ => ⟨NN.nil, NN.nil⟩) nofun hs hst (by rw [nl_zero]; omega) (by rw [nl_zero]; omega) (nvx (up e19)) (nvy (up e19)) hx12 (hdx4.ext e19) (hdy.ext e19) nX fun h20 he20 => K h20 (up (e19.trans he20))
  · have e18 := fresh (by omega) e17 hk18
    refine Div10uspec (hdx4.ext e18) (hdy.ext e18) (by omega) (by omega) (fun h1 => absurd h1 h0) (fun _ s t h19 hs hst he19 => ?_)
    have e19 := e18.trans he19
    dsimp only
    rw [Bool.false_or] at hov
    exact told_div (hb18.ext he19) hov (fun hx => ⟨(hf18 hx).1.ext he19, (hf18 hx).2.ext he19⟩) ht18 hs hst nQ nR (nvx (up e19)) (nvy (up e19)) hx12 (hdx4.ext e19) (hdy.ext e19) nX fun h20 he20 => K h20 (up (e19.trans he20))
end Go.Sh
