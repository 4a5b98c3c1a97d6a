/- Laws that the proof of this claim's statement leans on, each proved under the conditions that it states. -/
import Derived.Test.YtdcdidecehbplaaDoorSpecD4
set_option linter.unusedVariables false
set_option linter.unusedSimpArgs false
namespace Go.Sh
open Go Go.Lift

theorem pow_bound {n k : Nat} (h : nl n ≤ k) : n < 10 ^ (10 * k) := by
  have h1 : n < 4294967296 ^ k := nl_le_iff.1 h
  have h2 : (4294967296 : Nat) ^ k ≤ (10 ^ 10) ^ k := Nat.pow_le_pow_left (by decide) k
  rw [← Nat.pow_mul] at h2
  exact Nat.lt_of_lt_of_le h1 h2
theorem DN.len_nl {h : Heap} {s : Sl} {n k : Nat} (hn : DN h s n) (hk : nl n ≤ k) : s.len ≤ 10 * k := hn.len_le (pow_bound hk)

theorem told_div {a : Addr} {N : Nat} {ov : Bool} {x y dx dy q r s t : Sl} {X Y QV RV : Nat} {h : Heap} {Q : Bool → Heap → Prop} (hb : Bench h a N ov) (hov : ov = (decide (N < nl QV) || decide (N < nl RV)))
    (hf : ov = false → NN h q QV ∧ NN h r RV) (ht : ov = true → q = Sl.nil ∧ r = Sl.nil) (hs : DN h s QV) (hst : DN h t RV) (hq12 : nl QV ≤ 12) (hr12 : nl RV ≤ 12)
    (hx : NV h x X) (hy : NV h y Y) (hxl : x.len ≤ 12) (hdx : DN h dx X) (hdy : DN h dy Y) (hX : nl X ≤ 12) (K : ∀ h', Ext h h' → Q true h') :
         seq (fun (K0u1 : Bool → Heap → Prop) =>
          ref01uLimbs s h fun v_26 h0u28 =>
          iteB (decide (((v_26.len : Nat) : Int) > (N : Int))) (
           K0u1 true h0u28
          ) (
           ref01uLimbs t h0u28 fun v_27 h0u29 =>
           K0u1 (decide (((v_27.len : Nat) : Int) > (N : Int))) h0u29
          )
         ) (fun t0u1 h0u27 =>
          iteB t0u1 (
           seq (fun (K0u2 : Bool → Heap → Prop) =>
            nat_Bench_Over (some a) h0u27 fun v_28 h0u31 =>
            iteB v_28 (
             iteB (((q.len : Nat) : Int) == 0) (
              K0u2 (((r.len : Nat) : Int) == 0) h0u31
             ) (
              K0u2 false h0u31
             )
            ) (
             K0u2 false h0u31
            )
           ) (fun t0u2 h0u30 =>
            Q t0u2 h0u30
           )
          ) (
           seq (fun (K0u3 : Bool → Heap → Prop) =>
            law01utold (some a) (N : Int) q s h0u27 fun v_29 h0u33 =>
            iteB v_29 (
             law01utold (some a) (N : Int) r t h0u33 fun v_30 h0u34 =>
             iteB v_30 (
              nat_Cmp x y h0u34 fun v_31 h0u35 =>
              ref01uCmp dx dy h0u35 fun v_32 h0u36 =>
              iteB (v_31 == v_32) (
               nat_Text x h0u36 fun v_33 h0u37 =>
               ref01uText dx h0u37 fun v_34 h0u38 =>
               K0u3 (v_33.toList == v_34.toList) h0u38
              ) (
               K0u3 false h0u36
              )
             ) (
              K0u3 false h0u34
             )
            ) (
             K0u3 false h0u33
            )
           ) (fun t0u3 h0u32 =>
            Q t0u3 h0u32
           )
          )
         ) := by
  have ls := hs.len_nl hq12
  have lt := hst.len_nl hr12
  refine seq.cut (fun b h' => b = ov ∧ Ext h h') ?_ ?_
  · refine LimbsD hs (by omega) fun l1 h1 hl1 he1 => ?_
    have ll1 := hl1.nl
    refine ⟨fun hgt => ?_, fun hle => ?_⟩
    · simp only [gt_iff_lt, decide_eq_true_eq] at hgt
      refine ⟨?_, he1⟩
      have : decide (N < nl QV) = true := by simp only [decide_eq_true_eq]; omega
      rw [hov, this, Bool.true_or]
    · simp only [gt_iff_lt, decide_eq_false_iff_not] at hle
      refine LimbsD (hst.ext he1) (by omega) fun l2 h2 hl2 he2 => ?_
      have ll2 := hl2.nl
      refine ⟨?_, he1.trans he2⟩
      have : decide (N < nl QV) = false := by simp only [decide_eq_false_iff_not]; omega
      rw [hov, this, Bool.false_or]
      exact decide_eq_decide.2 (by omega)
  rintro b h1 ⟨rfl, he1⟩
  have hb1 := hb.ext he1
  refine ⟨fun hbt => ?_, fun hbf => ?_⟩
  · obtain ⟨rfl, rfl⟩ := ht hbt
    rw [hbt] at hb1
    exact seq.dup (Over_spec hb1 ⟨fun _ => ⟨fun _ => K h1 he1, fun hc => absurd hc (by decide)⟩, nofun⟩)
  · obtain ⟨hq, hr⟩ := hf hbf
    have hov' := hov
    rw [hbf] at hov' hb1
    have h1' : decide (N < nl QV) = false := by
      cases hx : decide (N < nl QV) with
      | false => rfl
      | true => rw [hx] at hov'; simp at hov'
    have h2' : decide (N < nl RV) = false := by rw [h1', Bool.false_or] at hov'; exact hov'.symm
    refine seq.cut (fun b h' => b = true ∧ Ext h h') ?_ (by rintro b h' ⟨rfl, e⟩; exact K h' e)
    refine told_spec hb1 h1'.symm (fun _ => hq.ext he1) nofun (hs.ext he1) (by omega) fun h2 he2 => ⟨fun _ => ?_, nofun⟩
    have e2 := he1.trans he2
    refine told_spec (hb1.ext he2) h2'.symm (fun _ => hr.ext e2) nofun (hst.ext e2) (by omega) fun h3 he3 => ⟨fun _ => ?_, nofun⟩
    have e3 := e2.trans he3
    have ldx := hdx.len_nl hX
    refine Cmp_spec (hx.ext e3) (hy.ext e3) (Cmp10uspec (hdx.ext e3) (hdy.ext e3) (by omega) ?_)
    refine ⟨fun _ => ?_, fun hf => absurd hf (by simp)⟩
    refine Text_spec (hx.ext e3) (by omega) fun h4 es hel hen hev he4 => ?_
    obtain ⟨zs, z1, z2, z3, z4⟩ := (hdx.ext e3).ext he4
    refine Text10uspec z1 z2 (by rw [← z1.len]; omega) fun h5 he5 => ?_
    have : es = zs := val_inj (b := 10) (by decide) hel z2 hen z3 (by rw [hev, z4])
    rw [this, bytes_beq]
    exact ⟨rfl, (e3.trans he4).trans he5⟩

theorem NatTold_holds {limbs : Int} {x y : Sl} {xs ys : List Nat} {h : Heap} {Q : Bool → Heap → Prop} (ht : Tab h) (hx : RI .u32 h x xs) (hxl : Lim 4294967296 xs) (hy : RI .u32 h y ys) (hyl : Lim 4294967296 ys)
    (K : ∀ h', Ext h h' → Q true h') : law01uNatTold limbs x y h Q := by
  unfold law01uNatTold
  refine speaks_spec fun h1 he1 => ⟨nofun, fun _ => ?_⟩
  have lx := hx.len
  have ly := hy.len
  refine great2 (s := ByteArray.empty) (k := 0) he1 fun b h2 hb2 he2 => ⟨fun _ => K h2 he2, fun hbf => ?_⟩
  obtain ⟨hx12, hy12⟩ : x.len ≤ 12 ∧ y.len ≤ 12 := by
    rcases hb2 with hb | hb
    · rw [hbf] at hb; cases hb
    · exact hb
  clear hb2 hbf
  have hvx : ∀ {k : Nat} {l : List Nat}, Lim 4294967296 l → l.length ≤ k → nl (val 4294967296 l) ≤ k := fun hl hk => by
    rw [nl_le_iff]
    exact Nat.lt_of_lt_of_le (val_lt hl) (Nat.pow_le_pow_right (by decide) hk)
  have nX := hvx (k := 12) hxl (by omega)
  have nY := hvx (k := 12) hyl (by omega)
  have nvx : ∀ {h' : Heap}, Ext h h' → NV h' x (val 4294967296 xs) := fun e => ⟨xs, hx.ext e, hxl, rfl, by omega⟩
  have nvy : ∀ {h' : Heap}, Ext h h' → NV h' y (val 4294967296 ys) := fun e => ⟨ys, hy.ext e, hyl, rfl, by omega⟩
  have bx : ∀ {a : Addr}, h.size ≤ a.block → x.blk = some a.block → val 4294967296 xs = 0 := fun e => in_blk hx e
  have byy : ∀ {a : Addr}, h.size ≤ a.block → y.blk = some a.block → val 4294967296 ys = 0 := fun e => in_blk hy e
  refine Of10uspec (hx.ext he2) hxl (by omega) fun dx h3 hdx he3 _ => ?_
  refine Of10uspec ((hy.ext he2).ext he3) hyl (by omega) fun dy h4 hdy he4 _ => ?_
  have hdx4 := hdx.ext he4
  have e4 : Ext h h4 := (he2.trans he3).trans he4
  generalize val 4294967296 xs = X at *
  generalize val 4294967296 ys = Y at *
  rintro n rfl
  have hlimb : (if 1 > limbs then 1 else limbs) = ((max limbs.toNat 1 : Nat) : Int) := by split <;> omega
  rw [hlimb]
  generalize hN : max limbs.toNat 1 = N
  have ldx := hdx4.len_nl nX
  have ldy := hdy.len_nl nY
  have nAdd := nl_add X Y
  have nMul := nl_mul X Y
  have nSub : nl (X - Y) ≤ 12 := Nat.le_trans (nl_mono (Nat.sub_le X Y)) nX
  have fresh : ∀ {h' h'' : Heap} {a : Addr}, h4.size ≤ a.block → Ext h4 h' → Keep (some a.block) h' h'' → Ext h4 h'' := fun ha e k => e.fresh ha k
  have up : ∀ {h' : Heap}, Ext h4 h' → Ext h h' := fun e => e4.trans e
  refine New_spec fun a1 h5 hb5 ha5 he5 => ?_
  rw [hN] at hb5
  have hsz4 := e4.size
  refine seq.cut (fun b h' => b = false ∧ Ext h4 h') ?_ ?_
  · refine ⟨a1, rfl, _, hb5.limb, ⟨fun hne => ?_, fun _ => ?_⟩⟩
    · simp at hne
    refine Over_spec hb5 ⟨nofun, fun _ => ?_⟩
    refine Add_spec hb5 (nvx (up he5)) (nvy (up he5)) (by omega) (by omega) fun r h6 hb6 hk6 hf6 ht6 _ => ?_
    have e6 := fresh (by omega) he5 hk6
    refine Add10uspec (hdx4.ext e6) (hdy.ext e6) (by omega) (by omega) fun w h7 hw he7 _ => ?_
    have lw := hw.len_nl nAdd
    refine told_spec (hb6.ext he7) (by rw [Bool.false_or]) (fun hx => (hf6 hx).ext he7) ht6 hw (by omega) fun h8 he8 => ⟨rfl, (e6.trans he7).trans he8⟩
  rintro b h6 ⟨rfl, e6⟩
  refine ⟨nofun, fun _ => ?_⟩
  -- the difference
  refine New_spec fun a2 h7 hb7 ha7 he7 => ?_
  rw [hN] at hb7
  have e7 := e6.trans he7
  have hsz6 := e6.size
  have subTold : ∀ r h8 ov, ov = decide (N < nl (X - Y)) → Bench h8 a2 N ov → Ext h4 h8 → (ov = false → NN h8 r (X - Y)) → (ov = true → r = Sl.nil) → ∀ {Q' : Bool → Heap → Prop}, (∀ h', Ext h4 h' → Q' true h') →
      ref01uSub dx dy h8 fun v_13 h0u14 => law01utold (some a2) (N : Int) r v_13 h0u14 Q' := by
    intro r h8 ov hov hb8 e8 hf8 ht8 Q' KQ
    refine Sub10uspec (hdx4.ext e8) (hdy.ext e8) (by omega) fun w h9 hw he9 _ => ?_
    have lw := hw.len_nl nSub
    exact told_spec (hb8.ext he9) hov (fun hx => (hf8 hx).ext he9) ht8 hw (by omega) fun h10 he10 => KQ h10 ((e8.trans he9).trans he10)
  have goSub : ∀ {Q' : Bool → Heap → Prop}, (∀ h', Ext h4 h' → Q' true h') → nat_Bench_Sub (some a2) x y h7 fun v_12 h0u13 => ref01uSub dx dy h0u13 fun v_13 h0u14 => law01utold (some a2) (N : Int) v_12 v_13 h0u14 Q' := by
    intro Q' KQ
    refine Sub_spec hb7 (nvx (up e7)) (nvy (up e7)) (by omega) (fun hlt => ?_) (fun hle r h8 hb8 hk8 hf8 ht8 _ => ?_)
    · have h0 : X - Y = 0 := by omega
      refine subTold Sl.nil h7 false ?_ hb7 e7 (fun _ => by rw [h0]; exact NN.nil) nofun KQ
      rw [h0, nl_zero]; simp
    · simp only [Bool.false_or] at hb8 hf8 ht8
      exact subTold r h8 _ rfl hb8 (fresh (by omega) e7 hk8) hf8 ht8 KQ
  refine goSub fun h8 e8 => ⟨nofun, fun _ => ?_⟩
  clear goSub subTold
  -- the product
  refine New_spec fun a3 h9 hb9 ha9 he9 => ?_
  rw [hN] at hb9
  have e9 := e8.trans he9
  have hsz8 := e8.size
  refine Mul_spec hb9 (nvx (up e9)) (nvy (up e9)) (by omega) (by omega) fun r h10 hb10 hk10 hf10 ht10 _ => ?_
  have e10 := fresh (by omega) e9 hk10
  refine Mul10uspec (hdx4.ext e10) (hdy.ext e10) (by omega) (by omega) fun w h11 hw he11 _ => ?_
  have lw := hw.len_nl nMul
  refine told_spec (hb10.ext he11) (by rw [Bool.false_or]) (fun hx => (hf10 hx).ext he11) ht10 hw (by omega) fun h12 he12 => ⟨nofun, fun _ => ?_⟩
  have e12 := (e10.trans he11).trans he12
  clear lw hw hf10 ht10
  -- the greatest that divides both
  refine New_spec fun a4 h13 hb13 ha13 he13 => ?_
  rw [hN] at hb13
  have e13 := e12.trans he13
  have hsz12 := e12.size
  have nG : nl (Nat.gcd X Y) ≤ 12 := by
    by_cases hX0 : X = 0
    · subst hX0; rw [Nat.gcd_zero_left]; exact nY
    · exact Nat.le_trans (nl_mono (Nat.le_of_dvd (Nat.pos_of_ne_zero hX0) (Nat.gcd_dvd_left X Y))) nX
  refine Gcd_spec (ht.ext (up e13)) hb13 (nvx (up e13)) (nvy (up e13)) (by omega) (by omega) (bx (by omega)) (byy (by omega)) fun r4 h14 hb14 hk14 hf14 ht14 _ => ?_
  have e14 := fresh (by omega) e13 hk14
  refine Gcd10uspec (E := 10 * 12) (by decide) (hdx4.ext e14) (hdy.ext e14) (pow_bound nX) (pow_bound nY) fun w4 h15 hw4 he15 => ?_
  have lw4 := hw4.len_nl nG
  refine told_spec (hb14.ext he15) (by rw [Bool.false_or]) (fun hx => (hf14 hx).ext he15) ht14 hw4 (by omega) fun h16 he16 => ⟨nofun, fun _ => ?_⟩
  have e16 := (e14.trans he15).trans he16
  clear lw4 hw4 hf14 ht14
  -- how often, and what is left
  refine New_spec fun a5 h17 hb17 ha17 he17 => ?_
  rw [hN] at hb17
  have e17 := e16.trans he17
  have hsz16 := e16.size
  have nQ : nl (X / Y) ≤ 12 := Nat.le_trans (nl_mono (Nat.div_le_self X Y)) nX
  have nR : nl (X % Y) ≤ 12 := Nat.le_trans (nl_mono (Nat.mod_le X Y)) nX
  refine Div_spec hb17 (nvx (up e17)) (nvy (up e17)) (by omega) (by omega) (fun h0 => ?_) (fun h0 q r h18 ov hov hb18 hk18 hf18 ht18 _ => ?_)
  · refine Div10uspec (hdx4.ext e17) (hdy.ext e17) (by omega) (by omega) (fun _ s t h19 hs hst he19 => ?_) (fun h1 => absurd h0 h1)
    have e19 := e17.trans he19
    dsimp only
    exact told_div (QV := 0) (RV := 0) (hb17.ext he19) (by rw [nl_zero]; simp) (fun _ => ⟨NN.nil, NN.nil⟩) nofun hs hst (by rw [nl_zero]; omega) (by rw [nl_zero]; omega) (nvx (up e19)) (nvy (up e19)) hx12 (hdx4.ext e19) (hdy.ext e19) nX fun h20 he20 => K h20 (up (e19.trans he20))
  · have e18 := fresh (by omega) e17 hk18
    refine Div10uspec (hdx4.ext e18) (hdy.ext e18) (by omega) (by omega) (fun h1 => absurd h1 h0) (fun _ s t h19 hs hst he19 => ?_)
    have e19 := e18.trans he19
    dsimp only
    rw [Bool.false_or] at hov
    exact told_div (hb18.ext he19) hov (fun hx => ⟨(hf18 hx).1.ext he19, (hf18 hx).2.ext he19⟩) ht18 hs hst nQ nR (nvx (up e19)) (nvy (up e19)) hx12 (hdx4.ext e19) (hdy.ext e19) nX fun h20 he20 => K h20 (up (e19.trans he20))
end Go.Sh
