/- Laws that the proof of this claim's statement leans on, each proved under the conditions that it states. -/
import Derived.Test.YtdcdidecehbplaaDoorSpec5
set_option linter.unusedVariables false
set_option linter.unusedSimpArgs false
namespace Go.Sh
open Go Go.Lift

theorem val_div_pow {b : Nat} (hb : 0 < b) {xs : List Nat} (hl : Lim b xs) {k : Nat} (hk : k ≤ xs.length) : val b xs / b ^ k = val b (xs.drop k) := by
  have h1 := val_take_add (b := b) xs k
  rw [Nat.min_eq_left hk] at h1
  have h2 := val_lt (hl.take k)
  rw [List.length_take, Nat.min_eq_left hk] at h2
  rw [h1, Nat.add_mul_div_left _ _ (Nat.pow_pos hb), Nat.div_eq_of_lt h2, Nat.zero_add]
theorem limb_div {l R b : Nat} (hb : b < 32) : (l + 4294967296 * R) / 2 ^ b = l / 2 ^ b + 2 * (2 ^ (31 - b) * R) := by
  have h : (4294967296 : Nat) = 2 ^ b * (2 * 2 ^ (31 - b)) := by
    rw [← Nat.pow_succ', ← Nat.pow_add, show b + (31 - b).succ = 32 from by omega]
  rw [h, Nat.mul_assoc, Nat.add_mul_div_left _ _ (Nat.pow_pos (by decide)), Nat.mul_assoc]
theorem pow_split (k b : Nat) : (2 : Nat) ^ (32 * k + b) = 4294967296 ^ k * 2 ^ b := by
  rw [Nat.pow_add, Nat.pow_mul]
theorem bit_val {xs : List Nat} (hl : Lim 4294967296 xs) {p : Nat} (hp : p / 32 < xs.length) : val 4294967296 xs / 2 ^ p % 2 = xs[p / 32] / 2 ^ (p % 32) % 2 := by
  have e : (2 : Nat) ^ p = 4294967296 ^ (p / 32) * 2 ^ (p % 32) := by rw [← pow_split, Nat.div_add_mod]
  rw [e, ← Nat.div_div_eq_div_mul, val_div_pow (by decide) hl (by omega), val_drop xs _ hp, limb_div (Nat.mod_lt _ (by decide)), Nat.add_mul_mod_self_left]

theorem bit_spec {x : Sl} {xs : List Nat} {h : Heap} {i : Int} {p : Nat} {Q : Int → Heap → Prop} (hx : RI .u32 h x xs) (hl : Lim 4294967296 xs) (hi : i = (p : Int)) (hp : p / 32 < xs.length) (hpl : p < 1000000000)
    (K : Q ((val 4294967296 xs / 2 ^ p % 2 : Nat) : Int) h) : nat_bit x i h Q := by
  subst hi
  unfold nat_bit
  have e1 : Int.tdiv (p : Int) 32 = ((p / 32 : Nat) : Int) := rfl
  have e2 : Int.tmod (p : Int) 32 = ((p % 32 : Nat) : Int) := rfl
  rw [e1, e2, w64 (by omega) (by omega)]
  refine RI.ld hx (j := p / 32) rfl hp ⟨by omega, ?_⟩
  have hg := hl.get hp
  rw [bit_val hl hp] at K
  generalize xs[p / 32] = l at *
  have e3 : Int.fdiv (l : Int) (2 ^ (min (Int.toNat ((p % 32 : Nat) : Int)) (IntKind.bits .u32))) = ((l / 2 ^ (p % 32) : Nat) : Int) := by
    have : min (Int.toNat ((p % 32 : Nat) : Int)) (IntKind.bits .u32) = p % 32 := by
      show min (Int.toNat ((p % 32 : Nat) : Int)) 32 = _
      omega
    rw [this, Int.fdiv_eq_ediv_of_nonneg _ (by exact_mod_cast Nat.zero_le _)]
    norm_cast
  have hd : l / 2 ^ (p % 32) < 4294967296 := Nat.lt_of_le_of_lt (Nat.div_le_self _ _) hg
  rw [e3, and32u1 hd, wu32 (by omega) (by omega)]
  exact K

theorem or_bit {l b : Nat} (hz : l % 2 ^ (b + 1) = 0) : l ||| 2 ^ b = l + 2 ^ b := by
  have h1 := Nat.div_add_mod l (2 ^ (b + 1))
  rw [hz, Nat.add_zero, Nat.mul_comm] at h1
  rw [← h1]
  exact or_add (Nat.pow_lt_pow_right (by decide) (by omega))
theorem limb_zero {qs : List Nat} (hl : Lim 4294967296 qs) {Qj p : Nat} (hp : p / 32 < qs.length) (hv : val 4294967296 qs = Qj * 2 ^ (p + 1)) : qs[p / 32] % 2 ^ (p % 32 + 1) = 0 := by
  have h1 := val_div_pow (b := 4294967296) (by decide) hl (k := p / 32) (by omega)
  rw [hv, val_drop qs _ hp] at h1
  have e : (2 : Nat) ^ (p + 1) = 4294967296 ^ (p / 32) * 2 ^ (p % 32 + 1) := by
    rw [← pow_split]; congr 1; omega
  rw [e, Nat.mul_left_comm, Nat.mul_div_cancel_left _ (Nat.pow_pos (by decide))] at h1
  have e2 : (4294967296 : Nat) = 2 ^ (p % 32 + 1) * 2 ^ (31 - p % 32) := by
    rw [← Nat.pow_add, show p % 32 + 1 + (31 - p % 32) = 32 from by omega]
  have h2 := congrArg (· % 2 ^ (p % 32 + 1)) h1
  simp only [Nat.mul_mod_left] at h2
  generalize val 4294967296 (qs.drop (p / 32 + 1)) = R at h2
  rw [show qs[p / 32] + 4294967296 * R = qs[p / 32] + 2 ^ (p % 32 + 1) * (2 ^ (31 - p % 32) * R) from by rw [← Nat.mul_assoc, ← e2], Nat.add_mul_mod_self_left] at h2
  omega

theorem divide_spec {x y : Sl} {m n : Nat} {h : Heap} {Q : (Sl × Sl) → Heap → Prop} (hx : NV h x m) (hy : NV h y n) (hxl : x.len ≤ 30000) (hyl : y.len ≤ 30000) (hn : n ≠ 0)
    (K : ∀ q r h', NN h' q (m / n) → NN h' r (m % n) → Ext h h' → (∀ b, q.blk = some b → h.size ≤ b ∧ b < h'.size) → (∀ b, r.blk = some b → h.size ≤ b) → Q (q, r) h') : nat_divide x y h Q := by
  unfold nat_divide
  refine small_spec hx fun v hv hvm => small_spec hy fun w hw hwn => ?_
  have fast : nl m ≤ 2 → nl n ≤ 2 → ((w : Int) ≠ 0) ∧ ((w : Int) ≠ 0) ∧ nat_Of (IntKind.wrap .u64 (Int.tdiv (v : Int) (w : Int))) h fun v_2 h0u3 => nat_Of (Int.tmod (v : Int) (w : Int)) h0u3 fun v_3 h0u4 => Q (v_2, v_3) h0u4 := by
    intro h1 h2
    have e1 := hvm h1
    have e2 := hwn h2
    subst e1 e2
    refine ⟨by omega, by omega, ?_⟩
    have e3 : Int.tdiv (v : Int) (w : Int) = ((v / w : Nat) : Int) := rfl
    have e4 : Int.tmod (v : Int) (w : Int) = ((v % w : Nat) : Int) := rfl
    have b1 : v / w ≤ v := Nat.div_le_self _ _
    have b2 : v % w ≤ v := Nat.mod_le _ _
    rw [e3, e4]
    obtain ⟨d1, hd1⟩ : ∃ d, v / w = d := ⟨_, rfl⟩
    obtain ⟨d2, hd2⟩ : ∃ d, v % w = d := ⟨_, rfl⟩
    rw [hd1, hd2] at K
    rw [hd1] at b1
    rw [hd2] at b2
    rw [hd1, hd2]
    refine Of_spec (m := d1) (wu64 (by omega) (by omega)) (by omega) fun q h1 hq he1 hqb => Of_spec (m := d2) rfl (by omega) fun r h2 hr he2 hrb => K q r h2 (hq.ext he2) hr (he1.trans he2) (fun b hb => ⟨(hqb b hb).1, Nat.lt_of_lt_of_le (hqb b hb).2 he2.size⟩) (fun b hb => Nat.le_trans he1.size (hrb b hb).1)
  have slow : nat_trim x h fun v_4 h0u5 => nat_trim y h0u5 fun v_5 h0u6 => Let (((v_4.len : Nat) : Int) : Int) fun t38 => mkS [Value.int .u32 0] 4 t38 t38 h0u6 fun v_6 h0u7 =>
    Let (IntKind.wrap .i64 ((IntKind.wrap .i64 (((v_4.len : Nat) : Int) * 32)) - 1) : Int) fun at0 =>
    loop (fun (s0 : Sl × Int) h0u8 (K0u1 : (Sl × Int) → Heap → Prop) =>
     iteB (decide (s0.2 ≥ 0)) (
      seq (fun (K0u2 : Sl → Heap → Prop) =>
       nat_plus s0.1 s0.1 h0u8 fun v_7 h0u10 =>
       idxS v_7 0 1 fun a =>
       Lift.load (Value.int .u32) a h0u10 fun v_8 =>
       nat_bit v_4 s0.2 h0u10 fun v_9 h0u11 =>
       (cell? h0u11 a = some (Value.int .u32 v_8)) ∧
       idxS v_7 0 1 fun a_1 =>
       Lift.store a_1 (Value.int .u32 (IntKind.wrap .u32 (((BitVec.ofInt (IntKind.bits .u32) v_8 ||| BitVec.ofInt (IntKind.bits .u32) v_9).toNat : Int)))) h0u11 fun h0u12 =>
       nat_trim v_7 h0u12 fun v_10 h0u13 =>
       nat_Cmp v_10 v_5 h0u13 fun v_11 h0u14 =>
       iteB (decide (v_11 ≥ 0)) (
        nat_minus v_10 v_5 h0u14 fun v_12 h0u15 =>
        idxS v_6 (IntKind.wrap .i64 (Int.tdiv s0.2 32)) 1 fun a_2 =>
        Lift.load (Value.int .u32) a_2 h0u15 fun v_13 =>
        (0 ≤ (Int.tmod s0.2 32)) ∧
        idxS v_6 (IntKind.wrap .i64 (Int.tdiv s0.2 32)) 1 fun a_3 =>
        Lift.store a_3 (Value.int .u32 (IntKind.wrap .u32 (((BitVec.ofInt (IntKind.bits .u32) v_13 ||| BitVec.ofInt (IntKind.bits .u32) (IntKind.wrap .u32 (1 * 2 ^ (min (Int.toNat (Int.tmod s0.2 32)) (IntKind.bits .u32))))).toNat : Int)))) h0u15 fun h0u16 =>
        K0u2 v_12 h0u16
       ) (
        K0u2 v_10 h0u14
       )
      ) (fun t0u1 h0u9 =>
       Let (IntKind.wrap .i64 (s0.2 - 1) : Int) fun at0u1 =>
       K0u1 (t0u1, at0u1) h0u9
      )
     ) (
      nat_trim v_6 h0u8 fun v_14 h0u17 =>
      Q (v_14, s0.1) h0u17
     )
    ) (Sl.nil, at0) h0u7 := by
    refine trim_nn hx fun x' hx' hxb hxl' => trim_nn hy fun y' hy' hyb hyl' => ?_
    have hynl := hy'.nl
    have hm0 := hx'
    obtain ⟨xs, x1, x2, x3, x4, x5⟩ := hx'
    have lx := x1.len
    rintro t38 rfl
    refine mk_spec (m := xs.length) (by omega) (by omega) fun q h0 ho0 he0 hql => ?_
    obtain ⟨qb, hqb⟩ : ∃ qb, qb = q.blk := ⟨_, rfl⟩
    rintro at0 rfl
    rw [w64 (n := (x'.len : Int) * 32) (by omega) (by omega), w64 (by omega) (by omega)]
    have hmlt := val_lt x2
    rw [x4] at hmlt
    refine loop.inv (fun s h' => ∃ (qs : List Nat) (j Qj rv : Nat), s.2 = (j : Int) - 1 ∧ j ≤ 32 * xs.length ∧ OwnI .u32 h.size h' q qs ∧ Lim 4294967296 qs ∧ qs.length = xs.length ∧ val 4294967296 qs = Qj * 2 ^ j ∧ m / 2 ^ j = Qj * n + rv ∧ rv < n ∧
        NN h' s.1 rv ∧ (∀ b, s.1.blk = some b → h.size ≤ b ∧ some b ≠ q.blk) ∧ Ext h h') (fun s _ => (s.2 + 1).toNat)
      ⟨List.replicate xs.length 0, 32 * xs.length, 0, 0, by dsimp only; omega, by omega, ho0, fun z hz => by rw [List.eq_of_mem_replicate hz]; decide, by simp, by rw [val_replicate_zero]; simp, ?_, by omega, NN.nil, (fun b hb => by cases hb), he0⟩ ?_
    · have e : (2 : Nat) ^ (32 * xs.length) = 4294967296 ^ xs.length := by have := pow_split xs.length 0; simpa using this
      rw [e, Nat.div_eq_of_lt hmlt]; simp
    rintro ⟨r, at1⟩ h1 ⟨qs, j, Qj, rv, hj, hjl, hoq, hql2, hqsl, hqv, hdiv, hrn, hr, hrb, hext⟩
    simp only at hj hr hrb
    subst hj
    dsimp only
    refine ⟨fun hge => ?_, fun hlt => ?_⟩
    · simp only [ge_iff_le, decide_eq_true_eq] at hge
      obtain ⟨p, rfl⟩ : ∃ p, j = p + 1 := ⟨j - 1, by omega⟩
      have hp : p / 32 < xs.length := by omega
      have hrl : r.len ≤ 30000 := by
        rw [hr.nl]
        have := nl_mono (Nat.le_of_lt hrn)
        omega
      refine seq.dup ?_
      refine plus_spec hr.nv hr.nv (by omega) (by omega) fun z h2 zs hoz hzl hzv hzlen he2 => ?_
      have hz0 : 0 < zs.length := by omega
      obtain ⟨az, haz, hcz⟩ := hoz.r.get hz0
      have hzlen' := hoz.r.len
      refine ⟨az, haz, ⟨by omega, by omega⟩, ((zs[0] : Nat) : Int), by simpa using hcz, ?_⟩
      refine bit_spec (p := p) (x1.ext (hext.trans he2)) x2 (by omega) hp (by omega) ⟨by simpa using hcz, ?_⟩
      have hz0l := hzl.get hz0
      obtain ⟨bit, hbit⟩ : ∃ bit, val 4294967296 xs / 2 ^ p % 2 = bit := ⟨_, rfl⟩
      have hbl : bit < 2 := by rw [← hbit]; exact Nat.mod_lt _ (by decide)
      rw [hbit, or32 hz0l (by omega)]
      have heven : zs[0] % 2 = 0 := by
        have h1 := val_drop (b := 4294967296) zs 0 hz0
        rw [List.drop_zero, hzv] at h1
        omega
      have hor : zs[0] ||| bit = zs[0] + bit := by
        have h1 : zs[0] / 2 * 2 ^ 1 = zs[0] := by omega
        rw [← h1]; exact or_add (by omega)
      rw [hor]
      refine Own.st hoz (j := 0) (m := zs[0] + bit) rfl hz0 (wu32 (by omega) (by omega)) fun h3 hoz3 hk3 hs3 => ?_
      have he3 : Ext h1 h3 := Keep.own he2 hoz (Nat.le_refl _) hk3
      have hv3 : val 4294967296 (zs.set 0 (zs[0] + bit)) = 2 * rv + bit := by
        have := val_set (b := 4294967296) zs 0 hz0 (zs[0] + bit)
        rw [hzv] at this
        simp at this
        omega
      refine trim_nn ⟨_, hoz3.r, hzl.set 0 (by omega), hv3, by simp; omega⟩ fun t ht htb htl => ?_
      refine Cmp_spec ht.nv (hy'.nv.ext (hext.trans he3)) ?_
      have hx0 : val 4294967296 xs / 2 ^ p = 2 * (m / 2 ^ (p + 1)) + bit := by
        have h1 := Nat.div_add_mod (val 4294967296 xs / 2 ^ p) 2
        rw [hbit, Nat.div_div_eq_div_mul, ← Nat.pow_succ, x4] at h1
        rw [x4]
        exact h1.symm
      rw [x4] at hx0
      have hpw : (2 : Nat) ^ (p + 1) = 2 * 2 ^ p := by rw [Nat.pow_succ, Nat.mul_comm]
      have htb' : ∀ b, t.blk = some b → h1.size ≤ b := fun b hb => (hoz.lt (by rw [← htb]; exact hb)).1
      have hqlt : ∀ b, q.blk = some b → b < h1.size := fun b hb => (hoq.lt hb).2
      have hoq3 : OwnI .u32 h.size h3 q qs := hoq.ext he3
      refine ⟨fun hc => ?_, fun hc => ?_⟩
      · have hge2 : n ≤ 2 * rv + bit := by
          simp only [ge_iff_le, decide_eq_true_eq] at hc
          unfold cmpI at hc
          by_cases hlt : 2 * rv + bit < n
          · rw [if_pos hlt] at hc; omega
          · omega
        refine minus_spec ht.nv (hy'.nv.ext (hext.trans he3)) ?_ hge2 fun u h4 hu he4 hub hul => ?_
        · have := hoz3.r.len; simp at this; omega
        have hpl : p / 32 < qs.length := by omega
        have e1 : Int.tdiv ((p + 1 : Nat) - 1 : Int) 32 = ((p / 32 : Nat) : Int) := by
          rw [show (((p + 1 : Nat) : Int) - 1) = (p : Int) from by omega]; rfl
        have e2 : Int.tmod ((p + 1 : Nat) - 1 : Int) 32 = ((p % 32 : Nat) : Int) := by
          rw [show (((p + 1 : Nat) : Int) - 1) = (p : Int) from by omega]; rfl
        have hoq4 : OwnI .u32 h.size h4 q qs := hoq3.ext he4
        rw [e1, e2, w64 (by omega) (by omega)]
        refine RI.ld hoq4.r (j := p / 32) rfl hpl ⟨by omega, ?_⟩
        have hlz := limb_zero hql2 (p := p) (Qj := Qj) hpl hqv
        have hgl := hql2.get hpl
        have hset := val_set (b := 4294967296) qs (p / 32) hpl (qs[p / 32] + 2 ^ (p % 32))
        have hmin : min (Int.toNat ((p % 32 : Nat) : Int)) (IntKind.bits .u32) = p % 32 := by
          show min (Int.toNat ((p % 32 : Nat) : Int)) 32 = _
          omega
        have hsh : IntKind.wrap .u32 (1 * 2 ^ (min (Int.toNat ((p % 32 : Nat) : Int)) (IntKind.bits .u32))) = ((2 ^ (p % 32) : Nat) : Int) := by
          rw [hmin, Int.one_mul]
          have h1 : (2 : Nat) ^ (p % 32) < 2 ^ 32 := Nat.pow_lt_pow_right (by decide) (Nat.mod_lt _ (by decide))
          have h2 : ((2 : Int) ^ (p % 32)) = ((2 ^ (p % 32) : Nat) : Int) := by norm_cast
          rw [h2, wu32 (by omega) (by omega)]
        have hb32 : (2 : Nat) ^ (p % 32) < 4294967296 := by
          have h1 : (2 : Nat) ^ (p % 32) < 2 ^ 32 := Nat.pow_lt_pow_right (by decide) (Nat.mod_lt _ (by decide))
          exact h1
        rw [hsh, or32 hgl hb32, or_bit hlz]
        have hlsum : qs[p / 32] + 2 ^ (p % 32) < 4294967296 := by
          rw [← or_bit hlz]
          exact Nat.or_lt_two_pow (n := 32) hgl hb32
        refine Own.st hoq4 (j := p / 32) (m := qs[p / 32] + 2 ^ (p % 32)) rfl hpl (wu32 (by omega) (by omega)) fun h5 hoq5 hk5 hs5 => ?_
        rintro at2 rfl
        rw [w64 (by omega) (by omega)]
        have hext5 : Ext h h5 := Keep.own ((hext.trans he3).trans he4) hoq4 (Nat.le_refl _) hk5
        have hune : u.blk ≠ q.blk := fun he => by
          cases hqk : q.blk with
          | none =>
            rcases hoq.own with ⟨h1, _⟩ | ⟨b, c, T, h1, _⟩
            · obtain ⟨aq, haq, _⟩ := hoq.r.get hpl
              rw [h1] at haq; cases haq
            · simp [Sl.blk, h1] at hqk
          | some b =>
            have h1 := hub b (by rw [he, hqk])
            have h2 := hqlt b hqk
            have := he3.size
            omega
        have hu5 : NN h5 u (2 * rv + bit - n) := by
          cases hqk : q.blk with
          | none => rw [hqk] at hk5; exact hu.ext hk5
          | some b => rw [hqk] at hk5 hune; exact hu.keep hk5 hune
        refine ⟨⟨_, p, 2 * Qj + 1, 2 * rv + bit - n, by omega, by omega, hoq5, hql2.set _ hlsum, by simpa using hqsl, ?_, ?_, by omega, hu5, fun b hb => ⟨?_, fun he => hune (by rw [hb, he])⟩, hext5⟩, by omega⟩
        · have e3 : 4294967296 ^ (p / 32) * (qs[p / 32] + 2 ^ (p % 32)) = 4294967296 ^ (p / 32) * qs[p / 32] + 2 ^ p := by
            rw [Nat.mul_add]
            congr 1
            rw [← pow_split, Nat.div_add_mod]
          rw [e3, hqv, hpw] at hset
          have e4 : (2 * Qj + 1) * 2 ^ p = Qj * (2 * 2 ^ p) + 2 ^ p := by
            rw [Nat.add_mul, Nat.one_mul, ← Nat.mul_assoc, Nat.mul_comm 2 Qj]
          omega
        · rw [hx0, hdiv]
          have : (2 * Qj + 1) * n = 2 * (Qj * n) + n := by rw [Nat.add_mul, Nat.one_mul, Nat.mul_assoc]
          omega
        · have h1 := hub b hb
          have := he3.size
          have := hext.size
          omega
      · have hlt2 : 2 * rv + bit < n := by
          simp only [ge_iff_le, decide_eq_false_iff_not] at hc
          unfold cmpI at hc
          by_cases hlt : 2 * rv + bit < n
          · exact hlt
          · rw [if_neg hlt] at hc
            split at hc <;> omega
        rintro at2 rfl
        rw [w64 (by omega) (by omega)]
        refine ⟨⟨qs, p, 2 * Qj, 2 * rv + bit, by omega, by omega, hoq3, hql2, hqsl, ?_, ?_, hlt2, ht, fun b hb => ⟨?_, fun he => ?_⟩, hext.trans he3⟩, by omega⟩
        · rw [hqv, hpw, ← Nat.mul_assoc, Nat.mul_comm Qj 2]
        · rw [hx0, hdiv]
          have : 2 * Qj * n = 2 * (Qj * n) := Nat.mul_assoc _ _ _
          omega
        · have := htb' b hb
          have := hext.size
          omega
        · have h1 := htb' b hb
          have h2 := hqlt b he.symm
          omega
    · simp only [ge_iff_le, decide_eq_false_iff_not] at hlt
      have hj0 : j = 0 := by omega
      subst hj0
      rw [Nat.pow_zero, Nat.div_one] at hdiv
      rw [Nat.pow_zero, Nat.mul_one] at hqv
      have hq : m / n = Qj ∧ m % n = rv := by
        have h0 : 0 < n := by omega
        constructor
        · rw [hdiv, Nat.mul_comm, Nat.mul_add_div h0, Nat.div_eq_of_lt hrn, Nat.add_zero]
        · rw [hdiv, Nat.mul_comm, Nat.mul_add_mod, Nat.mod_eq_of_lt hrn]
      rw [hq.1, hq.2] at K
      refine trim_nn ⟨qs, hoq.r, hql2, hqv, by omega⟩ fun q' hq' hqb' _ => K q' r h1 hq' hr hext (fun b hb => ?_) (fun b hb => (hrb b hb).1)
      rw [hqb'] at hb
      exact hoq.lt hb
  refine seq.dup ⟨fun h1 => ?_, fun h1 => ?_⟩
  · simp only [decide_eq_true_eq] at h1
    refine ⟨fun h2 => ?_, fun h2 => ?_⟩
    · simp only [decide_eq_true_eq] at h2
      exact fast h1 h2
    · exact slow
  · exact ⟨nofun, fun _ => slow⟩
end Go.Sh
