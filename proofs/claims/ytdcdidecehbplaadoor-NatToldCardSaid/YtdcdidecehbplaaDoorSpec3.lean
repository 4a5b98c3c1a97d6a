/- Laws that the proof of this claim's statement leans on, each proved under the conditions that it states. -/
import Derived.Test.YtdcdidecehbplaaDoorSpec2
set_option linter.unusedVariables false
set_option linter.unusedSimpArgs false
namespace Go.Sh
open Go Go.Lift

/-- A row made of noughts. -/
theorem mk_spec {kd : IntKind} {bytes : Nat} {len : Int} {m : Nat} {h : Heap} {k : Sl → Heap → Prop} (hl : len = (m : Int)) (hb : m * bytes ≤ 2 ^ 46)
    (K : ∀ s h', OwnI kd h.size h' s (List.replicate m 0) → Ext h h' → s.len = m → k s h') : mkS [Value.int kd 0] bytes len len h k := by
  subst hl
  refine ⟨⟨by omega, by omega, ?_⟩, fun T => ?_⟩
  · have : (m : Int) * (bytes : Int) = ((m * bytes : Nat) : Int) := by simp
    rw [this]
    exact_mod_cast hb
  · have hf : List.flatten (List.replicate (m : Int).toNat [Value.int kd 0]) = (List.replicate m 0).map (fun n : Nat => Value.int kd (n : Int)) := by
      rw [Int.toNat_natCast]
      clear hb K
      induction m with
      | zero => rfl
      | succ m ih => simp only [List.replicate_succ, List.flatten_cons, ih, List.map_cons]; rfl
    rw [hf]
    refine K _ _ ?_ (Ext.push _ _) (by simp)
    have := Own.new (toV := fun n : Nat => Value.int kd (n : Int)) (ys := List.replicate m 0) (h := h) (T := T) (cs := (List.replicate m 0).map (fun n : Nat => Value.int kd (n : Int))) rfl
    simpa using this

/-- Where a number of one's own lies, to be stored into. -/
theorem Own.st {kd : IntKind} {B : Nat} {h : Heap} {s : Sl} {xs : List Nat} (ho : OwnI kd B h s xs) {i n : Int} {j m : Nat} {k : Heap → Prop} (hij : i = (j : Int)) (hj : j < xs.length) (hn : n = (m : Int))
    (K : ∀ h', OwnI kd B h' s (xs.set j m) → Keep s.blk h h' → h'.size = h.size → k h') : idxS s i 1 fun a => Lift.store a (Value.int kd n) h k := by
  subst hij hn
  obtain ⟨a, ha, _⟩ := ho.r.get hj
  have := ho.r.len
  refine ⟨a, ha, ⟨by omega, by omega⟩, ?_⟩
  simp only [Int.toNat_natCast, Nat.mul_one]
  exact Own.store ho hj ha m K

theorem times_spec {x y : Sl} {m n : Nat} {h : Heap} {Q : Sl → Heap → Prop} (hx : NV h x m) (hy : NV h y n) (hxl : x.len ≤ 400000) (hyl : y.len ≤ 400000)
    (K : ∀ r h' zs, OwnI .u32 h.size h' r zs → Lim 4294967296 zs → val 4294967296 zs = m * n → zs.length = x.len + y.len → Ext h h' → Q r h') : nat_times x y h Q := by
  obtain ⟨xs, x1, x2, x3, x4⟩ := hx
  obtain ⟨ys, y1, y2, y3, y4⟩ := hy
  have lx := x1.len
  have ly := y1.len
  unfold nat_times
  rintro t15 rfl
  rw [w64 (by omega) (by omega)]
  refine mk_spec (m := xs.length + ys.length) (by omega) (by omega) fun v h0 ho0 he0 hvl => ?_
  refine loop.inv (fun s h' => ∃ (zs : List Nat) (i : Nat), s = (i : Int) ∧ OwnI .u32 h.size h' v zs ∧ Lim 4294967296 zs ∧ zs.length = xs.length + ys.length ∧ i ≤ xs.length ∧
      val 4294967296 zs = val 4294967296 (xs.take i) * n ∧ (∀ j, i + ys.length ≤ j → zs.getD j 0 = 0) ∧ Ext h h') (fun s _ => xs.length - s.toNat)
    ⟨List.replicate (xs.length + ys.length) 0, 0, rfl, ho0, fun z hz => by rw [List.eq_of_mem_replicate hz]; decide, by simp, by omega, by rw [val_replicate_zero]; simp [val], fun j _ => by simp only [List.getD_eq_getElem?_getD, List.getElem?_replicate]; split <;> rfl, he0⟩ ?_
  rintro s h1 ⟨zs, i, rfl, ho, hlim, hzl, hile, hval, hzero, hext⟩
  refine ⟨fun hlt => ?_, fun hge => ?_⟩
  · simp only [decide_eq_true_eq] at hlt
    have hi : i < xs.length := by omega
    refine RI.ld (x1.ext hext) (j := i) rfl hi ?_
    have hxi := x2.get hi
    generalize hxe : xs[i] = xi at *
    refine loop.inv (fun s h' => ∃ (zs' : List Nat) (c j : Nat), s.1 = (c : Int) ∧ s.2 = (j : Int) ∧ OwnI .u32 h.size h' v zs' ∧ Lim 4294967296 zs' ∧ zs'.length = xs.length + ys.length ∧ j ≤ ys.length ∧ c < 4294967296 ∧
        val 4294967296 zs' + 4294967296 ^ (i + j) * c = val 4294967296 zs + 4294967296 ^ i * (xi * val 4294967296 (ys.take j)) ∧ (∀ k, i + ys.length ≤ k → zs'.getD k 0 = 0) ∧ Ext h h') (fun s _ => ys.length - s.2.toNat)
      ⟨zs, 0, 0, rfl, rfl, ho, hlim, hzl, by omega, by decide, by simp [val], hzero, hext⟩ ?_
    rintro ⟨cc, jj⟩ h2 ⟨zs', c, j, hcc, hjj, ho', hlim', hzl', hjle, hc, hval', hzero', hext'⟩
    simp only at hcc hjj
    subst hcc hjj
    dsimp only
    refine ⟨fun hlt2 => ?_, fun hge2 => ?_⟩
    · simp only [decide_eq_true_eq] at hlt2
      have hj : j < ys.length := by omega
      refine RI.ld (y1.ext hext') (j := j) rfl hj ?_
      have hyj := y2.get hj
      have hsucc := val_take_succ (b := 4294967296) ys j hj
      generalize hye : ys[j] = yj at *
      have hij : i + j < zs'.length := by omega
      rw [w64 (n := (i : Int) + (j : Int)) (by omega) (by omega)]
      refine RI.ld ho'.r (j := i + j) (by omega) hij ?_
      have hzij := hlim'.get hij
      have hset := val_set (b := 4294967296) zs' (i + j) hij
      generalize hze : zs'[i + j] = zij at *
      have hprod : xi * yj ≤ 4294967295 * 4294967295 := Nat.mul_le_mul (by omega) (by omega)
      have hpc : ((xi * yj : Nat) : Int) = (xi : Int) * (yj : Int) := by simp
      rintro carry rfl
      rw [wu64 (n := (xi : Int)) (by omega) (by omega), wu64 (n := (yj : Int)) (by omega) (by omega), wu64 (n := (zij : Int)) (by omega) (by omega), ← hpc,
        wu64 (n := ((xi * yj : Nat) : Int)) (by omega) (by omega), wu64 (n := ((xi * yj : Nat) : Int) + (zij : Int)) (by omega) (by omega), wu64 (by omega) (by omega)]
      generalize hpe : xi * yj = pr at *
      refine Own.st ho' (j := i + j) (m := (c + (pr + zij)) % 4294967296) (by omega) hij (by rw [wu32m]; omega) fun h3 ho3 hk3 hs3 => ?_
      rintro cq rfl
      have hcq : Int.fdiv ((c : Int) + (((pr : Nat) : Int) + (zij : Int))) (2 ^ (min (Int.toNat 32) (IntKind.bits .u64))) = (((c + (pr + zij)) / 4294967296 : Nat) : Int) := by
        show Int.fdiv _ 4294967296 = _
        rw [Int.fdiv_eq_ediv_of_nonneg _ (by omega)]
        omega
      rw [hcq, w64 (by omega) (by omega)]
      refine ⟨⟨_, (c + (pr + zij)) / 4294967296, j + 1, rfl, by omega, ho3, hlim'.set _ (Nat.mod_lt _ (by decide)), by simpa using hzl', by omega, by omega, ?_, ?_, Keep.own hext' ho' (Nat.le_refl _) hk3⟩, by simp; omega⟩
      · have h1 := hset ((c + (pr + zij)) % 4294967296)
        rw [hsucc, show i + (j + 1) = (i + j) + 1 from by omega, Nat.pow_succ]
        have e1 : 4294967296 ^ (i + j) * ((c + (pr + zij)) % 4294967296) + 4294967296 ^ (i + j) * 4294967296 * ((c + (pr + zij)) / 4294967296) = 4294967296 ^ (i + j) * (c + (pr + zij)) := by
          rw [Nat.mul_assoc, ← Nat.mul_add, Nat.mod_add_div]
        have e2 : 4294967296 ^ (i + j) * (c + (pr + zij)) = 4294967296 ^ (i + j) * c + 4294967296 ^ (i + j) * pr + 4294967296 ^ (i + j) * zij := by
          rw [Nat.mul_add, Nat.mul_add, ← Nat.add_assoc]
        have e3 : 4294967296 ^ i * (xi * (val 4294967296 (List.take j ys) + 4294967296 ^ j * yj)) = 4294967296 ^ i * (xi * val 4294967296 (List.take j ys)) + 4294967296 ^ (i + j) * pr := by
          rw [Nat.mul_add, Nat.mul_add, Nat.pow_add, ← hpe]
          congr 1
          rw [Nat.mul_left_comm xi, Nat.mul_assoc]
        rw [e3]
        omega
      · intro k hk
        have := hzero' k hk
        rw [List.getD_eq_getElem?_getD] at this ⊢
        rw [List.getElem?_set_ne (by omega)]
        exact this
    · simp only [decide_eq_false_iff_not] at hge2
      have hj : j = ys.length := by omega
      subst hj
      have hil : i + ys.length < zs'.length := by omega
      rw [w64 (n := (i : Int) + (y.len : Int)) (by omega) (by omega)]
      refine Own.st ho' (j := i + ys.length) (m := c) (by omega) hil (by rw [wu32m]; omega) fun h3 ho3 hk3 hs3 => ?_
      rw [w64 (by omega) (by omega)]
      refine ⟨⟨_, i + 1, by omega, ho3, hlim'.set _ hc, by simpa using hzl', by omega, ?_, ?_, Keep.own hext' ho' (Nat.le_refl _) hk3⟩, by omega⟩
      · have h1 := val_set (b := 4294967296) zs' (i + ys.length) hil c
        have h0 : zs'[i + ys.length] = 0 := by
          have := hzero' (i + ys.length) (by omega)
          simpa [hil] using this
        rw [h0, Nat.mul_zero, Nat.add_zero] at h1
        rw [h1, hval', List.take_length, y3, hval, val_take_succ xs i hi, hxe, Nat.add_mul, Nat.mul_assoc]
      · intro k hk
        have := hzero' k (by omega)
        rw [List.getD_eq_getElem?_getD] at this ⊢
        rw [List.getElem?_set_ne (by omega)]
        exact this
  · simp only [decide_eq_false_iff_not] at hge
    have hi : i = xs.length := by omega
    subst hi
    rw [List.take_length, x3] at hval
    exact K v h1 zs ho hlim hval (by omega) hext

theorem Mul_spec {a : Addr} {lim : Nat} {ov : Bool} {x y : Sl} {m n : Nat} {h : Heap} {Q : Sl → Heap → Prop} (hb : Bench h a lim ov) (hx : NV h x m) (hy : NV h y n) (hxl : x.len ≤ 400000) (hyl : y.len ≤ 400000)
    (K : ∀ r h', Bench h' a lim (ov || decide (lim < nl (m * n))) → Keep (some a.block) h h' → ((ov || decide (lim < nl (m * n))) = false → NN h' r (m * n)) → ((ov || decide (lim < nl (m * n))) = true → r = Sl.nil) → (∀ b, r.blk = some b → h.size ≤ b) → Q r h') : nat_Bench_Mul (some a) x y h Q := by
  unfold nat_Bench_Mul
  refine trim_nn hx fun x' hx' _ hxl' => trim_nn hy fun y' hy' _ hyl' => ?_
  refine times_spec hx'.nv hy'.nv (by omega) (by omega) fun v h1 zs ho hlim hval hlen he => ?_
  refine fit_spec (hb.ext he) ⟨zs, ho.r, hlim, hval, by omega⟩ (fun hbl => ?_) fun r h2 hb2 hk h3 h4 h5 => K r h2 hb2 ((Keep.of_ext he).trans hk) h3 h4 (fun b hbb => Nat.le_trans he.size (h5 b hbb))
  have := (ho.lt hbl).1
  have := hb.lt
  omega
end Go.Sh
