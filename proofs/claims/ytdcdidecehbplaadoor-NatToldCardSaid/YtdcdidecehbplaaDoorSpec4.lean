/- Laws that the proof of this claim's statement leans on, each proved under the conditions that it states. -/
import Derived.Test.YtdcdidecehbplaaDoorSpec3
set_option linter.unusedVariables false
set_option linter.unusedSimpArgs false
namespace Go.Sh
open Go Go.Lift

theorem or_add {k A b : Nat} (hb : b < 2 ^ k) : A * 2 ^ k ||| b = A * 2 ^ k + b := by
  have := Nat.shiftLeft_add_eq_or_of_lt hb A
  rw [Nat.shiftLeft_eq] at this
  exact this.symm
theorem or64 {p q : Nat} (hp : p < 18446744073709551616) (hq : q < 18446744073709551616) : ((BitVec.ofInt (IntKind.bits .u64) (p : Int) ||| BitVec.ofInt (IntKind.bits .u64) (q : Int)).toNat : Int) = ((p ||| q : Nat) : Int) := by
  show ((BitVec.ofInt 64 (p : Int) ||| BitVec.ofInt 64 (q : Int)).toNat : Int) = _
  rw [BitVec.toNat_or, BitVec.toNat_ofInt, BitVec.toNat_ofInt]
  congr 2 <;> omega
theorem or32 {p q : Nat} (hp : p < 4294967296) (hq : q < 4294967296) : ((BitVec.ofInt (IntKind.bits .u32) (p : Int) ||| BitVec.ofInt (IntKind.bits .u32) (q : Int)).toNat : Int) = ((p ||| q : Nat) : Int) := by
  show ((BitVec.ofInt 32 (p : Int) ||| BitVec.ofInt 32 (q : Int)).toNat : Int) = _
  rw [BitVec.toNat_or, BitVec.toNat_ofInt, BitVec.toNat_ofInt]
  congr 2 <;> omega
theorem and32u1 {p : Nat} (hp : p < 4294967296) : ((BitVec.ofInt (IntKind.bits .u32) (p : Int) &&& BitVec.ofInt (IntKind.bits .u32) 1).toNat : Int) = ((p % 2 : Nat) : Int) := by
  show ((BitVec.ofInt 32 (p : Int) &&& BitVec.ofInt 32 1).toNat : Int) = _
  rw [BitVec.toNat_and, BitVec.toNat_ofInt, BitVec.toNat_ofInt]
  have h1 : ((p : Int) % ((2 ^ 32 : Nat) : Int)).toNat = p := by omega
  have h2 : ((1 : Int) % ((2 ^ 32 : Nat) : Int)).toNat = 1 := by decide
  rw [h1, h2, Nat.and_one_is_mod]

/-- A row made of numbers. -/
theorem newN {kd : IntKind} {cs : List Value} {ms : List Nat} {h : Heap} {k : Addr → Heap → Prop} (hcs : cs = ms.map (fun n : Nat => Value.int kd (n : Int)))
    (K : ∀ h', OwnI kd h.size h' ⟨some ⟨h.size, 0, none⟩, ms.length, ms.length⟩ ms → Ext h h' → h'.size = h.size + 1 → k ⟨h.size, 0, none⟩ h') : new cs h k := by
  intro T
  exact K _ (Own.new hcs) (Ext.push _ _) (by simp)

theorem Of_spec {n : Int} {m : Nat} {h : Heap} {Q : Sl → Heap → Prop} (hn : n = (m : Int)) (hm : m < 18446744073709551616)
    (K : ∀ r h', NN h' r m → Ext h h' → (∀ b, r.blk = some b → h.size ≤ b ∧ b < h'.size) → Q r h') : nat_Of n h Q := by
  subst hn
  unfold nat_Of
  have hs : Int.fdiv (m : Int) (2 ^ (min (Int.toNat 32) (IntKind.bits .u64))) = ((m / 4294967296 : Nat) : Int) := by
    show Int.fdiv _ 4294967296 = _
    rw [Int.fdiv_eq_ediv_of_nonneg _ (by omega)]
    omega
  rw [hs]
  refine newN (kd := .u32) (ms := [m % 4294967296, m / 4294967296]) ?_ fun h1 ho he hsz => ?_
  · simp only [List.map_cons, List.map_nil, wu32m]
    congr 2
    · congr 2
      omega
  refine trim_nn (n := m) ⟨_, ho.r, ?_, ?_, by simp⟩ fun r hr hblk _ => K r h1 hr he (fun b hb => ?_)
  · intro z hz
    simp at hz
    omega
  · simp only [val]
    omega
  · rw [hblk] at hb
    simp [Sl.blk] at hb
    omega

theorem small_spec {x : Sl} {n : Nat} {h : Heap} {Q : (Int × Bool) → Heap → Prop} (hx : NV h x n)
    (K : ∀ v : Nat, v < 18446744073709551616 → (nl n ≤ 2 → v = n) → Q ((v : Int), decide (nl n ≤ 2)) h) : nat_small x h Q := by
  unfold nat_small
  refine trim_nn hx fun v hv _ _ => ?_
  have hnl := hv.nl
  obtain ⟨xs, x1, x2, x3, x4, x5⟩ := hv
  have lx := x1.len
  rintro i rfl
  rw [w64 (by omega) (by omega)]
  refine loop.inv (fun s h' => h' = h ∧ ∃ (u j : Nat), s.1 = (u : Int) ∧ s.2 = (j : Int) - 1 ∧ j ≤ xs.length ∧ u < 18446744073709551616 ∧ (xs.length ≤ 2 → u = val 4294967296 (xs.drop j))) (fun s _ => (s.2 + 1).toNat)
    ⟨rfl, 0, xs.length, rfl, by omega, by omega, by decide, by simp [val]⟩ ?_
  rintro ⟨u', j'⟩ h' ⟨rfl, u, j, hu, hj, hjl, hub, hval⟩
  simp only at hu hj
  subst hu hj
  dsimp only
  refine ⟨fun hge => ?_, fun hlt => ?_⟩
  · simp only [ge_iff_le, decide_eq_true_eq] at hge
    have hj1 : j - 1 < xs.length := by omega
    refine RI.ld x1 (j := j - 1) (by omega) hj1 ?_
    have hxj := x2.get hj1
    have hdrop := val_drop (b := 4294967296) xs (j - 1) hj1
    rw [show j - 1 + 1 = j from by omega] at hdrop
    generalize hxe : xs[j - 1] = xj at *
    have hsh : IntKind.wrap .u64 ((u : Int) * 2 ^ (min (Int.toNat 32) (IntKind.bits .u64))) = ((u % 4294967296 * 2 ^ 32 : Nat) : Int) := by
      show ((u : Int) * 4294967296) % 18446744073709551616 = _
      omega
    rw [hsh, wu64 (n := (xj : Int)) (by omega) (by omega), or64 (by omega) (by omega), or_add (by omega), wu64 (by omega) (by omega)]
    rintro n' rfl i' rfl
    rw [w64 (by omega) (by omega)]
    refine ⟨⟨rfl, u % 4294967296 * 2 ^ 32 + xj, j - 1, rfl, by omega, by omega, by omega, fun hl2 => ?_⟩, by omega⟩
    have hu2 := hval hl2
    have hlt2 : val 4294967296 (xs.drop j) < 4294967296 := by
      have h1 := val_lt (b := 4294967296) (xs := xs.drop j) (fun z hz => x2 z (List.mem_of_mem_drop hz))
      have h2 : 4294967296 ^ (xs.drop j).length ≤ 4294967296 ^ 1 := Nat.pow_le_pow_right (by decide) (by simp; omega)
      omega
    rw [hdrop]
    omega
  · simp only [ge_iff_le, decide_eq_false_iff_not] at hlt
    have hj0 : j = 0 := by omega
    subst hj0
    rintro ok rfl
    have : decide ((v.len : Int) ≤ 2) = decide (nl n ≤ 2) := by rw [hnl]; exact decide_eq_decide.2 (by omega)
    rw [this]
    refine K u hub fun h2 => ?_
    have := hval (by omega)
    simpa [x3, x4] using this

def cmpI (m n : Nat) : Int := if m < n then -1 else if m = n then 0 else 1
theorem sign_spec {n : Int} {h : Heap} {Q : Int → Heap → Prop} (K : Q (if n < 0 then -1 else if n = 0 then 0 else 1) h) : nat_sign n h Q := by
  unfold nat_sign
  have : (if (-1) > (if 1 < n then 1 else n) then (-1) else (if 1 < n then 1 else n)) = (if n < 0 then -1 else if n = 0 then 0 else 1) := by
    repeat' split
    all_goals omega
  rw [this]; exact K

theorem Cmp_spec {x y : Sl} {m n : Nat} {h : Heap} {Q : Int → Heap → Prop} (hx : NV h x m) (hy : NV h y n) (K : Q (cmpI m n) h) : nat_Cmp x y h Q := by
  unfold nat_Cmp
  refine trim_nn hx fun v hv _ _ => trim_nn hy fun w hw _ _ => ?_
  obtain ⟨xs, x1, x2, x3, x4, x5⟩ := hv
  obtain ⟨ys, y1, y2, y3, y4, y5⟩ := hw
  have lx := x1.len
  have ly := y1.len
  have short : ∀ {as bs : List Nat}, Lim 4294967296 as → Lim 4294967296 bs → Nrm bs → as.length < bs.length → val 4294967296 as < val 4294967296 bs := by
    intro as bs ha hb hn hl
    have h1 := val_lt ha
    have h2 := val_ge (b := 4294967296) (by decide) hn (by intro h; subst h; simp at hl)
    have h3 : 4294967296 ^ as.length ≤ 4294967296 ^ (bs.length - 1) := Nat.pow_le_pow_right (by decide) (by omega)
    omega
  refine ⟨fun hne => ?_, fun heq => ?_⟩
  · simp only [bne_iff_ne, ne_eq] at hne
    rw [w64 (by omega) (by omega)]
    refine sign_spec ?_
    have : (if (v.len : Int) - (w.len : Int) < 0 then (-1 : Int) else if (v.len : Int) - (w.len : Int) = 0 then 0 else 1) = cmpI m n := by
      unfold cmpI
      by_cases hl : xs.length < ys.length
      · have := short x2 y2 y3 hl
        rw [x4, y4] at this
        rw [if_pos (by omega), if_pos this]
      · have := short y2 x2 x3 (by omega)
        rw [x4, y4] at this
        rw [if_neg (by omega), if_neg (by omega), if_neg (by omega), if_neg (by omega)]
    rw [this]; exact K
  · have hle : xs.length = ys.length := by simp at heq; omega
    rintro i rfl
    rw [w64 (by omega) (by omega)]
    refine loop.inv (fun s h' => h' = h ∧ ∃ j : Nat, s = (j : Int) - 1 ∧ j ≤ xs.length ∧ xs.drop j = ys.drop j) (fun s _ => (s + 1).toNat) ⟨rfl, xs.length, by omega, by omega, by rw [List.drop_length, hle, List.drop_length]⟩ ?_
    rintro s h' ⟨rfl, j, rfl, hjl, hd⟩
    refine ⟨fun hge => ?_, fun hlt => ?_⟩
    · simp only [ge_iff_le, decide_eq_true_eq] at hge
      have hj1 : j - 1 < xs.length := by omega
      have hj2 : j - 1 < ys.length := by omega
      refine RI.ld x1 (j := j - 1) (by omega) hj1 (RI.ld y1 (j := j - 1) (by omega) hj2 ?_)
      have dx := val_drop (b := 4294967296) xs (j - 1) hj1
      have dy := val_drop (b := 4294967296) ys (j - 1) hj2
      have tx := val_take_add (b := 4294967296) xs (j - 1)
      have ty := val_take_add (b := 4294967296) ys (j - 1)
      rw [show j - 1 + 1 = j from by omega] at dx dy
      rw [Nat.min_eq_left (by omega)] at tx ty
      have bx := val_lt (x2.take (j - 1))
      have by' := val_lt (y2.take (j - 1))
      rw [List.length_take, Nat.min_eq_left (by omega)] at bx by'
      have gx := x2.get hj1
      have gy := y2.get hj2
      refine ⟨fun hne => ?_, fun heq => ?_⟩
      · simp only [bne_iff_ne, ne_eq] at hne
        refine RI.ld x1 (j := j - 1) (by omega) hj1 (RI.ld y1 (j := j - 1) (by omega) hj2 ?_)
        generalize hxe : xs[j - 1] = xj at *
        generalize hye : ys[j - 1] = yj at *
        rw [w64 (n := (xj : Int)) (by omega) (by omega), w64 (n := (yj : Int)) (by omega) (by omega), w64 (by omega) (by omega)]
        refine sign_spec ?_
        have key : ∀ {a b p q A C : Nat}, a < A → b < A → p < q → a + A * (p + C) < b + A * (q + C) := by
          intro a b p q A C h1 h2 h3
          have : A * (p + C + 1) ≤ A * (q + C) := Nat.mul_le_mul_left _ (by omega)
          rw [Nat.mul_add A (p + C) 1] at this
          omega
        rw [hd] at dx
        rw [dx] at tx
        rw [dy] at ty
        have : (if (xj : Int) - (yj : Int) < 0 then (-1 : Int) else if (xj : Int) - (yj : Int) = 0 then 0 else 1) = cmpI m n := by
          unfold cmpI
          by_cases hl : xj < yj
          · have h1 := key (C := 4294967296 * val 4294967296 (ys.drop j)) bx by' hl
            rw [← tx, ← ty, x4, y4] at h1
            rw [if_pos (by omega), if_pos h1]
          · have h1 := key (p := yj) (q := xj) (C := 4294967296 * val 4294967296 (ys.drop j)) by' bx (by omega)
            rw [← tx, ← ty, x4, y4] at h1
            rw [if_neg (by omega), if_neg (by omega), if_neg (by omega), if_neg (by omega)]
        rw [this]; exact K
      · simp only [bne_eq_false_iff_eq] at heq
        rintro i' rfl
        rw [w64 (by omega) (by omega)]
        refine ⟨⟨rfl, j - 1, by omega, by omega, ?_⟩, by omega⟩
        rw [List.drop_eq_getElem_cons hj1, List.drop_eq_getElem_cons hj2, show j - 1 + 1 = j from by omega, hd]
        congr 1
        omega
    · simp only [ge_iff_le, decide_eq_false_iff_not] at hlt
      have hj0 : j = 0 := by omega
      subst hj0
      simp only [List.drop_zero] at hd
      subst hd
      have : cmpI m n = 0 := by
        unfold cmpI
        rw [← x4, ← y4]
        simp
      rw [this] at K; exact K
end Go.Sh
