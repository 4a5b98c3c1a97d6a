/- Laws that the proof of this claim's statement leans on, each proved under the conditions that it states. -/
import Derived.Test.YtdcdidecehbplaaDoorLiftWrap
import Derived.Test.YtdcdidecehbplaaDoorAOSh
set_option linter.unusedVariables false
set_option linter.unusedSimpArgs false
namespace Go.Sh
open Go Go.Lift



/-- A number in limbs, somehow. -/
def NV (h : Heap) (s : Sl) (n : Nat) : Prop := ∃ xs, RI .u32 h s xs ∧ Lim 4294967296 xs ∧ val 4294967296 xs = n ∧ xs.length ≤ 1048576
/-- A number in its one form. -/
def NN (h : Heap) (s : Sl) (n : Nat) : Prop := ∃ xs, RI .u32 h s xs ∧ Lim 4294967296 xs ∧ Nrm xs ∧ val 4294967296 xs = n ∧ xs.length ≤ 1048576

theorem trim_spec {x : Sl} {xs : List Nat} {h : Heap} {Q : Sl → Heap → Prop} (hx : RI .u32 h x xs) (hb : xs.length ≤ 1048576)
    (K : ∀ r ys, RI .u32 h r ys → ys = xs.take ys.length → Nrm ys → val 4294967296 ys = val 4294967296 xs → r.blk = x.blk → Q r h) : nat_trim x h Q := by
  unfold nat_trim
  refine loop.inv (fun s h' => h' = h ∧ ∃ ys, RI .u32 h s ys ∧ ys = xs.take ys.length ∧ val 4294967296 ys = val 4294967296 xs ∧ s.blk = x.blk) (fun s _ => s.len) ⟨rfl, xs, hx, by simp, rfl, rfl⟩ ?_
  rintro s h' ⟨rfl, ys, hr, hpre, hv, hblk⟩
  have hl := hr.len
  have hle : ys.length ≤ xs.length := by
    have := congrArg List.length hpre
    simp at this; omega
  refine seq.dup ⟨fun hc => ?_, fun hc => ?_⟩
  · simp only [decide_eq_true_eq] at hc
    have hpos : 0 < ys.length := by omega
    rw [w64 (by omega) (by omega)]
    refine hr.ld (j := ys.length - 1) (by omega) (by omega) ?_
    refine ⟨fun hz => ?_, fun hz => ?_⟩
    · simp only [beq_iff_eq] at hz
      refine hr.take (by omega) (by omega) fun s' hr' hblk' _ hl' => ⟨⟨rfl, _, hr', ?_, ?_, hblk'.trans hblk⟩, ?_⟩
      · have : ((s.len : Int) - 1).toNat = ys.length - 1 := by omega
        rw [this]
        conv => lhs; rw [hpre]
        rw [List.take_take]
        simp
        omega
      · have : ((s.len : Int) - 1).toNat = ys.length - 1 := by omega
        rw [this, ← hv]
        refine val_take_zero (List.length_pos_iff.1 hpos) ?_
        rw [List.getLast?_eq_getElem?, List.getElem?_eq_getElem (by omega)]
        congr 1
        omega
      · have := hr'.len
        simp at this
        omega
    · simp only [beq_eq_false_iff_ne, ne_eq] at hz
      refine K s ys hr hpre ?_ hv hblk
      unfold Nrm
      rw [List.getLast?_eq_getElem?, List.getElem?_eq_getElem (by omega)]
      intro hc2
      simp only [Option.some.injEq] at hc2
      exact hz (by omega)
  · refine ⟨nofun, fun _ => ?_⟩
    simp only [decide_eq_false_iff_not] at hc
    refine K s ys hr hpre ?_ hv hblk
    have : ys = [] := List.eq_nil_of_length_eq_zero (by omega)
    subst this
    exact Nrm.nil
end Go.Sh
namespace Go.Sh
open Go Go.Lift

theorem NN.nv {h : Heap} {s : Sl} {n : Nat} (hn : NN h s n) : NV h s n := by
  obtain ⟨xs, h1, h2, _, h3, h4⟩ := hn
  exact ⟨xs, h1, h2, h3, h4⟩
theorem NN.ext {h h' : Heap} {s : Sl} {n : Nat} (hn : NN h s n) (k : Ext h h') : NN h' s n := by
  obtain ⟨xs, h1, h2⟩ := hn
  exact ⟨xs, h1.ext k, h2⟩
theorem NV.ext {h h' : Heap} {s : Sl} {n : Nat} (hn : NV h s n) (k : Ext h h') : NV h' s n := by
  obtain ⟨xs, h1, h2⟩ := hn
  exact ⟨xs, h1.ext k, h2⟩
theorem NN.keep {h h' : Heap} {s : Sl} {n b : Nat} (hn : NN h s n) (k : Keep (some b) h h') (hne : s.blk ≠ some b) : NN h' s n := by
  obtain ⟨xs, h1, h2⟩ := hn
  exact ⟨xs, h1.keep k (fun a ha => by simp [Sl.blk, ha] at hne; simpa using hne), h2⟩
theorem NV.keep {h h' : Heap} {s : Sl} {n b : Nat} (hn : NV h s n) (k : Keep (some b) h h') (hne : s.blk ≠ some b) : NV h' s n := by
  obtain ⟨xs, h1, h2⟩ := hn
  exact ⟨xs, h1.keep k (fun a ha => by simp [Sl.blk, ha] at hne; simpa using hne), h2⟩
theorem NN.keep' {h h' : Heap} {s : Sl} {n b : Nat} (hn : NN h s n) (k : Keep (some b) h h') (hne : s.blk = some b → n = 0) : NN h' s n := by
  obtain ⟨xs, h1, h2, h3, h4, h5⟩ := hn
  refine ⟨xs, h1.keepB k (fun a ha hx e => ?_), h2, h3, h4, h5⟩
  have := hne (by simp [Sl.blk, ha, e])
  subst this
  exact hx (val_zero (by decide) h3 h4)
theorem NN.len_eq {h h' : Heap} {s t : Sl} {n : Nat} (hs : NN h s n) (ht : NN h' t n) : s.len = t.len := by
  obtain ⟨xs, h1, h2, h3, h4, _⟩ := hs
  obtain ⟨ys, k1, k2, k3, k4, _⟩ := ht
  have := val_inj (by decide) h2 k2 h3 k3 (by rw [h4, k4])
  subst this
  rw [h1.len, k1.len]
theorem NN.len_zero {h : Heap} {s : Sl} {n : Nat} (hs : NN h s n) : s.len = 0 ↔ n = 0 := by
  obtain ⟨xs, h1, h2, h3, h4, _⟩ := hs
  rw [h1.len]
  constructor
  · intro h; have := List.eq_nil_of_length_eq_zero h; subst this; exact h4.symm
  · intro h; subst h; rw [val_zero (by decide) h3 h4]; rfl
theorem NN.nil {h : Heap} : NN h Sl.nil 0 := ⟨[], R.nil, Lim.nil, Nrm.nil, rfl, by simp⟩
theorem NV.nil {h : Heap} : NV h Sl.nil 0 := NN.nil.nv

theorem trim_nn {x : Sl} {n : Nat} {h : Heap} {Q : Sl → Heap → Prop} (hx : NV h x n)
    (K : ∀ r, NN h r n → (r.blk = x.blk) → r.len ≤ x.len → Q r h) : nat_trim x h Q := by
  obtain ⟨xs, h1, h2, h3, h4⟩ := hx
  refine trim_spec h1 h4 fun r ys hr hpre hn hv hblk => K r ⟨ys, hr, ?_, hn, hv.trans h3, ?_⟩ hblk ?_
  · rw [hpre]; exact h2.take _
  · have := congrArg List.length hpre; simp at this; omega
  · rw [hr.len, h1.len]
    have := congrArg List.length hpre; simp at this; omega

theorem val_take_getD {b : Nat} (xs : List Nat) (i : Nat) : val b (xs.take (i + 1)) = val b (xs.take i) + b ^ i * xs.getD i 0 := by
  by_cases h : i < xs.length
  · rw [val_take_succ xs i h]; simp [h]
  · rw [List.take_of_length_le (by omega), List.take_of_length_le (by omega)]
    simp [List.getElem?_eq_none (Nat.le_of_not_lt h)]
theorem Lim.getD {b : Nat} {xs : List Nat} (h : Lim b xs) (hb : 0 < b) (i : Nat) : xs.getD i 0 < b := by
  by_cases hi : i < xs.length
  · simp [hi]; exact h.get hi
  · simp [List.getElem?_eq_none (Nat.le_of_not_lt hi)]; exact hb

/-- A cell of one's own for a number that is handed on. -/
theorem new1 {kd : IntKind} {n : Int} {m : Nat} {h : Heap} {k : Addr → Heap → Prop} (hn : n = (m : Int))
    (K : ∀ h', RI kd h' ⟨some ⟨h.size, 0, none⟩, 1, 1⟩ [m] → Ext h h' → h'.size = h.size + 1 → k ⟨h.size, 0, none⟩ h') : new [Value.int kd n] h k := by
  subst hn
  intro T
  refine K _ ?_ (Ext.push _ _) (by simp)
  exact (Own.new (toV := fun n : Nat => Value.int kd (n : Int)) (ys := [m]) (h := h) (T := T) (cs := [Value.int kd (m : Int)]) rfl).r

/-- append of one number that has just been made. -/
theorem app1 {kd : IntKind} {bytes B : Nat} {n : Int} {m : Nat} {h : Heap} {s : Sl} {xs : List Nat} {k : Sl → Heap → Prop} (hn : n = (m : Int)) (ho : OwnI kd B h s xs) (hB : B ≤ h.size) (hb : (xs.length + 1) * bytes ≤ 2 ^ 46)
    (K : ∀ s' h', OwnI kd B h' s' (xs ++ [m]) → Keep s.blk h h' → h.size ≤ h'.size → k s' h') : new [Value.int kd n] h fun a h1 => appendS 1 bytes s (⟨some a, 1, 1⟩ : Sl) h1 k := by
  refine new1 hn fun h1 hr he hsz => ?_
  refine (ho.ext he).append (by have := he.size; omega) hr (one_int kd) (by simpa using hb) fun s' h' ho' hk _ => K s' h' ho' ?_ ?_
  · exact (Keep.of_ext he).trans hk
  · have := he.size; have := hk.size; omega
theorem Keep.own {kd : IntKind} {B : Nat} {h0 h h' : Heap} {s : Sl} {xs : List Nat} (he : Ext h0 h) (ho : OwnI kd B h s xs) (hB : h0.size ≤ B) (hk : Keep s.blk h h') : Ext h0 h' := by
  cases hb : s.blk with
  | none => rw [hb] at hk; exact he.trans hk
  | some b =>
    rw [hb] at hk
    exact he.fresh (by have := (ho.lt hb).1; omega) hk

/-- plus. -/
theorem plus_spec {x y : Sl} {m n : Nat} {h : Heap} {Q : Sl → Heap → Prop} (hx : NV h x m) (hy : NV h y n) (hxl : x.len ≤ 1048000) (hyl : y.len ≤ 1048000)
    (K : ∀ r h' zs, OwnI .u32 h.size h' r zs → Lim 4294967296 zs → val 4294967296 zs = m + n → zs.length = max x.len y.len + 1 → Ext h h' → Q r h') : nat_plus x y h Q := by
  obtain ⟨xs, x1, x2, x3, x4⟩ := hx
  obtain ⟨ys, y1, y2, y3, y4⟩ := hy
  have lx := x1.len
  have ly := y1.len
  unfold nat_plus
  have hmax : (if (y.len : Int) > (x.len : Int) then (y.len : Int) else (x.len : Int)) = ((max xs.length ys.length : Nat) : Int) := by
    split <;> omega
  simp only [hmax]
  refine loop.inv (fun s h' => ∃ (zs : List Nat) (c i : Nat), s.2.1 = (c : Int) ∧ s.2.2 = (i : Int) ∧ OwnI .u32 h.size h' s.1 zs ∧ Lim 4294967296 zs ∧ zs.length = i ∧ i ≤ max xs.length ys.length ∧ c ≤ 1 ∧
      val 4294967296 zs + 4294967296 ^ i * c = val 4294967296 (xs.take i) + val 4294967296 (ys.take i) ∧ Ext h h') (fun s _ => max xs.length ys.length - s.2.2.toNat) ⟨[], 0, 0, rfl, rfl, Own.nil, Lim.nil, rfl, by omega, by omega, by simp [val], Keep.refl _ _⟩ ?_
  rintro ⟨out, carry, i'⟩ h' ⟨zs, c, i, hcc, hii, hown, hlim, hzl, hile, hc1, hval, hext⟩
  simp only at hcc hii hown
  subst hcc hii
  dsimp only
  refine ⟨fun hlt => ?_, fun hge => ?_⟩
  · simp only [decide_eq_true_eq] at hlt
    have hilt : i < max xs.length ys.length := by omega
    have x1' := x1.ext hext
    have y1' := y1.ext hext
    have gx := Lim.getD x2 (by decide) i
    have gy := Lim.getD y2 (by decide) i
    refine loop.inv (fun s h'' => h'' = h' ∧ ((s.2 = 0 ∧ s.1 = (c : Int)) ∨ (s.2 = 1 ∧ s.1 = ((c + xs.getD i 0 : Nat) : Int)) ∨ (s.2 = 2 ∧ s.1 = ((c + xs.getD i 0 + ys.getD i 0 : Nat) : Int)))) (fun s _ => 2 - s.2.toNat) ⟨rfl, .inl ⟨rfl, rfl⟩⟩ ?_
    rintro ⟨cc, j⟩ h'' ⟨rfl, hj⟩
    simp only at hj
    -- one of the two
    have one : ∀ (v : Sl) (vs : List Nat), RI .u32 h'' v vs → Lim 4294967296 vs → ∀ (c0 : Nat), c0 < 8589934592 → cc = (c0 : Int) → ∀ K2 : Int → Heap → Prop, K2 ((c0 + vs.getD i 0 : Nat) : Int) h'' →
        iteB (decide ((i : Int) < ((v.len : Nat) : Int))) (idxS v (i : Int) 1 fun a => Lift.load (Value.int .u32) a h'' fun v_1 => Let (IntKind.wrap .u64 (cc + IntKind.wrap .u64 v_1)) fun carry => K2 carry h'') (K2 cc h'') := by
      intro v vs hv hl c0 hc0 hcc K2 hK
      have hvl := hv.len
      subst hcc
      refine ⟨fun hlt => ?_, fun hge => ?_⟩
      · simp only [decide_eq_true_eq] at hlt
        have hi : i < vs.length := by omega
        refine hv.ld (j := i) rfl hi ?_
        rintro z rfl
        have hg := hl.get hi
        rw [wu64 (n := (vs[i] : Int)) (by omega) (by omega), wu64 (by omega) (by omega)]
        have : vs.getD i 0 = vs[i] := by simp [hi]
        rw [this] at hK
        simpa using hK
      · simp only [decide_eq_false_iff_not] at hge
        have hi : ¬ i < vs.length := by omega
        have : vs.getD i 0 = 0 := by simp [List.getElem?_eq_none (Nat.le_of_not_lt hi)]
        rw [this] at hK
        exact hK
    refine ⟨fun hlt2 => ?_, fun hge2 => ?_⟩
    · simp only [decide_eq_true_eq] at hlt2
      refine seq.dup ?_
      rcases hj with ⟨rfl, hcv⟩ | ⟨rfl, hcv⟩ | ⟨rfl, _⟩
      · refine ⟨⟨by omega, by omega⟩, x, rfl, ?_⟩
        refine one x xs x1' x2 c (by omega) hcv _ ⟨⟨rfl, .inr (.inl ⟨rfl, rfl⟩)⟩, ?_⟩
        simp only [w64 (n := 0 + 1) (by omega) (by omega)]
        omega
      · refine ⟨⟨by omega, by omega⟩, y, rfl, ?_⟩
        refine one y ys y1' y2 (c + xs.getD i 0) (by omega) hcv _ ⟨⟨rfl, .inr (.inr ⟨rfl, rfl⟩)⟩, ?_⟩
        simp only [w64 (n := 1 + 1) (by omega) (by omega)]
        omega
      · exact absurd hlt2 (by decide)
    · simp only [decide_eq_false_iff_not] at hge2
      have hcv : cc = ((c + xs.getD i 0 + ys.getD i 0 : Nat) : Int) := by
        rcases hj with ⟨rfl, _⟩ | ⟨rfl, _⟩ | ⟨_, h⟩
        · exact absurd (by decide) hge2
        · exact absurd (by decide) hge2
        · exact h
      subst hcv
      generalize hsum : c + xs.getD i 0 + ys.getD i 0 = t at *
      have ht : t < 2 * 4294967296 := by omega
      refine app1 (m := t % 4294967296) (by rw [wu32m]; omega) hown hext.size (by omega) fun s' h2 ho2 hk2 _ => ?_
      rintro cq rfl
      have hcq : Int.fdiv (t : Int) (2 ^ (min (Int.toNat 32) (IntKind.bits .u64))) = ((t / 4294967296 : Nat) : Int) := by
        show Int.fdiv (t : Int) 4294967296 = _
        rw [Int.fdiv_eq_ediv_of_nonneg _ (by omega)]
        omega
      rw [hcq, w64 (by omega) (by omega)]
      refine ⟨⟨zs ++ [t % 4294967296], t / 4294967296, i + 1, rfl, by omega, ho2, hlim.snoc (Nat.mod_lt _ (by decide)), by simp [hzl], by omega, by omega, ?_, Keep.own hext hown (Nat.le_refl _) hk2⟩, by simp; omega⟩
      rw [val_snoc, hzl, val_take_getD, val_take_getD, Nat.pow_succ]
      have e1 : 4294967296 ^ i * (t % 4294967296) + 4294967296 ^ i * 4294967296 * (t / 4294967296) = 4294967296 ^ i * t := by
        rw [Nat.mul_assoc, ← Nat.mul_add, Nat.mod_add_div]
      have e2 : 4294967296 ^ i * t = 4294967296 ^ i * c + 4294967296 ^ i * xs.getD i 0 + 4294967296 ^ i * ys.getD i 0 := by
        rw [← hsum, Nat.mul_add, Nat.mul_add]
      omega
  · simp only [decide_eq_false_iff_not] at hge
    have hi : i = max xs.length ys.length := by omega
    refine app1 (m := c) (by rw [wu32m]; omega) hown hext.size (by omega) fun s' h2 ho2 hk2 _ => ?_
    refine K s' h2 _ ho2 (hlim.snoc (by omega)) ?_ (by simp [hzl, lx, ly, hi]) (Keep.own hext hown (Nat.le_refl _) hk2)
    rw [val_snoc, hzl, hval, take_all_val _ _ (by omega), take_all_val _ _ (by omega), x3, y3]
end Go.Sh
