/-
  Laws that the proof of this claim's statement leans on, each proved under the conditions that it states.
-/
import Derived.Test.YtmcfhickfcmkkaaGreatDoorFwE
import Derived.Test.YtmcfhickfcmkkaaGreatDoorSh
set_option linter.unusedVariables false
set_option linter.unusedSimpArgs false
namespace Go.Sh
open Go Go.Lift

def NV (h : Heap) (s : Sl) (n : Nat) : Prop := ∃ xs, RI .u32 h s xs ∧ Lim 4294967296 xs ∧ val 4294967296 xs = n ∧ xs.length ≤ 2200000
def NN (h : Heap) (s : Sl) (n : Nat) : Prop := ∃ xs, RI .u32 h s xs ∧ Lim 4294967296 xs ∧ Nrm xs ∧ val 4294967296 xs = n ∧ xs.length ≤ 2200000
theorem ac9 {x : Sl} {xs : List Nat} {h : Heap} {Q : Sl → Heap → Prop} (hx : RI .u32 h x xs) (hb : xs.length ≤ 2200000)
    (K : ∀ r ys, RI .u32 h r ys → ys = xs.take ys.length → Nrm ys → val 4294967296 ys = val 4294967296 xs → r.blk = x.blk → Q r h) : bZ x h Q := by
  unfold bZ
  refine loop.inv (fun s h' => h' = h ∧ ∃ ys, RI .u32 h s ys ∧ ys = xs.take ys.length ∧ val 4294967296 ys = val 4294967296 xs ∧ s.blk = x.blk) (fun s _ => s.len) ⟨rfl, xs, hx, by simp, rfl, rfl⟩ ?_
  rintro s h' ⟨rfl, ys, hr, hpre, hv, hblk⟩
  have hl := hr.len
  have hle : ys.length ≤ xs.length := by
    have := congrArg List.length hpre
    simp at this; omega
  refine seq.dup ⟨fun hc => ?_, fun hc => ?_⟩
  · simp only [decide_eq_true_eq] at hc
    have hpos : 0 < ys.length := by omega
    rw [w64 (by omega) (by omega)]
    refine hr.ld (j := ys.length - 1) (by omega) (by omega) ?_
    refine ⟨fun hz => ?_, fun hz => ?_⟩
    · simp only [beq_iff_eq] at hz
      refine hr.take (by omega) (by omega) fun s' hr' hblk' _ hl' => ⟨⟨rfl, _, hr', ?_, ?_, hblk'.trans hblk⟩, ?_⟩
      · have : ((s.len : Int) - 1).toNat = ys.length - 1 := by omega
        rw [this]
        conv => lhs; rw [hpre]
        rw [List.take_take]
        simp
        omega
      · have : ((s.len : Int) - 1).toNat = ys.length - 1 := by omega
        rw [this, ← hv]
        refine ab5 (List.length_pos_iff.1 hpos) ?_
        rw [List.getLast?_eq_getElem?, List.getElem?_eq_getElem (by omega)]
        congr 1
        omega
      · have := hr'.len
        simp at this
        omega
    · simp only [beq_eq_false_iff_ne, ne_eq] at hz
      refine K s ys hr hpre ?_ hv hblk
      unfold Nrm
      rw [List.getLast?_eq_getElem?, List.getElem?_eq_getElem (by omega)]
      intro hc2
      simp only [Option.some.injEq] at hc2
      exact hz (by omega)
  · refine ⟨nofun, fun _ => ?_⟩
    simp only [decide_eq_false_iff_not] at hc
    refine K s ys hr hpre ?_ hv hblk
    have : ys = [] := List.eq_nil_of_length_eq_zero (by omega)
    subst this
    exact Nrm.nil
end Go.Sh
namespace Go.Sh
open Go Go.Lift
theorem NN.nv {h : Heap} {s : Sl} {n : Nat} (hn : NN h s n) : NV h s n := by
  obtain ⟨xs, h1, h2, _, h3, h4⟩ := hn
  exact ⟨xs, h1, h2, h3, h4⟩
theorem NN.ext {h h' : Heap} {s : Sl} {n : Nat} (hn : NN h s n) (k : Ext h h') : NN h' s n := by
  obtain ⟨xs, h1, h2⟩ := hn
  exact ⟨xs, h1.ext k, h2⟩
theorem NV.ext {h h' : Heap} {s : Sl} {n : Nat} (hn : NV h s n) (k : Ext h h') : NV h' s n := by
  obtain ⟨xs, h1, h2⟩ := hn
  exact ⟨xs, h1.ext k, h2⟩
theorem NN.keep {h h' : Heap} {s : Sl} {n b : Nat} (hn : NN h s n) (k : Keep (some b) h h') (hne : s.blk ≠ some b) : NN h' s n := by
  obtain ⟨xs, h1, h2⟩ := hn
  exact ⟨xs, h1.keep k (fun a ha => by simp [Sl.blk, ha] at hne; simpa using hne), h2⟩
theorem NN.keep' {h h' : Heap} {s : Sl} {n b : Nat} (hn : NN h s n) (k : Keep (some b) h h') (hne : s.blk = some b → n = 0) : NN h' s n := by
  obtain ⟨xs, h1, h2, h3, h4, h5⟩ := hn
  refine ⟨xs, h1.keepB k (fun a ha hx e => ?_), h2, h3, h4, h5⟩
  have := hne (by simp [Sl.blk, ha, e])
  subst this
  exact hx (mW (by decide) h3 h4)
theorem NN.len_zero {h : Heap} {s : Sl} {n : Nat} (hs : NN h s n) : s.len = 0 ↔ n = 0 := by
  obtain ⟨xs, h1, h2, h3, h4, _⟩ := hs
  rw [h1.len]
  constructor
  · intro h; have := List.eq_nil_of_length_eq_zero h; subst this; exact h4.symm
  · intro h; subst h; rw [mW (by decide) h3 h4]; rfl
theorem NN.nil {h : Heap} : NN h Sl.nil 0 := ⟨[], R.nil, Lim.nil, Nrm.nil, rfl, by simp⟩
theorem NV.nil {h : Heap} : NV h Sl.nil 0 := NN.nil.nv
theorem gu {x : Sl} {n : Nat} {h : Heap} {Q : Sl → Heap → Prop} (hx : NV h x n)
    (K : ∀ r, NN h r n → (r.blk = x.blk) → r.len ≤ x.len → Q r h) : bZ x h Q := by
  obtain ⟨xs, h1, h2, h3, h4⟩ := hx
  refine ac9 h1 h4 fun r ys hr hpre hn hv hblk => K r ⟨ys, hr, ?_, hn, hv.trans h3, ?_⟩ hblk ?_
  · rw [hpre]; exact h2.take _
  · have := congrArg List.length hpre; simp at this; omega
  · rw [hr.len, h1.len]
    have := congrArg List.length hpre; simp at this; omega
theorem nh {b : Nat} (xs : List Nat) (i : Nat) : val b (xs.take (i + 1)) = val b (xs.take i) + b ^ i * xs.getD i 0 := by
  by_cases h : i < xs.length
  · rw [fZ xs i h]; simp [h]
  · rw [List.take_of_length_le (by omega), List.take_of_length_le (by omega)]
    simp [List.getElem?_eq_none (Nat.le_of_not_lt h)]
theorem Lim.getD {b : Nat} {xs : List Nat} (h : Lim b xs) (hb : 0 < b) (i : Nat) : xs.getD i 0 < b := by
  by_cases hi : i < xs.length
  · simp [hi]; exact h.get hi
  · simp [List.getElem?_eq_none (Nat.le_of_not_lt hi)]; exact hb
theorem new1 {kd : IntKind} {n : Int} {m : Nat} {h : Heap} {k : Addr → Heap → Prop} (hn : n = (m : Int))
    (K : ∀ h', RI kd h' ⟨some ⟨h.size, 0, none⟩, 1, 1⟩ [m] → Ext h h' → h'.size = h.size + 1 → k ⟨h.size, 0, none⟩ h') : new [Value.int kd n] h k := by
  subst hn
  intro T
  refine K _ ?_ (Ext.push _ _) (by simp)
  exact (Own.new (toV := fun n : Nat => Value.int kd (n : Int)) (ys := [m]) (h := h) (T := T) (cs := [Value.int kd (m : Int)]) rfl).r
theorem app1 {kd : IntKind} {bytes B : Nat} {n : Int} {m : Nat} {h : Heap} {s : Sl} {xs : List Nat} {k : Sl → Heap → Prop} (hn : n = (m : Int)) (ho : OwnI kd B h s xs) (hB : B ≤ h.size) (hb : (xs.length + 1) * bytes ≤ 2 ^ 46)
    (K : ∀ s' h', OwnI kd B h' s' (xs ++ [m]) → Keep s.blk h h' → h.size ≤ h'.size → k s' h') : new [Value.int kd n] h fun a h1 => aP 1 bytes s (⟨some a, 1, 1⟩ : Sl) h1 k := by
  refine new1 hn fun h1 hr he hsz => ?_
  refine (ho.ext he).append (by have := he.size; omega) hr (ahp kd) (by simpa using hb) fun s' h' ho' hk _ => K s' h' ho' ?_ ?_
  · exact (Keep.of_ext he).trans hk
  · have := he.size; have := hk.size; omega
theorem Keep.own {kd : IntKind} {B : Nat} {h0 h h' : Heap} {s : Sl} {xs : List Nat} (he : Ext h0 h) (ho : OwnI kd B h s xs) (hB : h0.size ≤ B) (hk : Keep s.blk h h') : Ext h0 h' := by
  cases hb : s.blk with
  | none => rw [hb] at hk; exact he.trans hk
  | some b =>
    rw [hb] at hk
    exact he.fresh (by have := (ho.lt hb).1; omega) hk
theorem ac6 {x y : Sl} {m n : Nat} {h : Heap} {Q : Sl → Heap → Prop} (hx : NV h x m) (hy : NV h y n) (hxl : x.len ≤ 1048000) (hyl : y.len ≤ 1048000)
    (K : ∀ r h' zs, OwnI .u32 h.size h' r zs → Lim 4294967296 zs → val 4294967296 zs = m + n → zs.length = max x.len y.len + 1 → Ext h h' → Q r h') : qr x y h Q := by
  obtain ⟨xs, x1, x2, x3, x4⟩ := hx
  obtain ⟨ys, y1, y2, y3, y4⟩ := hy
  have lx := x1.len
  have ly := y1.len
  unfold qr
  have hmax : (if (y.len : Int) > (x.len : Int) then (y.len : Int) else (x.len : Int)) = ((max xs.length ys.length : Nat) : Int) := by
    split <;> omega
  simp only [hmax]
  refine loop.inv (fun s h' => ∃ (zs : List Nat) (c i : Nat), s.2.1 = (c : Int) ∧ s.2.2 = (i : Int) ∧ OwnI .u32 h.size h' s.1 zs ∧ Lim 4294967296 zs ∧ zs.length = i ∧ i ≤ max xs.length ys.length ∧ c ≤ 1 ∧
      val 4294967296 zs + 4294967296 ^ i * c = val 4294967296 (xs.take i) + val 4294967296 (ys.take i) ∧ Ext h h') (fun s _ => max xs.length ys.length - s.2.2.toNat) ⟨[], 0, 0, rfl, rfl, Own.nil, Lim.nil, rfl, by omega, by omega, by simp [val], Keep.refl _ _⟩ ?_
  rintro ⟨out, carry, i'⟩ h' ⟨zs, c, i, hcc, hii, hown, hlim, hzl, hile, hc1, hval, hext⟩
  simp only at hcc hii hown
  subst hcc hii
  dsimp only
  refine ⟨fun hlt => ?_, fun hge => ?_⟩
  · simp only [decide_eq_true_eq] at hlt
    have hilt : i < max xs.length ys.length := by omega
    have x1' := x1.ext hext
    have y1' := y1.ext hext
    have gx := Lim.getD x2 (by decide) i
    have gy := Lim.getD y2 (by decide) i
    refine loop.inv (fun s h'' => h'' = h' ∧ ((s.2 = 0 ∧ s.1 = (c : Int)) ∨ (s.2 = 1 ∧ s.1 = ((c + xs.getD i 0 : Nat) : Int)) ∨ (s.2 = 2 ∧ s.1 = ((c + xs.getD i 0 + ys.getD i 0 : Nat) : Int)))) (fun s _ => 2 - s.2.toNat) ⟨rfl, .inl ⟨rfl, rfl⟩⟩ ?_
    rintro ⟨cc, j⟩ h'' ⟨rfl, hj⟩
    simp only at hj
    have one : ∀ (v : Sl) (vs : List Nat), RI .u32 h'' v vs → Lim 4294967296 vs → ∀ (c0 : Nat), c0 < 8589934592 → cc = (c0 : Int) → ∀ K2 : Int → Heap → Prop, K2 ((c0 + vs.getD i 0 : Nat) : Int) h'' →
        iteB (decide ((i : Int) < ((v.len : Nat) : Int))) (idxS v (i : Int) 1 fun a => Lift.load (Value.int .u32) a h'' fun v_1 => Let (IntKind.wrap .u64 (cc + IntKind.wrap .u64 v_1)) fun carry => K2 carry h'') (K2 cc h'') := by
      intro v vs hv hl c0 hc0 hcc K2 hK
      have hvl := hv.len
      subst hcc
      refine ⟨fun hlt => ?_, fun hge => ?_⟩
      · simp only [decide_eq_true_eq] at hlt
        have hi : i < vs.length := by omega
        refine hv.ld (j := i) rfl hi ?_
        rintro z rfl
        have hg := hl.get hi
        rw [wu64 (n := (vs[i] : Int)) (by omega) (by omega), wu64 (by omega) (by omega)]
        have : vs.getD i 0 = vs[i] := by simp [hi]
        rw [this] at hK
        simpa using hK
      · simp only [decide_eq_false_iff_not] at hge
        have hi : ¬ i < vs.length := by omega
        have : vs.getD i 0 = 0 := by simp [List.getElem?_eq_none (Nat.le_of_not_lt hi)]
        rw [this] at hK
        exact hK
    refine ⟨fun hlt2 => ?_, fun hge2 => ?_⟩
    · simp only [decide_eq_true_eq] at hlt2
      refine seq.dup ?_
      rcases hj with ⟨rfl, hcv⟩ | ⟨rfl, hcv⟩ | ⟨rfl, _⟩
      · refine ⟨⟨by omega, by omega⟩, x, rfl, ?_⟩
        refine one x xs x1' x2 c (by omega) hcv _ ⟨⟨rfl, .inr (.inl ⟨rfl, rfl⟩)⟩, ?_⟩
        simp only [w64 (n := 0 + 1) (by omega) (by omega)]
        omega
      · refine ⟨⟨by omega, by omega⟩, y, rfl, ?_⟩
        refine one y ys y1' y2 (c + xs.getD i 0) (by omega) hcv _ ⟨⟨rfl, .inr (.inr ⟨rfl, rfl⟩)⟩, ?_⟩
        simp only [w64 (n := 1 + 1) (by omega) (by omega)]
        omega
      · exact absurd hlt2 (by decide)
    · simp only [decide_eq_false_iff_not] at hge2
      have hcv : cc = ((c + xs.getD i 0 + ys.getD i 0 : Nat) : Int) := by
        rcases hj with ⟨rfl, _⟩ | ⟨rfl, _⟩ | ⟨_, h⟩
        · exact absurd (by decide) hge2
        · exact absurd (by decide) hge2
        · exact h
      subst hcv
      generalize hsum : c + xs.getD i 0 + ys.getD i 0 = t at *
      have ht : t < 2 * 4294967296 := by omega
      refine app1 (m := t % 4294967296) (by rw [vA]; omega) hown hext.size (by omega) fun s' h2 ho2 hk2 _ => ?_
      rintro cq rfl
      have hcq : Int.fdiv (t : Int) (2 ^ (min (Int.toNat 32) (IntKind.bits .u64))) = ((t / 4294967296 : Nat) : Int) := by
        show Int.fdiv (t : Int) 4294967296 = _
        rw [Int.fdiv_eq_ediv_of_nonneg _ (by omega)]
        omega
      rw [hcq, w64 (by omega) (by omega)]
      refine ⟨⟨zs ++ [t % 4294967296], t / 4294967296, i + 1, rfl, by omega, ho2, hlim.snoc (Nat.mod_lt _ (by decide)), by simp [hzl], by omega, by omega, ?_, Keep.own hext hown (Nat.le_refl _) hk2⟩, by simp; omega⟩
      rw [wz, hzl, nh, nh, Nat.pow_succ]
      have e1 : 4294967296 ^ i * (t % 4294967296) + 4294967296 ^ i * 4294967296 * (t / 4294967296) = 4294967296 ^ i * t := by
        rw [Nat.mul_assoc, ← Nat.mul_add, Nat.mod_add_div]
      have e2 : 4294967296 ^ i * t = 4294967296 ^ i * c + 4294967296 ^ i * xs.getD i 0 + 4294967296 ^ i * ys.getD i 0 := by
        rw [← hsum, Nat.mul_add, Nat.mul_add]
      omega
  · simp only [decide_eq_false_iff_not] at hge
    have hi : i = max xs.length ys.length := by omega
    refine app1 (m := c) (by rw [vA]; omega) hown hext.size (by omega) fun s' h2 ho2 hk2 _ => ?_
    refine K s' h2 _ ho2 (hlim.snoc (by omega)) ?_ (by simp [hzl, lx, ly, hi]) (Keep.own hext hown (Nat.le_refl _) hk2)
    rw [wz, hzl, hval, uR _ _ (by omega), uR _ _ (by omega), x3, y3]
end Go.Sh

namespace Go.Sh
open Go Go.Lift
def nl (n : Nat) : Nat := if h : n = 0 then 0 else nl (n / 4294967296) + 1
termination_by n
decreasing_by exact Nat.div_lt_self (Nat.pos_of_ne_zero h) (by decide)
theorem nF : nl 0 = 0 := by rw [nl]; simp
theorem aaG {n : Nat} (h : n ≠ 0) : nl n = nl (n / 4294967296) + 1 := by rw [nl]; simp [h]
theorem amg : ∀ {xs : List Nat}, Lim 4294967296 xs → Nrm xs → xs.length = nl (val 4294967296 xs) := by
  intro xs
  induction xs with
  | nil => intro _ _; rw [aff, nF]; rfl
  | cons x xs ih =>
    intro hl hn
    have hx : x < 4294967296 := hl x (by simp)
    have h0 : val 4294967296 (x :: xs) ≠ 0 := fun h => by
      have := mW (b := 4294967296) (by decide) hn h
      cases this
    rw [aaG h0]
    have : val 4294967296 (x :: xs) / 4294967296 = val 4294967296 xs := by
      simp only [val]
      rw [Nat.add_mul_div_left _ _ (by decide), Nat.div_eq_of_lt hx, Nat.zero_add]
    rw [this, List.length_cons, ih (fun y hy => hl y (by simp [hy])) hn.tail]
theorem nH : ∀ {m n : Nat}, m ≤ n → nl m ≤ nl n := by
  intro m
  induction m using Nat.strongRecOn with
  | _ m ih =>
    intro n h
    by_cases hm : m = 0
    · subst hm; rw [nF]; omega
    · have hn : n ≠ 0 := by omega
      rw [aaG hm, aaG hn]
      have := ih (m / 4294967296) (Nat.div_lt_self (by omega) (by decide)) (Nat.div_le_div_right (c := 4294967296) h)
      omega
theorem NN.nl {h : Heap} {s : Sl} {n : Nat} (hs : NN h s n) : s.len = nl n := by
  obtain ⟨xs, h1, h2, h3, h4, _⟩ := hs
  rw [h1.len, amg h2 h3, h4]
theorem tf {n k : Nat} : Go.Sh.nl n ≤ k ↔ n < 4294967296 ^ k := by
  induction k generalizing n with
  | zero =>
    constructor
    · intro h
      by_cases hn : n = 0
      · subst hn; simp
      · rw [aaG hn] at h; omega
    · intro h
      have : n = 0 := by simpa using h
      subst this; rw [nF]; omega
  | succ k ih =>
    by_cases hn : n = 0
    · subst hn; rw [nF]; exact iff_of_true (by omega) (Nat.pow_pos (by decide))
    · rw [aaG hn, Nat.succ_le_succ_iff, ih, Nat.pow_succ, Nat.div_lt_iff_lt_mul (by decide)]
structure Bench (h : Heap) (a : Addr) (lim : Nat) (ov : Bool) : Prop where
  spot : a.spot = none
  limb : cell? h (a.add 0) = some (.int .i64 (lim : Int))
  over : cell? h (a.add 1) = some (.bool ov)
  free : frozen? h (a.add 1) = false
theorem Bench.lt {h : Heap} {a : Addr} {lim : Nat} {ov : Bool} (hb : Bench h a lim ov) : a.block < h.size := by
  have := hO hb.over
  rwa [aj] at this
theorem Bench.keep {h h' : Heap} {a : Addr} {lim : Nat} {ov : Bool} (hb : Bench h a lim ov) {o : Option Nat} (k : Keep o h h') (hne : some a.block ≠ o) : Bench h' a lim ov :=
  ⟨hb.spot, ao k hb.limb (by rw [aj]; exact hne), ao k hb.over (by rw [aj]; exact hne), fT k (by rw [aj]; exact hb.lt) hb.free (by rw [aj]; exact hne)⟩
theorem Bench.ext {h h' : Heap} {a : Addr} {lim : Nat} {ov : Bool} (hb : Bench h a lim ov) (k : Ext h h') : Bench h' a lim ov := hb.keep k (by simp)
theorem Bench.set {h : Heap} {a : Addr} {lim : Nat} {ov : Bool} (hb : Bench h a lim ov) (ov' : Bool) : Bench (aS h (a.add 1) (.bool ov')) a lim ov' := by
  refine ⟨hb.spot, ?_, bK hb.over, by rw [fv]; exact hb.free⟩
  rw [iI]
  · exact hb.limb
  · right; left
    rw [cu _ _ hb.spot, cu _ _ hb.spot]
    simp
theorem Bench.store {h : Heap} {a : Addr} {lim : Nat} {ov : Bool} (hb : Bench h a lim ov) (ov' : Bool) {k : Heap → Prop} (K : ∀ h', Bench h' a lim ov' → Keep (some a.block) h h' → h'.size = h.size → k h') : Lift.amL (a.add 1) (.bool ov') h k := by
  refine ⟨⟨_, hb.over⟩, hb.free, K _ (hb.set ov') ?_ (by simp [aS])⟩
  have := Keep.setCell h (a.add 1) (.bool ov')
  rwa [aj] at this
theorem afS {limbs : Int} {h : Heap} {Q : Option Addr → Heap → Prop} (K : ∀ a h', Bench h' a (max limbs.toNat 1) false → a.block = h.size → Ext h h' → Q (some a) h') : acl limbs h Q := by
  intro T
  have hl : (if 1 > limbs then 1 else limbs) = ((max limbs.toNat 1 : Nat) : Int) := by split <;> omega
  rw [hl]
  refine K _ _ ⟨rfl, ?_, ?_, ?_⟩ rfl (Ext.push _ _)
  · rw [cO]; rfl
  · rw [cO]; rfl
  · rw [cu _ _ rfl]; unfold frozen?; simp
theorem adi {a : Addr} {lim : Nat} {ov : Bool} {h : Heap} {Q : Bool → Heap → Prop} (hb : Bench h a lim ov) (K : Q ov h) : gt (some a) h Q :=
  ⟨a, rfl, ov, hb.over, K⟩
theorem aa6 {x : Sl} {xs : List Nat} {h : Heap} {Q : Sl → Heap → Prop} (hx : RI .u32 h x xs) (hl : xs.length ≤ 2200000)
    (K : ∀ r h', OwnI .u32 h.size h' r xs → Ext h h' → Q r h') : bU x h Q := by
  refine ⟨fun hn => ?_, fun hn => ?_⟩
  · have : xs = [] := by
      have hc := hx.cells
      have ha : x.a = none := by simpa using hn
      rw [ha] at hc
      simp only [cellsO?, Option.some.injEq] at hc
      cases xs with
      | nil => rfl
      | cons x xs => simp at hc
    subst this
    exact K _ _ Own.nil (Keep.refl _ _)
  · intro T
    have ho : OwnI .u32 h.size (h.push (.cells ([] : List Value).toArray T (0, 0))) ⟨some ⟨h.size, 0, none⟩, 0, 0⟩ [] := Own.new (ys := []) rfl
    have he : Ext h (h.push (.cells ([] : List Value).toArray T (0, 0))) := Ext.push _ _
    refine ho.append (by simp) (hx.ext he) (ahp _) (by simp; omega) fun s' h' ho' hk _ => K s' h' (by simpa using ho') ?_
    exact he.fresh (by simp) hk
theorem qt {a : Addr} {lim : Nat} {ov : Bool} {x : Sl} {n : Nat} {h : Heap} {Q : Sl → Heap → Prop} (hb : Bench h a lim ov) (hx : NV h x n) (hne : x.blk = some a.block → n = 0)
    (K : ∀ r h', Bench h' a lim (ov || decide (lim < nl n)) → Keep (some a.block) h h' → ((ov || decide (lim < nl n)) = false → NN h' r n) → ((ov || decide (lim < nl n)) = true → r = Sl.nil) → (∀ b, r.blk = some b → h.size ≤ b) → Q r h') : dH (some a) x h Q := by
  unfold dH
  refine gu hx fun v hv hblk _ => ?_
  have hvb : v.blk = some a.block → n = 0 := by rw [hblk]; exact hne
  have hnl := hv.nl
  have rest : ∀ h1, Bench h1 a lim (ov || decide (lim < nl n)) → Keep (some a.block) h h1 → h1.size = h.size →
      ah (some a) fun a_4 => Lift.load Value.bool (a_4.add 1) h1 fun v_3 => iteB v_3 (Q Sl.nil h1) (bU v h1 fun v_4 h0u4 => Q v_4 h0u4) := by
    intro h1 hb1 hk hsz
    refine ⟨a, rfl, _, hb1.over, fun hov => ?_, fun hov => ?_⟩
    · exact K _ _ hb1 hk (fun hf => by rw [hov] at hf; cases hf) (fun _ => rfl) (fun b hb => by cases hb)
    · obtain ⟨xs, x1, x2, x3, x4, x5⟩ := hv.keep' hk hvb
      refine aa6 x1 x5 fun r h' ho he => ?_
      refine K r h' (hb1.ext he) (hk.trans (Keep.of_ext he)) (fun _ => ⟨xs, ho.r, x2, x3, x4, x5⟩) (fun ht => by rw [hov] at ht; cases ht) (fun b hbb => ?_)
      have := (ho.lt hbb).1
      omega
  refine seq.dup ?_
  refine ⟨a, rfl, ov, hb.over, fun hov => ?_, fun hov => ?_⟩
  · subst hov
    refine ⟨a, rfl, hb.store true fun h1 hb1 hk hsz => rest h1 (by simpa using hb1) hk hsz⟩
  · subst hov
    refine ⟨a, rfl, _, hb.limb, a, rfl, ?_⟩
    have : decide ((v.len : Int) > (lim : Int)) = (false || decide (lim < nl n)) := by rw [hnl]; simp
    rw [this]
    exact hb.store _ fun h1 hb1 hk hsz => rest h1 hb1 hk hsz
theorem abg {a : Addr} {lim : Nat} {ov : Bool} {x y : Sl} {m n : Nat} {h : Heap} {Q : Sl → Heap → Prop} (hb : Bench h a lim ov) (hx : NV h x m) (hy : NV h y n) (hxl : x.len ≤ 1048000) (hyl : y.len ≤ 1048000)
    (K : ∀ r h', Bench h' a lim (ov || decide (lim < nl (m + n))) → Keep (some a.block) h h' → ((ov || decide (lim < nl (m + n))) = false → NN h' r (m + n)) → ((ov || decide (lim < nl (m + n))) = true → r = Sl.nil) → (∀ b, r.blk = some b → h.size ≤ b) → Q r h') : fX (some a) x y h Q := by
  unfold fX
  refine ac6 hx hy hxl hyl fun v h1 zs ho hlim hval hlen he => ?_
  refine qt (hb.ext he) ⟨zs, ho.r, hlim, hval, by omega⟩ (fun hbl => ?_) fun r h2 hb2 hk h3 h4 h5 => K r h2 hb2 ((Keep.of_ext he).trans hk) h3 h4 (fun b hbb => Nat.le_trans he.size (h5 b hbb))
  have := (ho.lt hbl).1
  have := hb.lt
  omega
end Go.Sh

namespace Go.Sh
open Go Go.Lift
theorem aeQ {kd : IntKind} {bytes : Nat} {len : Int} {m : Nat} {h : Heap} {k : Sl → Heap → Prop} (hl : len = (m : Int)) (hb : m * bytes ≤ 2 ^ 46)
    (K : ∀ s h', OwnI kd h.size h' s (List.replicate m 0) → Ext h h' → s.len = m → k s h') : mkS [Value.int kd 0] bytes len len h k := by
  subst hl
  refine ⟨⟨by omega, by omega, ?_⟩, fun T => ?_⟩
  · have : (m : Int) * (bytes : Int) = ((m * bytes : Nat) : Int) := by simp
    rw [this]
    exact_mod_cast hb
  · have hf : List.flatten (List.replicate (m : Int).toNat [Value.int kd 0]) = (List.replicate m 0).map (fun n : Nat => Value.int kd (n : Int)) := by
      rw [Int.toNat_natCast]
      clear hb K
      induction m with
      | zero => rfl
      | succ m ih => simp only [List.replicate_succ, List.flatten_cons, ih, List.map_cons]; rfl
    rw [hf]
    refine K _ _ ?_ (Ext.push _ _) (by simp)
    have := Own.new (toV := fun n : Nat => Value.int kd (n : Int)) (ys := List.replicate m 0) (h := h) (T := T) (cs := (List.replicate m 0).map (fun n : Nat => Value.int kd (n : Int))) rfl
    simpa using this
theorem Own.st {kd : IntKind} {B : Nat} {h : Heap} {s : Sl} {xs : List Nat} (ho : OwnI kd B h s xs) {i n : Int} {j m : Nat} {k : Heap → Prop} (hij : i = (j : Int)) (hj : j < xs.length) (hn : n = (m : Int))
    (K : ∀ h', OwnI kd B h' s (xs.set j m) → Keep s.blk h h' → h'.size = h.size → k h') : idxS s i 1 fun a => Lift.amL a (Value.int kd n) h k := by
  subst hij hn
  obtain ⟨a, ha, _⟩ := ho.r.get hj
  have := ho.r.len
  refine ⟨a, ha, ⟨by omega, by omega⟩, ?_⟩
  simp only [Int.toNat_natCast, Nat.mul_one]
  exact Own.store ho hj ha m K
theorem aaV {x y : Sl} {m n : Nat} {h : Heap} {Q : Sl → Heap → Prop} (hx : NV h x m) (hy : NV h y n) (hxl : x.len ≤ 1090000) (hyl : y.len ≤ 1090000)
    (K : ∀ r h' zs, OwnI .u32 h.size h' r zs → Lim 4294967296 zs → val 4294967296 zs = m * n → zs.length = x.len + y.len → Ext h h' → Q r h') : oR x y h Q := by
  obtain ⟨xs, x1, x2, x3, x4⟩ := hx
  obtain ⟨ys, y1, y2, y3, y4⟩ := hy
  have lx := x1.len
  have ly := y1.len
  unfold oR
  rintro t15 rfl
  rw [w64 (by omega) (by omega)]
  refine aeQ (m := xs.length + ys.length) (by omega) (by omega) fun v h0 ho0 he0 hvl => ?_
  refine loop.inv (fun s h' => ∃ (zs : List Nat) (i : Nat), s = (i : Int) ∧ OwnI .u32 h.size h' v zs ∧ Lim 4294967296 zs ∧ zs.length = xs.length + ys.length ∧ i ≤ xs.length ∧
      val 4294967296 zs = val 4294967296 (xs.take i) * n ∧ (∀ j, i + ys.length ≤ j → zs.getD j 0 = 0) ∧ Ext h h') (fun s _ => xs.length - s.toNat)
    ⟨List.replicate (xs.length + ys.length) 0, 0, rfl, ho0, fun z hz => by rw [List.eq_of_mem_replicate hz]; decide, by simp, by omega, by rw [jh]; simp [val], fun j _ => by simp only [List.getD_eq_getElem?_getD, List.getElem?_replicate]; split <;> rfl, he0⟩ ?_
  rintro s h1 ⟨zs, i, rfl, ho, hlim, hzl, hile, hval, hzero, hext⟩
  refine ⟨fun hlt => ?_, fun hge => ?_⟩
  · simp only [decide_eq_true_eq] at hlt
    have hi : i < xs.length := by omega
    refine RI.ld (x1.ext hext) (j := i) rfl hi ?_
    have hxi := x2.get hi
    generalize hxe : xs[i] = xi at *
    refine loop.inv (fun s h' => ∃ (zs' : List Nat) (c j : Nat), s.1 = (c : Int) ∧ s.2 = (j : Int) ∧ OwnI .u32 h.size h' v zs' ∧ Lim 4294967296 zs' ∧ zs'.length = xs.length + ys.length ∧ j ≤ ys.length ∧ c < 4294967296 ∧
        val 4294967296 zs' + 4294967296 ^ (i + j) * c = val 4294967296 zs + 4294967296 ^ i * (xi * val 4294967296 (ys.take j)) ∧ (∀ k, i + ys.length ≤ k → zs'.getD k 0 = 0) ∧ Ext h h') (fun s _ => ys.length - s.2.toNat)
      ⟨zs, 0, 0, rfl, rfl, ho, hlim, hzl, by omega, by decide, by simp [val], hzero, hext⟩ ?_
    rintro ⟨cc, jj⟩ h2 ⟨zs', c, j, hcc, hjj, ho', hlim', hzl', hjle, hc, hval', hzero', hext'⟩
    simp only at hcc hjj
    subst hcc hjj
    dsimp only
    refine ⟨fun hlt2 => ?_, fun hge2 => ?_⟩
    · simp only [decide_eq_true_eq] at hlt2
      have hj : j < ys.length := by omega
      refine RI.ld (y1.ext hext') (j := j) rfl hj ?_
      have hyj := y2.get hj
      have hsucc := fZ (b := 4294967296) ys j hj
      generalize hye : ys[j] = yj at *
      have hij : i + j < zs'.length := by omega
      rw [w64 (n := (i : Int) + (j : Int)) (by omega) (by omega)]
      refine RI.ld ho'.r (j := i + j) (by omega) hij ?_
      have hzij := hlim'.get hij
      have hset := yJ (b := 4294967296) zs' (i + j) hij
      generalize hze : zs'[i + j] = zij at *
      have hprod : xi * yj ≤ 4294967295 * 4294967295 := Nat.mul_le_mul (by omega) (by omega)
      have hpc : ((xi * yj : Nat) : Int) = (xi : Int) * (yj : Int) := by simp
      rintro carry rfl
      rw [wu64 (n := (xi : Int)) (by omega) (by omega), wu64 (n := (yj : Int)) (by omega) (by omega), wu64 (n := (zij : Int)) (by omega) (by omega), ← hpc,
        wu64 (n := ((xi * yj : Nat) : Int)) (by omega) (by omega), wu64 (n := ((xi * yj : Nat) : Int) + (zij : Int)) (by omega) (by omega), wu64 (by omega) (by omega)]
      generalize hpe : xi * yj = pr at *
      refine Own.st ho' (j := i + j) (m := (c + (pr + zij)) % 4294967296) (by omega) hij (by rw [vA]; omega) fun h3 ho3 hk3 hs3 => ?_
      rintro cq rfl
      have hcq : Int.fdiv ((c : Int) + (((pr : Nat) : Int) + (zij : Int))) (2 ^ (min (Int.toNat 32) (IntKind.bits .u64))) = (((c + (pr + zij)) / 4294967296 : Nat) : Int) := by
        show Int.fdiv _ 4294967296 = _
        rw [Int.fdiv_eq_ediv_of_nonneg _ (by omega)]
        omega
      rw [hcq, w64 (by omega) (by omega)]
      refine ⟨⟨_, (c + (pr + zij)) / 4294967296, j + 1, rfl, by omega, ho3, hlim'.set _ (Nat.mod_lt _ (by decide)), by simpa using hzl', by omega, by omega, ?_, ?_, Keep.own hext' ho' (Nat.le_refl _) hk3⟩, by simp; omega⟩
      · have h1 := hset ((c + (pr + zij)) % 4294967296)
        rw [hsucc, show i + (j + 1) = (i + j) + 1 from by omega, Nat.pow_succ]
        have e1 : 4294967296 ^ (i + j) * ((c + (pr + zij)) % 4294967296) + 4294967296 ^ (i + j) * 4294967296 * ((c + (pr + zij)) / 4294967296) = 4294967296 ^ (i + j) * (c + (pr + zij)) := by
          rw [Nat.mul_assoc, ← Nat.mul_add, Nat.mod_add_div]
        have e2 : 4294967296 ^ (i + j) * (c + (pr + zij)) = 4294967296 ^ (i + j) * c + 4294967296 ^ (i + j) * pr + 4294967296 ^ (i + j) * zij := by
          rw [Nat.mul_add, Nat.mul_add, ← Nat.add_assoc]
        have e3 : 4294967296 ^ i * (xi * (val 4294967296 (List.take j ys) + 4294967296 ^ j * yj)) = 4294967296 ^ i * (xi * val 4294967296 (List.take j ys)) + 4294967296 ^ (i + j) * pr := by
          rw [Nat.mul_add, Nat.mul_add, Nat.pow_add, ← hpe]
          congr 1
          rw [Nat.mul_left_comm xi, Nat.mul_assoc]
        rw [e3]
        omega
      · intro k hk
        have := hzero' k hk
        rw [List.getD_eq_getElem?_getD] at this ⊢
        rw [List.getElem?_set_ne (by omega)]
        exact this
    · simp only [decide_eq_false_iff_not] at hge2
      have hj : j = ys.length := by omega
      subst hj
      have hil : i + ys.length < zs'.length := by omega
      rw [w64 (n := (i : Int) + (y.len : Int)) (by omega) (by omega)]
      refine Own.st ho' (j := i + ys.length) (m := c) (by omega) hil (by rw [vA]; omega) fun h3 ho3 hk3 hs3 => ?_
      rw [w64 (by omega) (by omega)]
      refine ⟨⟨_, i + 1, by omega, ho3, hlim'.set _ hc, by simpa using hzl', by omega, ?_, ?_, Keep.own hext' ho' (Nat.le_refl _) hk3⟩, by omega⟩
      · have h1 := yJ (b := 4294967296) zs' (i + ys.length) hil c
        have h0 : zs'[i + ys.length] = 0 := by
          have := hzero' (i + ys.length) (by omega)
          simpa [hil] using this
        rw [h0, Nat.mul_zero, Nat.add_zero] at h1
        rw [h1, hval', List.take_length, y3, hval, fZ xs i hi, hxe, Nat.add_mul, Nat.mul_assoc]
      · intro k hk
        have := hzero' k (by omega)
        rw [List.getD_eq_getElem?_getD] at this ⊢
        rw [List.getElem?_set_ne (by omega)]
        exact this
  · simp only [decide_eq_false_iff_not] at hge
    have hi : i = xs.length := by omega
    subst hi
    rw [List.take_length, x3] at hval
    exact K v h1 zs ho hlim hval (by omega) hext
theorem aji {a : Addr} {lim : Nat} {ov : Bool} {x y : Sl} {m n : Nat} {h : Heap} {Q : Sl → Heap → Prop} (hb : Bench h a lim ov) (hx : NV h x m) (hy : NV h y n) (hxl : x.len ≤ 1090000) (hyl : y.len ≤ 1090000)
    (K : ∀ r h', Bench h' a lim (ov || decide (lim < nl (m * n))) → Keep (some a.block) h h' → ((ov || decide (lim < nl (m * n))) = false → NN h' r (m * n)) → ((ov || decide (lim < nl (m * n))) = true → r = Sl.nil) → (∀ b, r.blk = some b → h.size ≤ b) → Q r h') : eT (some a) x y h Q := by
  unfold eT
  refine gu hx fun x' hx' _ hxl' => gu hy fun y' hy' _ hyl' => ?_
  refine aaV hx'.nv hy'.nv (by omega) (by omega) fun v h1 zs ho hlim hval hlen he => ?_
  refine qt (hb.ext he) ⟨zs, ho.r, hlim, hval, by omega⟩ (fun hbl => ?_) fun r h2 hb2 hk h3 h4 h5 => K r h2 hb2 ((Keep.of_ext he).trans hk) h3 h4 (fun b hbb => Nat.le_trans he.size (h5 b hbb))
  have := (ho.lt hbl).1
  have := hb.lt
  omega
end Go.Sh

namespace Go.Sh
open Go Go.Lift
theorem afK {k A b : Nat} (hb : b < 2 ^ k) : A * 2 ^ k ||| b = A * 2 ^ k + b := by
  have := Nat.shiftLeft_add_eq_or_of_lt hb A
  rw [Nat.shiftLeft_eq] at this
  exact this.symm
theorem or64 {p q : Nat} (hp : p < 18446744073709551616) (hq : q < 18446744073709551616) : ((BitVec.ofInt (IntKind.bits .u64) (p : Int) ||| BitVec.ofInt (IntKind.bits .u64) (q : Int)).toNat : Int) = ((p ||| q : Nat) : Int) := by
  show ((BitVec.ofInt 64 (p : Int) ||| BitVec.ofInt 64 (q : Int)).toNat : Int) = _
  rw [BitVec.toNat_or, BitVec.toNat_ofInt, BitVec.toNat_ofInt]
  congr 2 <;> omega
theorem or32 {p q : Nat} (hp : p < 4294967296) (hq : q < 4294967296) : ((BitVec.ofInt (IntKind.bits .u32) (p : Int) ||| BitVec.ofInt (IntKind.bits .u32) (q : Int)).toNat : Int) = ((p ||| q : Nat) : Int) := by
  show ((BitVec.ofInt 32 (p : Int) ||| BitVec.ofInt 32 (q : Int)).toNat : Int) = _
  rw [BitVec.toNat_or, BitVec.toNat_ofInt, BitVec.toNat_ofInt]
  congr 2 <;> omega
theorem akx {p : Nat} (hp : p < 4294967296) : ((BitVec.ofInt (IntKind.bits .u32) (p : Int) &&& BitVec.ofInt (IntKind.bits .u32) 1).toNat : Int) = ((p % 2 : Nat) : Int) := by
  show ((BitVec.ofInt 32 (p : Int) &&& BitVec.ofInt 32 1).toNat : Int) = _
  rw [BitVec.toNat_and, BitVec.toNat_ofInt, BitVec.toNat_ofInt]
  have h1 : ((p : Int) % ((2 ^ 32 : Nat) : Int)).toNat = p := by omega
  have h2 : ((1 : Int) % ((2 ^ 32 : Nat) : Int)).toNat = 1 := by decide
  rw [h1, h2, Nat.and_one_is_mod]
theorem newN {kd : IntKind} {cs : List Value} {ms : List Nat} {h : Heap} {k : Addr → Heap → Prop} (hcs : cs = ms.map (fun n : Nat => Value.int kd (n : Int)))
    (K : ∀ h', OwnI kd h.size h' ⟨some ⟨h.size, 0, none⟩, ms.length, ms.length⟩ ms → Ext h h' → h'.size = h.size + 1 → k ⟨h.size, 0, none⟩ h') : new cs h k := by
  intro T
  exact K _ (Own.new hcs) (Ext.push _ _) (by simp)
theorem abV {n : Int} {m : Nat} {h : Heap} {Q : Sl → Heap → Prop} (hn : n = (m : Int)) (hm : m < 18446744073709551616)
    (K : ∀ r h', NN h' r m → Ext h h' → (∀ b, r.blk = some b → h.size ≤ b ∧ b < h'.size) → Q r h') : r6 n h Q := by
  subst hn
  unfold r6
  have hs : Int.fdiv (m : Int) (2 ^ (min (Int.toNat 32) (IntKind.bits .u64))) = ((m / 4294967296 : Nat) : Int) := by
    show Int.fdiv _ 4294967296 = _
    rw [Int.fdiv_eq_ediv_of_nonneg _ (by omega)]
    omega
  rw [hs]
  refine newN (kd := .u32) (ms := [m % 4294967296, m / 4294967296]) ?_ fun h1 ho he hsz => ?_
  · simp only [List.map_cons, List.map_nil, vA]
    congr 2
    · congr 2
      omega
  refine gu (n := m) ⟨_, ho.r, ?_, ?_, by simp⟩ fun r hr hblk _ => K r h1 hr he (fun b hb => ?_)
  · intro z hz
    simp at hz
    omega
  · simp only [val]
    omega
  · rw [hblk] at hb
    simp [Sl.blk] at hb
    omega
theorem qe {x : Sl} {n : Nat} {h : Heap} {Q : (Int × Bool) → Heap → Prop} (hx : NV h x n)
    (K : ∀ v : Nat, v < 18446744073709551616 → (nl n ≤ 2 → v = n) → Q ((v : Int), decide (nl n ≤ 2)) h) : kW x h Q := by
  unfold kW
  refine gu hx fun v hv _ _ => ?_
  have hnl := hv.nl
  obtain ⟨xs, x1, x2, x3, x4, x5⟩ := hv
  have lx := x1.len
  rintro i rfl
  rw [w64 (by omega) (by omega)]
  refine loop.inv (fun s h' => h' = h ∧ ∃ (u j : Nat), s.1 = (u : Int) ∧ s.2 = (j : Int) - 1 ∧ j ≤ xs.length ∧ u < 18446744073709551616 ∧ (xs.length ≤ 2 → u = val 4294967296 (xs.drop j))) (fun s _ => (s.2 + 1).toNat)
    ⟨rfl, 0, xs.length, rfl, by omega, by omega, by decide, by simp [val]⟩ ?_
  rintro ⟨u', j'⟩ h' ⟨rfl, u, j, hu, hj, hjl, hub, hval⟩
  simp only at hu hj
  subst hu hj
  dsimp only
  refine ⟨fun hge => ?_, fun hlt => ?_⟩
  · simp only [ge_iff_le, decide_eq_true_eq] at hge
    have hj1 : j - 1 < xs.length := by omega
    refine RI.ld x1 (j := j - 1) (by omega) hj1 ?_
    have hxj := x2.get hj1
    have hdrop := kB (b := 4294967296) xs (j - 1) hj1
    rw [show j - 1 + 1 = j from by omega] at hdrop
    generalize hxe : xs[j - 1] = xj at *
    have hsh : IntKind.wrap .u64 ((u : Int) * 2 ^ (min (Int.toNat 32) (IntKind.bits .u64))) = ((u % 4294967296 * 2 ^ 32 : Nat) : Int) := by
      show ((u : Int) * 4294967296) % 18446744073709551616 = _
      omega
    rw [hsh, wu64 (n := (xj : Int)) (by omega) (by omega), or64 (by omega) (by omega), afK (by omega), wu64 (by omega) (by omega)]
    rintro n' rfl i' rfl
    rw [w64 (by omega) (by omega)]
    refine ⟨⟨rfl, u % 4294967296 * 2 ^ 32 + xj, j - 1, rfl, by omega, by omega, by omega, fun hl2 => ?_⟩, by omega⟩
    have hu2 := hval hl2
    have hlt2 : val 4294967296 (xs.drop j) < 4294967296 := by
      have h1 := tA (b := 4294967296) (xs := xs.drop j) (fun z hz => x2 z (List.mem_of_mem_drop hz))
      have h2 : 4294967296 ^ (xs.drop j).length ≤ 4294967296 ^ 1 := Nat.pow_le_pow_right (by decide) (by simp; omega)
      omega
    rw [hdrop]
    omega
  · simp only [ge_iff_le, decide_eq_false_iff_not] at hlt
    have hj0 : j = 0 := by omega
    subst hj0
    rintro ok rfl
    have : decide ((v.len : Int) ≤ 2) = decide (nl n ≤ 2) := by rw [hnl]; exact decide_eq_decide.2 (by omega)
    rw [this]
    refine K u hub fun h2 => ?_
    have := hval (by omega)
    simpa [x3, x4] using this
def cmpI (m n : Nat) : Int := if m < n then -1 else if m = n then 0 else 1
theorem oU {n : Int} {h : Heap} {Q : Int → Heap → Prop} (K : Q (if n < 0 then -1 else if n = 0 then 0 else 1) h) : sE n h Q := by
  unfold sE
  have : (if (-1) > (if 1 < n then 1 else n) then (-1) else (if 1 < n then 1 else n)) = (if n < 0 then -1 else if n = 0 then 0 else 1) := by
    repeat' split
    all_goals omega
  rw [this]; exact K
theorem rW {x y : Sl} {m n : Nat} {h : Heap} {Q : Int → Heap → Prop} (hx : NV h x m) (hy : NV h y n) (K : Q (cmpI m n) h) : ni x y h Q := by
  unfold ni
  refine gu hx fun v hv _ _ => gu hy fun w hw _ _ => ?_
  obtain ⟨xs, x1, x2, x3, x4, x5⟩ := hv
  obtain ⟨ys, y1, y2, y3, y4, y5⟩ := hw
  have lx := x1.len
  have ly := y1.len
  have short : ∀ {as bs : List Nat}, Lim 4294967296 as → Lim 4294967296 bs → Nrm bs → as.length < bs.length → val 4294967296 as < val 4294967296 bs := by
    intro as bs ha hb hn hl
    have h1 := tA ha
    have h2 := amc (b := 4294967296) (by decide) hn (by intro h; subst h; simp at hl)
    have h3 : 4294967296 ^ as.length ≤ 4294967296 ^ (bs.length - 1) := Nat.pow_le_pow_right (by decide) (by omega)
    omega
  refine ⟨fun hne => ?_, fun heq => ?_⟩
  · simp only [bne_iff_ne, ne_eq] at hne
    rw [w64 (by omega) (by omega)]
    refine oU ?_
    have : (if (v.len : Int) - (w.len : Int) < 0 then (-1 : Int) else if (v.len : Int) - (w.len : Int) = 0 then 0 else 1) = cmpI m n := by
      unfold cmpI
      by_cases hl : xs.length < ys.length
      · have := short x2 y2 y3 hl
        rw [x4, y4] at this
        rw [if_pos (by omega), if_pos this]
      · have := short y2 x2 x3 (by omega)
        rw [x4, y4] at this
        rw [if_neg (by omega), if_neg (by omega), if_neg (by omega), if_neg (by omega)]
    rw [this]; exact K
  · have hle : xs.length = ys.length := by simp at heq; omega
    rintro i rfl
    rw [w64 (by omega) (by omega)]
    refine loop.inv (fun s h' => h' = h ∧ ∃ j : Nat, s = (j : Int) - 1 ∧ j ≤ xs.length ∧ xs.drop j = ys.drop j) (fun s _ => (s + 1).toNat) ⟨rfl, xs.length, by omega, by omega, by rw [List.drop_length, hle, List.drop_length]⟩ ?_
    rintro s h' ⟨rfl, j, rfl, hjl, hd⟩
    refine ⟨fun hge => ?_, fun hlt => ?_⟩
    · simp only [ge_iff_le, decide_eq_true_eq] at hge
      have hj1 : j - 1 < xs.length := by omega
      have hj2 : j - 1 < ys.length := by omega
      refine RI.ld x1 (j := j - 1) (by omega) hj1 (RI.ld y1 (j := j - 1) (by omega) hj2 ?_)
      have dx := kB (b := 4294967296) xs (j - 1) hj1
      have dy := kB (b := 4294967296) ys (j - 1) hj2
      have tx := iV (b := 4294967296) xs (j - 1)
      have ty := iV (b := 4294967296) ys (j - 1)
      rw [show j - 1 + 1 = j from by omega] at dx dy
      rw [Nat.min_eq_left (by omega)] at tx ty
      have bx := tA (x2.take (j - 1))
      have by' := tA (y2.take (j - 1))
      rw [List.length_take, Nat.min_eq_left (by omega)] at bx by'
      have gx := x2.get hj1
      have gy := y2.get hj2
      refine ⟨fun hne => ?_, fun heq => ?_⟩
      · simp only [bne_iff_ne, ne_eq] at hne
        refine RI.ld x1 (j := j - 1) (by omega) hj1 (RI.ld y1 (j := j - 1) (by omega) hj2 ?_)
        generalize hxe : xs[j - 1] = xj at *
        generalize hye : ys[j - 1] = yj at *
        rw [w64 (n := (xj : Int)) (by omega) (by omega), w64 (n := (yj : Int)) (by omega) (by omega), w64 (by omega) (by omega)]
        refine oU ?_
        have key : ∀ {a b p q A C : Nat}, a < A → b < A → p < q → a + A * (p + C) < b + A * (q + C) := by
          intro a b p q A C h1 h2 h3
          have : A * (p + C + 1) ≤ A * (q + C) := Nat.mul_le_mul_left _ (by omega)
          rw [Nat.mul_add A (p + C) 1] at this
          omega
        rw [hd] at dx
        rw [dx] at tx
        rw [dy] at ty
        have : (if (xj : Int) - (yj : Int) < 0 then (-1 : Int) else if (xj : Int) - (yj : Int) = 0 then 0 else 1) = cmpI m n := by
          unfold cmpI
          by_cases hl : xj < yj
          · have h1 := key (C := 4294967296 * val 4294967296 (ys.drop j)) bx by' hl
            rw [← tx, ← ty, x4, y4] at h1
            rw [if_pos (by omega), if_pos h1]
          · have h1 := key (p := yj) (q := xj) (C := 4294967296 * val 4294967296 (ys.drop j)) by' bx (by omega)
            rw [← tx, ← ty, x4, y4] at h1
            rw [if_neg (by omega), if_neg (by omega), if_neg (by omega), if_neg (by omega)]
        rw [this]; exact K
      · simp only [bne_eq_false_iff_eq] at heq
        rintro i' rfl
        rw [w64 (by omega) (by omega)]
        refine ⟨⟨rfl, j - 1, by omega, by omega, ?_⟩, by omega⟩
        rw [List.drop_eq_getElem_cons hj1, List.drop_eq_getElem_cons hj2, show j - 1 + 1 = j from by omega, hd]
        congr 1
        omega
    · simp only [ge_iff_le, decide_eq_false_iff_not] at hlt
      have hj0 : j = 0 := by omega
      subst hj0
      simp only [List.drop_zero] at hd
      subst hd
      have : cmpI m n = 0 := by
        unfold cmpI
        rw [← x4, ← y4]
        simp
      rw [this] at K; exact K
end Go.Sh

namespace Go.Sh
open Go Go.Lift
theorem tZ {x y : Sl} {m n : Nat} {h : Heap} {Q : Sl → Heap → Prop} (hx : NV h x m) (hy : NV h y n) (hxl : x.len ≤ 1060000) (hle : n ≤ m)
    (K : ∀ r h', NN h' r (m - n) → Ext h h' → (∀ b, r.blk = some b → h.size ≤ b) → r.len ≤ x.len → Q r h') : lf x y h Q := by
  obtain ⟨xs, x1, x2, x3, x4⟩ := hx
  obtain ⟨ys, y1, y2, y3, y4⟩ := hy
  have lx := x1.len
  have ly := y1.len
  unfold lf
  refine loop.inv (fun s h' => ∃ (zs : List Nat) (c i : Nat), s.2.1 = (c : Int) ∧ s.2.2 = (i : Int) ∧ OwnI .u32 h.size h' s.1 zs ∧ Lim 4294967296 zs ∧ zs.length = i ∧ i ≤ xs.length ∧ c ≤ 1 ∧
      val 4294967296 (xs.take i) + 4294967296 ^ i * c = val 4294967296 zs + val 4294967296 (ys.take i) ∧ Ext h h') (fun s _ => xs.length - s.2.2.toNat) ⟨[], 0, 0, rfl, rfl, Own.nil, Lim.nil, rfl, by omega, by omega, by simp [val], Keep.refl _ _⟩ ?_
  rintro ⟨out, carry, i'⟩ h' ⟨zs, c, i, hcc, hii, hown, hlim, hzl, hile, hc1, hval, hext⟩
  simp only at hcc hii hown
  subst hcc hii
  dsimp only
  refine ⟨fun hlt => ?_, fun hge => ?_⟩
  · simp only [decide_eq_true_eq] at hlt
    have hi : i < xs.length := by omega
    refine RI.ld (x1.ext hext) (j := i) rfl hi ?_
    have hxi := x2.get hi
    have hsx := fZ (b := 4294967296) xs i hi
    generalize hxe : xs[i] = xi at *
    have gy := Lim.getD y2 (by decide) i
    have hsy := nh (b := 4294967296) ys i
    rintro d rfl
    rw [wu64 (n := (xi : Int)) (by omega) (by omega)]
    have rest : ∀ t : Int, t = IntKind.wrap .u64 ((xi : Int) - (c : Int) - ((ys.getD i 0 : Nat) : Int)) →
        new [Value.int .u32 (IntKind.wrap .u32 t)] h' fun a_2 h0u2 => aP 1 4 out (⟨some a_2, 1, 1⟩ : Sl) h0u2 fun v_3 h0u3 =>
        Let (Int.fdiv t (2 ^ (min (Int.toNat 63) (IntKind.bits .u64)))) fun borrow => (fun (s' : Sl × Int × Int) h'' => (∃ (zs : List Nat) (c i : Nat), s'.2.1 = (c : Int) ∧ s'.2.2 = (i : Int) ∧ OwnI .u32 h.size h'' s'.1 zs ∧ Lim 4294967296 zs ∧ zs.length = i ∧ i ≤ xs.length ∧ c ≤ 1 ∧
      val 4294967296 (xs.take i) + 4294967296 ^ i * c = val 4294967296 zs + val 4294967296 (ys.take i) ∧ Ext h h'') ∧ xs.length - s'.2.2.toNat < xs.length - (i : Int).toNat) (v_3, borrow, IntKind.wrap .i64 ((i : Int) + 1)) h0u3 := by
      intro t ht
      have htv : t = ((xi : Int) - (c : Int) - ((ys.getD i 0 : Nat) : Int)) % 18446744073709551616 := ht
      generalize hye : ys.getD i 0 = yi at *
      obtain ⟨z, c', hz, hc', hzv, hcv⟩ : ∃ z c' : Nat, z < 4294967296 ∧ c' ≤ 1 ∧ xi + 4294967296 * c' = z + (c + yi) ∧ (t = (z : Int) ∧ c' = 0 ∨ t = (z : Int) - 4294967296 + 18446744073709551616 ∧ c' = 1) := by
        by_cases hb : xi < c + yi
        · exact ⟨xi + 4294967296 - (c + yi), 1, by omega, by omega, by omega, .inr ⟨by omega, rfl⟩⟩
        · exact ⟨xi - (c + yi), 0, by omega, by omega, by omega, .inl ⟨by omega, rfl⟩⟩
      refine app1 (m := z) (by rw [vA]; omega) hown hext.size (by omega) fun s' h2 ho2 hk2 _ => ?_
      rintro borrow rfl
      have hsh : Int.fdiv t (2 ^ (min (Int.toNat 63) (IntKind.bits .u64))) = (c' : Int) := by
        show Int.fdiv t 9223372036854775808 = _
        rw [Int.fdiv_eq_ediv_of_nonneg _ (by omega)]
        omega
      rw [hsh, w64 (by omega) (by omega)]
      refine ⟨⟨zs ++ [z], c', i + 1, rfl, (by dsimp only; omega), ho2, hlim.snoc hz, by simp [hzl], by omega, hc', ?_, Keep.own hext hown (Nat.le_refl _) hk2⟩, (show xs.length - ((i : Int) + 1).toNat < xs.length - (i : Int).toNat from by omega)⟩
      rw [wz, hzl, hsx, hsy, Nat.pow_succ]
      have e1 : 4294967296 ^ i * xi + 4294967296 ^ i * 4294967296 * c' = 4294967296 ^ i * z + (4294967296 ^ i * c + 4294967296 ^ i * yi) := by
        rw [Nat.mul_assoc, ← Nat.mul_add, hzv, Nat.mul_add, Nat.mul_add]
      omega
    refine seq.dup ⟨fun hlt2 => ?_, fun hge2 => ?_⟩
    · simp only [decide_eq_true_eq] at hlt2
      have hj : i < ys.length := by omega
      refine RI.ld (y1.ext hext) (j := i) rfl hj ?_
      have : ys[i] = ys.getD i 0 := by simp [hj]
      rintro d rfl
      rw [this, wu64 (n := ((ys.getD i 0 : Nat) : Int)) (by omega) (by omega)]
      refine rest _ ?_
      rw [aeG, aeG, aeG]
      omega
    · simp only [decide_eq_false_iff_not] at hge2
      refine rest _ ?_
      have : ys.getD i 0 = 0 := by
        have hi : ys.length ≤ i := by omega
        simp [List.getElem?_eq_none hi]
      rw [this]
      simp
  · simp only [decide_eq_false_iff_not] at hge
    have hi : i = xs.length := by omega
    subst hi
    rw [List.take_length, x3] at hval
    have hb1 := tA hlim
    rw [hzl] at hb1
    have hyt := iV (b := 4294967296) ys xs.length
    have hmb := tA x2
    rw [x3] at hmb
    have hyr : val 4294967296 (ys.take xs.length) = n := by
      rw [y3] at hyt
      by_cases hll : ys.length ≤ xs.length
      · rw [List.take_of_length_le hll, y3]
      · rw [Nat.min_eq_left (by omega)] at hyt
        have hz : val 4294967296 (ys.drop xs.length) = 0 := by
          rcases Nat.eq_zero_or_pos (val 4294967296 (ys.drop xs.length)) with h0 | h0
          · exact h0
          · exfalso
            have := Nat.mul_le_mul_left (4294967296 ^ xs.length) h0
            omega
        rw [hz] at hyt
        omega
    rw [hyr] at hval
    have hc0 : c = 0 := by
      rcases Nat.eq_zero_or_pos c with h0 | h0
      · exact h0
      · exfalso
        have : c = 1 := by omega
        subst this
        rw [Nat.mul_one] at hval
        omega
    subst hc0
    refine gu (n := m - n) ⟨zs, hown.r, hlim, by omega, by omega⟩ fun r hr hblk hrl => K r h' hr hext (fun b hb => ?_) ?_
    · rw [hblk] at hb
      exact (hown.lt hb).1
    · have := hown.r.len
      omega
end Go.Sh

namespace Go.Sh
open Go Go.Lift
theorem xC {b : Nat} (hb : 0 < b) {xs : List Nat} (hl : Lim b xs) {k : Nat} (hk : k ≤ xs.length) : val b xs / b ^ k = val b (xs.drop k) := by
  have h1 := iV (b := b) xs k
  rw [Nat.min_eq_left hk] at h1
  have h2 := tA (hl.take k)
  rw [List.length_take, Nat.min_eq_left hk] at h2
  rw [h1, Nat.add_mul_div_left _ _ (Nat.pow_pos hb), Nat.div_eq_of_lt h2, Nat.zero_add]
theorem ajl {l R b : Nat} (hb : b < 32) : (l + 4294967296 * R) / 2 ^ b = l / 2 ^ b + 2 * (2 ^ (31 - b) * R) := by
  have h : (4294967296 : Nat) = 2 ^ b * (2 * 2 ^ (31 - b)) := by
    rw [← Nat.pow_succ', ← Nat.pow_add, show b + (31 - b).succ = 32 from by omega]
  rw [h, Nat.mul_assoc, Nat.add_mul_div_left _ _ (Nat.pow_pos (by decide)), Nat.mul_assoc]
theorem rQ (k b : Nat) : (2 : Nat) ^ (32 * k + b) = 4294967296 ^ k * 2 ^ b := by
  rw [Nat.pow_add, Nat.pow_mul]
theorem alf {xs : List Nat} (hl : Lim 4294967296 xs) {p : Nat} (hp : p / 32 < xs.length) : val 4294967296 xs / 2 ^ p % 2 = xs[p / 32] / 2 ^ (p % 32) % 2 := by
  have e : (2 : Nat) ^ p = 4294967296 ^ (p / 32) * 2 ^ (p % 32) := by rw [← rQ, Nat.div_add_mod]
  rw [e, ← Nat.div_div_eq_div_mul, xC (by decide) hl (by omega), kB xs _ hp, ajl (Nat.mod_lt _ (by decide)), Nat.add_mul_mod_self_left]
theorem ajb {x : Sl} {xs : List Nat} {h : Heap} {i : Int} {p : Nat} {Q : Int → Heap → Prop} (hx : RI .u32 h x xs) (hl : Lim 4294967296 xs) (hi : i = (p : Int)) (hp : p / 32 < xs.length) (hpl : p < 1000000000)
    (K : Q ((val 4294967296 xs / 2 ^ p % 2 : Nat) : Int) h) : xX x i h Q := by
  subst hi
  unfold xX
  have e1 : Int.tdiv (p : Int) 32 = ((p / 32 : Nat) : Int) := rfl
  have e2 : Int.tmod (p : Int) 32 = ((p % 32 : Nat) : Int) := rfl
  rw [e1, e2, w64 (by omega) (by omega)]
  refine RI.ld hx (j := p / 32) rfl hp ⟨by omega, ?_⟩
  have hg := hl.get hp
  rw [alf hl hp] at K
  generalize xs[p / 32] = l at *
  have e3 : Int.fdiv (l : Int) (2 ^ (min (Int.toNat ((p % 32 : Nat) : Int)) (IntKind.bits .u32))) = ((l / 2 ^ (p % 32) : Nat) : Int) := by
    have : min (Int.toNat ((p % 32 : Nat) : Int)) (IntKind.bits .u32) = p % 32 := by
      show min (Int.toNat ((p % 32 : Nat) : Int)) 32 = _
      omega
    rw [this, Int.fdiv_eq_ediv_of_nonneg _ (by exact_mod_cast Nat.zero_le _)]
    norm_cast
  have hd : l / 2 ^ (p % 32) < 4294967296 := Nat.lt_of_le_of_lt (Nat.div_le_self _ _) hg
  rw [e3, akx hd, wu32 (by omega) (by omega)]
  exact K
theorem akf {l b : Nat} (hz : l % 2 ^ (b + 1) = 0) : l ||| 2 ^ b = l + 2 ^ b := by
  have h1 := Nat.div_add_mod l (2 ^ (b + 1))
  rw [hz, Nat.add_zero, Nat.mul_comm] at h1
  rw [← h1]
  exact afK (Nat.pow_lt_pow_right (by decide) (by omega))
theorem ah4 {qs : List Nat} (hl : Lim 4294967296 qs) {Qj p : Nat} (hp : p / 32 < qs.length) (hv : val 4294967296 qs = Qj * 2 ^ (p + 1)) : qs[p / 32] % 2 ^ (p % 32 + 1) = 0 := by
  have h1 := xC (b := 4294967296) (by decide) hl (k := p / 32) (by omega)
  rw [hv, kB qs _ hp] at h1
  have e : (2 : Nat) ^ (p + 1) = 4294967296 ^ (p / 32) * 2 ^ (p % 32 + 1) := by
    rw [← rQ]; congr 1; omega
  rw [e, Nat.mul_left_comm, Nat.mul_div_cancel_left _ (Nat.pow_pos (by decide))] at h1
  have e2 : (4294967296 : Nat) = 2 ^ (p % 32 + 1) * 2 ^ (31 - p % 32) := by
    rw [← Nat.pow_add, show p % 32 + 1 + (31 - p % 32) = 32 from by omega]
  have h2 := congrArg (· % 2 ^ (p % 32 + 1)) h1
  simp only [Nat.mul_mod_left] at h2
  generalize val 4294967296 (qs.drop (p / 32 + 1)) = R at h2
  rw [show qs[p / 32] + 4294967296 * R = qs[p / 32] + 2 ^ (p % 32 + 1) * (2 ^ (31 - p % 32) * R) from by rw [← Nat.mul_assoc, ← e2], Nat.add_mul_mod_self_left] at h2
  omega
theorem afu {x y : Sl} {m n : Nat} {h : Heap} {Q : (Sl × Sl) → Heap → Prop} (hx : NV h x m) (hy : NV h y n) (hxl : x.len ≤ 30000) (hyl : y.len ≤ 30000) (hn : n ≠ 0)
    (K : ∀ q r h', NN h' q (m / n) → NN h' r (m % n) → Ext h h' → (∀ b, q.blk = some b → h.size ≤ b ∧ b < h'.size) → (∀ b, r.blk = some b → h.size ≤ b) → Q (q, r) h') : qf x y h Q := by
  unfold qf
  refine qe hx fun v hv hvm => qe hy fun w hw hwn => ?_
  have fast : nl m ≤ 2 → nl n ≤ 2 → ((w : Int) ≠ 0) ∧ ((w : Int) ≠ 0) ∧ r6 (IntKind.wrap .u64 (Int.tdiv (v : Int) (w : Int))) h fun v_2 h0u3 => r6 (Int.tmod (v : Int) (w : Int)) h0u3 fun v_3 h0u4 => Q (v_2, v_3) h0u4 := by
    intro h1 h2
    have e1 := hvm h1
    have e2 := hwn h2
    subst e1 e2
    refine ⟨by omega, by omega, ?_⟩
    have e3 : Int.tdiv (v : Int) (w : Int) = ((v / w : Nat) : Int) := rfl
    have e4 : Int.tmod (v : Int) (w : Int) = ((v % w : Nat) : Int) := rfl
    have b1 : v / w ≤ v := Nat.div_le_self _ _
    have b2 : v % w ≤ v := Nat.mod_le _ _
    rw [e3, e4]
    obtain ⟨d1, hd1⟩ : ∃ d, v / w = d := ⟨_, rfl⟩
    obtain ⟨d2, hd2⟩ : ∃ d, v % w = d := ⟨_, rfl⟩
    rw [hd1, hd2] at K
    rw [hd1] at b1
    rw [hd2] at b2
    rw [hd1, hd2]
    refine abV (m := d1) (wu64 (by omega) (by omega)) (by omega) fun q h1 hq he1 hqb => abV (m := d2) rfl (by omega) fun r h2 hr he2 hrb => K q r h2 (hq.ext he2) hr (he1.trans he2) (fun b hb => ⟨(hqb b hb).1, Nat.lt_of_lt_of_le (hqb b hb).2 he2.size⟩) (fun b hb => Nat.le_trans he1.size (hrb b hb).1)
  have slow : bZ x h fun v_4 h0u5 => bZ y h0u5 fun v_5 h0u6 => Let (((v_4.len : Nat) : Int) : Int) fun t38 => mkS [Value.int .u32 0] 4 t38 t38 h0u6 fun v_6 h0u7 =>
    Let (IntKind.wrap .i64 ((IntKind.wrap .i64 (((v_4.len : Nat) : Int) * 32)) - 1) : Int) fun at0 =>
    loop (fun (s0 : Sl × Int) h0u8 (K0u1 : (Sl × Int) → Heap → Prop) =>
     iteB (decide (s0.2 ≥ 0)) (
      seq (fun (K0u2 : Sl → Heap → Prop) =>
       qr s0.1 s0.1 h0u8 fun v_7 h0u10 =>
       idxS v_7 0 1 fun a =>
       Lift.load (Value.int .u32) a h0u10 fun v_8 =>
       xX v_4 s0.2 h0u10 fun v_9 h0u11 =>
       (cell? h0u11 a = some (Value.int .u32 v_8)) ∧
       idxS v_7 0 1 fun a_1 =>
       Lift.amL a_1 (Value.int .u32 (IntKind.wrap .u32 (((BitVec.ofInt (IntKind.bits .u32) v_8 ||| BitVec.ofInt (IntKind.bits .u32) v_9).toNat : Int)))) h0u11 fun h0u12 =>
       bZ v_7 h0u12 fun v_10 h0u13 =>
       ni v_10 v_5 h0u13 fun v_11 h0u14 =>
       iteB (decide (v_11 ≥ 0)) (
        lf v_10 v_5 h0u14 fun v_12 h0u15 =>
        idxS v_6 (IntKind.wrap .i64 (Int.tdiv s0.2 32)) 1 fun a_2 =>
        Lift.load (Value.int .u32) a_2 h0u15 fun v_13 =>
        (0 ≤ (Int.tmod s0.2 32)) ∧
        idxS v_6 (IntKind.wrap .i64 (Int.tdiv s0.2 32)) 1 fun a_3 =>
        Lift.amL a_3 (Value.int .u32 (IntKind.wrap .u32 (((BitVec.ofInt (IntKind.bits .u32) v_13 ||| BitVec.ofInt (IntKind.bits .u32) (IntKind.wrap .u32 (1 * 2 ^ (min (Int.toNat (Int.tmod s0.2 32)) (IntKind.bits .u32))))).toNat : Int)))) h0u15 fun h0u16 =>
        K0u2 v_12 h0u16
       ) (
        K0u2 v_10 h0u14
       )
      ) (fun t0u1 h0u9 =>
       Let (IntKind.wrap .i64 (s0.2 - 1) : Int) fun at0u1 =>
       K0u1 (t0u1, at0u1) h0u9
      )
     ) (
      bZ v_6 h0u8 fun v_14 h0u17 =>
      Q (v_14, s0.1) h0u17
     )
    ) (Sl.nil, at0) h0u7 := by
    refine gu hx fun x' hx' hxb hxl' => gu hy fun y' hy' hyb hyl' => ?_
    have hynl := hy'.nl
    have hm0 := hx'
    obtain ⟨xs, x1, x2, x3, x4, x5⟩ := hx'
    have lx := x1.len
    rintro t38 rfl
    refine aeQ (m := xs.length) (by omega) (by omega) fun q h0 ho0 he0 hql => ?_
    obtain ⟨qb, hqb⟩ : ∃ qb, qb = q.blk := ⟨_, rfl⟩
    rintro at0 rfl
    rw [w64 (n := (x'.len : Int) * 32) (by omega) (by omega), w64 (by omega) (by omega)]
    have hmlt := tA x2
    rw [x4] at hmlt
    refine loop.inv (fun s h' => ∃ (qs : List Nat) (j Qj rv : Nat), s.2 = (j : Int) - 1 ∧ j ≤ 32 * xs.length ∧ OwnI .u32 h.size h' q qs ∧ Lim 4294967296 qs ∧ qs.length = xs.length ∧ val 4294967296 qs = Qj * 2 ^ j ∧ m / 2 ^ j = Qj * n + rv ∧ rv < n ∧
        NN h' s.1 rv ∧ (∀ b, s.1.blk = some b → h.size ≤ b ∧ some b ≠ q.blk) ∧ Ext h h') (fun s _ => (s.2 + 1).toNat)
      ⟨List.replicate xs.length 0, 32 * xs.length, 0, 0, by dsimp only; omega, by omega, ho0, fun z hz => by rw [List.eq_of_mem_replicate hz]; decide, by simp, by rw [jh]; simp, ?_, by omega, NN.nil, (fun b hb => by cases hb), he0⟩ ?_
    · have e : (2 : Nat) ^ (32 * xs.length) = 4294967296 ^ xs.length := by have := rQ xs.length 0; simpa using this
      rw [e, Nat.div_eq_of_lt hmlt]; simp
    rintro ⟨r, at1⟩ h1 ⟨qs, j, Qj, rv, hj, hjl, hoq, hql2, hqsl, hqv, hdiv, hrn, hr, hrb, hext⟩
    simp only at hj hr hrb
    subst hj
    dsimp only
    refine ⟨fun hge => ?_, fun hlt => ?_⟩
    · simp only [ge_iff_le, decide_eq_true_eq] at hge
      obtain ⟨p, rfl⟩ : ∃ p, j = p + 1 := ⟨j - 1, by omega⟩
      have hp : p / 32 < xs.length := by omega
      have hrl : r.len ≤ 30000 := by
        rw [hr.nl]
        have := nH (Nat.le_of_lt hrn)
        omega
      refine seq.dup ?_
      refine ac6 hr.nv hr.nv (by omega) (by omega) fun z h2 zs hoz hzl hzv hzlen he2 => ?_
      have hz0 : 0 < zs.length := by omega
      obtain ⟨az, haz, hcz⟩ := hoz.r.get hz0
      have hzlen' := hoz.r.len
      refine ⟨az, haz, ⟨by omega, by omega⟩, ((zs[0] : Nat) : Int), by simpa using hcz, ?_⟩
      refine ajb (p := p) (x1.ext (hext.trans he2)) x2 (by omega) hp (by omega) ⟨by simpa using hcz, ?_⟩
      have hz0l := hzl.get hz0
      obtain ⟨bit, hbit⟩ : ∃ bit, val 4294967296 xs / 2 ^ p % 2 = bit := ⟨_, rfl⟩
      have hbl : bit < 2 := by rw [← hbit]; exact Nat.mod_lt _ (by decide)
      rw [hbit, or32 hz0l (by omega)]
      have heven : zs[0] % 2 = 0 := by
        have h1 := kB (b := 4294967296) zs 0 hz0
        rw [List.drop_zero, hzv] at h1
        omega
      have hor : zs[0] ||| bit = zs[0] + bit := by
        have h1 : zs[0] / 2 * 2 ^ 1 = zs[0] := by omega
        rw [← h1]; exact afK (by omega)
      rw [hor]
      refine Own.st hoz (j := 0) (m := zs[0] + bit) rfl hz0 (wu32 (by omega) (by omega)) fun h3 hoz3 hk3 hs3 => ?_
      have he3 : Ext h1 h3 := Keep.own he2 hoz (Nat.le_refl _) hk3
      have hv3 : val 4294967296 (zs.set 0 (zs[0] + bit)) = 2 * rv + bit := by
        have := yJ (b := 4294967296) zs 0 hz0 (zs[0] + bit)
        rw [hzv] at this
        simp at this
        omega
      refine gu ⟨_, hoz3.r, hzl.set 0 (by omega), hv3, by simp; omega⟩ fun t ht htb htl => ?_
      refine rW ht.nv (hy'.nv.ext (hext.trans he3)) ?_
      have hx0 : val 4294967296 xs / 2 ^ p = 2 * (m / 2 ^ (p + 1)) + bit := by
        have h1 := Nat.div_add_mod (val 4294967296 xs / 2 ^ p) 2
        rw [hbit, Nat.div_div_eq_div_mul, ← Nat.pow_succ, x4] at h1
        rw [x4]
        exact h1.symm
      rw [x4] at hx0
      have hpw : (2 : Nat) ^ (p + 1) = 2 * 2 ^ p := by rw [Nat.pow_succ, Nat.mul_comm]
      have htb' : ∀ b, t.blk = some b → h1.size ≤ b := fun b hb => (hoz.lt (by rw [← htb]; exact hb)).1
      have hqlt : ∀ b, q.blk = some b → b < h1.size := fun b hb => (hoq.lt hb).2
      have hoq3 : OwnI .u32 h.size h3 q qs := hoq.ext he3
      refine ⟨fun hc => ?_, fun hc => ?_⟩
      · have hge2 : n ≤ 2 * rv + bit := by
          simp only [ge_iff_le, decide_eq_true_eq] at hc
          unfold cmpI at hc
          by_cases hlt : 2 * rv + bit < n
          · rw [if_pos hlt] at hc; omega
          · omega
        refine tZ ht.nv (hy'.nv.ext (hext.trans he3)) ?_ hge2 fun u h4 hu he4 hub hul => ?_
        · have := hoz3.r.len; simp at this; omega
        have hpl : p / 32 < qs.length := by omega
        have e1 : Int.tdiv ((p + 1 : Nat) - 1 : Int) 32 = ((p / 32 : Nat) : Int) := by
          rw [show (((p + 1 : Nat) : Int) - 1) = (p : Int) from by omega]; rfl
        have e2 : Int.tmod ((p + 1 : Nat) - 1 : Int) 32 = ((p % 32 : Nat) : Int) := by
          rw [show (((p + 1 : Nat) : Int) - 1) = (p : Int) from by omega]; rfl
        have hoq4 : OwnI .u32 h.size h4 q qs := hoq3.ext he4
        rw [e1, e2, w64 (by omega) (by omega)]
        refine RI.ld hoq4.r (j := p / 32) rfl hpl ⟨by omega, ?_⟩
        have hlz := ah4 hql2 (p := p) (Qj := Qj) hpl hqv
        have hgl := hql2.get hpl
        have hset := yJ (b := 4294967296) qs (p / 32) hpl (qs[p / 32] + 2 ^ (p % 32))
        have hmin : min (Int.toNat ((p % 32 : Nat) : Int)) (IntKind.bits .u32) = p % 32 := by
          show min (Int.toNat ((p % 32 : Nat) : Int)) 32 = _
          omega
        have hsh : IntKind.wrap .u32 (1 * 2 ^ (min (Int.toNat ((p % 32 : Nat) : Int)) (IntKind.bits .u32))) = ((2 ^ (p % 32) : Nat) : Int) := by
          rw [hmin, Int.one_mul]
          have h1 : (2 : Nat) ^ (p % 32) < 2 ^ 32 := Nat.pow_lt_pow_right (by decide) (Nat.mod_lt _ (by decide))
          have h2 : ((2 : Int) ^ (p % 32)) = ((2 ^ (p % 32) : Nat) : Int) := by norm_cast
          rw [h2, wu32 (by omega) (by omega)]
        have hb32 : (2 : Nat) ^ (p % 32) < 4294967296 := by
          have h1 : (2 : Nat) ^ (p % 32) < 2 ^ 32 := Nat.pow_lt_pow_right (by decide) (Nat.mod_lt _ (by decide))
          exact h1
        rw [hsh, or32 hgl hb32, akf hlz]
        have hlsum : qs[p / 32] + 2 ^ (p % 32) < 4294967296 := by
          rw [← akf hlz]
          exact Nat.or_lt_two_pow (n := 32) hgl hb32
        refine Own.st hoq4 (j := p / 32) (m := qs[p / 32] + 2 ^ (p % 32)) rfl hpl (wu32 (by omega) (by omega)) fun h5 hoq5 hk5 hs5 => ?_
        rintro at2 rfl
        rw [w64 (by omega) (by omega)]
        have hext5 : Ext h h5 := Keep.own ((hext.trans he3).trans he4) hoq4 (Nat.le_refl _) hk5
        have hune : u.blk ≠ q.blk := fun he => by
          cases hqk : q.blk with
          | none =>
            rcases hoq.own with ⟨h1, _⟩ | ⟨b, c, T, h1, _⟩
            · obtain ⟨aq, haq, _⟩ := hoq.r.get hpl
              rw [h1] at haq; cases haq
            · simp [Sl.blk, h1] at hqk
          | some b =>
            have h1 := hub b (by rw [he, hqk])
            have h2 := hqlt b hqk
            have := he3.size
            omega
        have hu5 : NN h5 u (2 * rv + bit - n) := by
          cases hqk : q.blk with
          | none => rw [hqk] at hk5; exact hu.ext hk5
          | some b => rw [hqk] at hk5 hune; exact hu.keep hk5 hune
        refine ⟨⟨_, p, 2 * Qj + 1, 2 * rv + bit - n, by omega, by omega, hoq5, hql2.set _ hlsum, by simpa using hqsl, ?_, ?_, by omega, hu5, fun b hb => ⟨?_, fun he => hune (by rw [hb, he])⟩, hext5⟩, by omega⟩
        · have e3 : 4294967296 ^ (p / 32) * (qs[p / 32] + 2 ^ (p % 32)) = 4294967296 ^ (p / 32) * qs[p / 32] + 2 ^ p := by
            rw [Nat.mul_add]
            congr 1
            rw [← rQ, Nat.div_add_mod]
          rw [e3, hqv, hpw] at hset
          have e4 : (2 * Qj + 1) * 2 ^ p = Qj * (2 * 2 ^ p) + 2 ^ p := by
            rw [Nat.add_mul, Nat.one_mul, ← Nat.mul_assoc, Nat.mul_comm 2 Qj]
          omega
        · rw [hx0, hdiv]
          have : (2 * Qj + 1) * n = 2 * (Qj * n) + n := by rw [Nat.add_mul, Nat.one_mul, Nat.mul_assoc]
          omega
        · have h1 := hub b hb
          have := he3.size
          have := hext.size
          omega
      · have hlt2 : 2 * rv + bit < n := by
          simp only [ge_iff_le, decide_eq_false_iff_not] at hc
          unfold cmpI at hc
          by_cases hlt : 2 * rv + bit < n
          · exact hlt
          · rw [if_neg hlt] at hc
            split at hc <;> omega
        rintro at2 rfl
        rw [w64 (by omega) (by omega)]
        refine ⟨⟨qs, p, 2 * Qj, 2 * rv + bit, by omega, by omega, hoq3, hql2, hqsl, ?_, ?_, hlt2, ht, fun b hb => ⟨?_, fun he => ?_⟩, hext.trans he3⟩, by omega⟩
        · rw [hqv, hpw, ← Nat.mul_assoc, Nat.mul_comm Qj 2]
        · rw [hx0, hdiv]
          have : 2 * Qj * n = 2 * (Qj * n) := Nat.mul_assoc _ _ _
          omega
        · have := htb' b hb
          have := hext.size
          omega
        · have h1 := htb' b hb
          have h2 := hqlt b he.symm
          omega
    · simp only [ge_iff_le, decide_eq_false_iff_not] at hlt
      have hj0 : j = 0 := by omega
      subst hj0
      rw [Nat.pow_zero, Nat.div_one] at hdiv
      rw [Nat.pow_zero, Nat.mul_one] at hqv
      have hq : m / n = Qj ∧ m % n = rv := by
        have h0 : 0 < n := by omega
        constructor
        · rw [hdiv, Nat.mul_comm, Nat.mul_add_div h0, Nat.div_eq_of_lt hrn, Nat.add_zero]
        · rw [hdiv, Nat.mul_comm, Nat.mul_add_mod, Nat.mod_eq_of_lt hrn]
      rw [hq.1, hq.2] at K
      refine gu ⟨qs, hoq.r, hql2, hqv, by omega⟩ fun q' hq' hqb' _ => K q' r h1 hq' hr hext (fun b hb => ?_) (fun b hb => (hrb b hb).1)
      rw [hqb'] at hb
      exact hoq.lt hb
  refine seq.dup ⟨fun h1 => ?_, fun h1 => ?_⟩
  · simp only [decide_eq_true_eq] at h1
    refine ⟨fun h2 => ?_, fun h2 => ?_⟩
    · simp only [decide_eq_true_eq] at h2
      exact fast h1 h2
    · exact slow
  · exact ⟨nofun, fun _ => slow⟩
end Go.Sh

namespace Go.Sh
open Go Go.Lift
theorem kO {s : Sl} {xs : List Nat} {h : Heap} {k : ByteArray → Prop} (hr : RI .u8 h s xs) (K : k (tY (xs.map fun n : Nat => (n : Int)))) : yM s h k := by
  refine ⟨xs.map fun n : Nat => (n : Int), ?_, K⟩
  have := hr.cells
  rw [this]
  simp
noncomputable def ajv (h : Heap) (s : Sl) : Nat := open Classical in if hx : ∃ k, NN h s k then Classical.choose hx else 0
theorem NN.uniq {h : Heap} {s : Sl} {m n : Nat} (hm : NN h s m) (hn : NN h s n) : m = n := by
  obtain ⟨xs, x1, _, _, x4, _⟩ := hm
  obtain ⟨ys, y1, _, _, y4, _⟩ := hn
  have h1 := x1.cells
  have h2 := y1.cells
  rw [h1] at h2
  simp only [Option.some.injEq] at h2
  have : xs = ys := by
    apply List.ext_getElem
    · have := congrArg List.length h2; simpa using this
    · intro i hi hj
      have := congrArg (fun l => l[i]?) h2
      simp [hi, hj] at this
      exact_mod_cast this
  rw [← x4, ← y4, this]
theorem wB {h : Heap} {s : Sl} {n : Nat} (hn : NN h s n) : ajv h s = n := by
  unfold ajv
  have hx : ∃ k, NN h s k := ⟨n, hn⟩
  rw [dif_pos hx]
  exact (Classical.choose_spec hx).uniq hn
end Go.Sh

namespace Go.Sh
open Go Go.Lift
theorem aaA {x : Sl} {xs : List Nat} {h : Heap} {Q : Bool → Heap → Prop} (hx : RI .u32 h x xs) (hl : xs.length ≤ 1048576) (K : Q (xs.getLast? != some 0) h) : qa x h Q := by
  unfold qa
  refine ac9 hx (by omega) fun r ys hr hpre hn hv _ => ?_
  have lx := hx.len
  have lr := hr.len
  have : ((r.len : Int) == (x.len : Int)) = (xs.getLast? != some 0) := by
    by_cases hlen : ys.length = xs.length
    · have : ys = xs := by rw [hpre, hlen, List.take_length]
      subst this
      have h1 : ((r.len : Int) == (x.len : Int)) = true := by rw [beq_iff_eq]; omega
      rw [h1]
      unfold Nrm at hn
      simp [hn]
    · have h1 : ((r.len : Int) == (x.len : Int)) = false := by rw [beq_eq_false_iff_ne]; omega
      rw [h1]
      by_cases hz : xs.getLast? = some 0
      · simp [hz]
      · exfalso
        have hlt : ys.length < xs.length := by
          have := congrArg List.length hpre; simp at this; omega
        have h2 := iV (b := 4294967296) xs ys.length
        rw [Nat.min_eq_left (by omega), ← hpre, hv] at h2
        have h3 : 4294967296 ^ ys.length * val 4294967296 (xs.drop ys.length) = 0 := by omega
        have h4 : val 4294967296 (xs.drop ys.length) = 0 := by
          rcases Nat.mul_eq_zero.1 h3 with h | h
          · exact absurd h (Nat.pos_iff_ne_zero.1 (Nat.pow_pos (by decide)))
          · exact h
        have hn2 : Nrm (xs.drop ys.length) := by
          unfold Nrm
          rw [List.getLast?_drop]
          rw [if_neg (by omega)]
          exact hz
        have h5 := mW (b := 4294967296) (by decide) hn2 h4
        have := congrArg List.length h5
        simp at this
        omega
  rw [this]; exact K
end Go.Sh

namespace Go.Sh
open Go Go.Lift
def cs (s : ByteArray) : List Nat := s.data.toList.map (·.toNat)
def dv (c : List Nat) : Nat := val 10 (c.reverse.map (· - 48))
def digs (c : List Nat) : Bool := c.all fun d => decide (48 ≤ d) && decide (d ≤ 57)
end Go.Sh

namespace Go.Sh
open Go Go.Lift
end Go.Sh
