/- Laws that the proof of this claim's statement leans on, each proved under the conditions that it states. -/
import Derived.Test.YtdcdidecehbplaaDoorSpec1
set_option linter.unusedVariables false
set_option linter.unusedSimpArgs false
namespace Go.Sh
open Go Go.Lift

/-! ### How many limbs -/
def nl (n : Nat) : Nat := if h : n = 0 then 0 else nl (n / 4294967296) + 1
termination_by n
decreasing_by exact Nat.div_lt_self (Nat.pos_of_ne_zero h) (by decide)
theorem nl_zero : nl 0 = 0 := by rw [nl]; simp
theorem nl_pos {n : Nat} (h : n ≠ 0) : nl n = nl (n / 4294967296) + 1 := by rw [nl]; simp [h]
theorem nl_val : ∀ {xs : List Nat}, Lim 4294967296 xs → Nrm xs → xs.length = nl (val 4294967296 xs) := by
  intro xs
  induction xs with
  | nil => intro _ _; rw [val_nil, nl_zero]; rfl
  | cons x xs ih =>
    intro hl hn
    have hx : x < 4294967296 := hl x (by simp)
    have h0 : val 4294967296 (x :: xs) ≠ 0 := fun h => by
      have := val_zero (b := 4294967296) (by decide) hn h
      cases this
    rw [nl_pos h0]
    have : val 4294967296 (x :: xs) / 4294967296 = val 4294967296 xs := by
      simp only [val]
      rw [Nat.add_mul_div_left _ _ (by decide), Nat.div_eq_of_lt hx, Nat.zero_add]
    rw [this, List.length_cons, ih (fun y hy => hl y (by simp [hy])) hn.tail]
theorem nl_mono : ∀ {m n : Nat}, m ≤ n → nl m ≤ nl n := by
  intro m
  induction m using Nat.strongRecOn with
  | _ m ih =>
    intro n h
    by_cases hm : m = 0
    · subst hm; rw [nl_zero]; omega
    · have hn : n ≠ 0 := by omega
      rw [nl_pos hm, nl_pos hn]
      have := ih (m / 4294967296) (Nat.div_lt_self (by omega) (by decide)) (Nat.div_le_div_right (c := 4294967296) h)
      omega
theorem NN.nl {h : Heap} {s : Sl} {n : Nat} (hs : NN h s n) : s.len = nl n := by
  obtain ⟨xs, h1, h2, h3, h4, _⟩ := hs
  rw [h1.len, nl_val h2 h3, h4]
theorem nl_le_iff {n k : Nat} : Go.Sh.nl n ≤ k ↔ n < 4294967296 ^ k := by
  induction k generalizing n with
  | zero =>
    constructor
    · intro h
      by_cases hn : n = 0
      · subst hn; simp
      · rw [nl_pos hn] at h; omega
    · intro h
      have : n = 0 := by simpa using h
      subst this; rw [nl_zero]; omega
  | succ k ih =>
    by_cases hn : n = 0
    · subst hn; rw [nl_zero]; exact iff_of_true (by omega) (Nat.pow_pos (by decide))
    · rw [nl_pos hn, Nat.succ_le_succ_iff, ih, Nat.pow_succ, Nat.div_lt_iff_lt_mul (by decide)]

/-! ### The bench -/
/-- A bench of so many limbs, whether it is over. -/
structure Bench (h : Heap) (a : Addr) (lim : Nat) (ov : Bool) : Prop where
  spot : a.spot = none
  limb : cell? h (a.add 0) = some (.int .i64 (lim : Int))
  over : cell? h (a.add 1) = some (.bool ov)
  free : frozen? h (a.add 1) = false
theorem Bench.lt {h : Heap} {a : Addr} {lim : Nat} {ov : Bool} (hb : Bench h a lim ov) : a.block < h.size := by
  have := cell_lt hb.over
  rwa [addr_add_block] at this
theorem Bench.keep {h h' : Heap} {a : Addr} {lim : Nat} {ov : Bool} (hb : Bench h a lim ov) {o : Option Nat} (k : Keep o h h') (hne : some a.block ≠ o) : Bench h' a lim ov :=
  ⟨hb.spot, cell_keep k hb.limb (by rw [addr_add_block]; exact hne), cell_keep k hb.over (by rw [addr_add_block]; exact hne), frozen_keep k (by rw [addr_add_block]; exact hb.lt) hb.free (by rw [addr_add_block]; exact hne)⟩
theorem Bench.ext {h h' : Heap} {a : Addr} {lim : Nat} {ov : Bool} (hb : Bench h a lim ov) (k : Ext h h') : Bench h' a lim ov := hb.keep k (by simp)
theorem add1uspot (a : Addr) : (a.add 1).spot = none := by simp [Addr.add]
theorem Bench.set {h : Heap} {a : Addr} {lim : Nat} {ov : Bool} (hb : Bench h a lim ov) (ov' : Bool) : Bench (setCell h (a.add 1) (.bool ov')) a lim ov' := by
  refine ⟨hb.spot, ?_, cell_set_same hb.over, by rw [frozen_set]; exact hb.free⟩
  rw [cell_set_ne]
  · exact hb.limb
  · right; left
    rw [addr_add _ _ hb.spot, addr_add _ _ hb.spot]
    simp
theorem Bench.store {h : Heap} {a : Addr} {lim : Nat} {ov : Bool} (hb : Bench h a lim ov) (ov' : Bool) {k : Heap → Prop} (K : ∀ h', Bench h' a lim ov' → Keep (some a.block) h h' → h'.size = h.size → k h') : Lift.store (a.add 1) (.bool ov') h k := by
  refine ⟨⟨_, hb.over⟩, hb.free, K _ (hb.set ov') ?_ (by simp [setCell])⟩
  have := Keep.setCell h (a.add 1) (.bool ov')
  rwa [addr_add_block] at this
theorem New_spec {limbs : Int} {h : Heap} {Q : Option Addr → Heap → Prop} (K : ∀ a h', Bench h' a (max limbs.toNat 1) false → a.block = h.size → Ext h h' → Q (some a) h') : nat_New limbs h Q := by
  intro T
  have hl : (if 1 > limbs then 1 else limbs) = ((max limbs.toNat 1 : Nat) : Int) := by split <;> omega
  rw [hl]
  refine K _ _ ⟨rfl, ?_, ?_, ?_⟩ rfl (Ext.push _ _)
  · rw [cell_push_new_add]; rfl
  · rw [cell_push_new_add]; rfl
  · rw [addr_add _ _ rfl]; unfold frozen?; simp
theorem Over_spec {a : Addr} {lim : Nat} {ov : Bool} {h : Heap} {Q : Bool → Heap → Prop} (hb : Bench h a lim ov) (K : Q ov h) : nat_Bench_Over (some a) h Q :=
  ⟨a, rfl, ov, hb.over, K⟩

theorem clone_spec {x : Sl} {xs : List Nat} {h : Heap} {Q : Sl → Heap → Prop} (hx : RI .u32 h x xs) (hl : xs.length ≤ 1048576)
    (K : ∀ r h', OwnI .u32 h.size h' r xs → Ext h h' → Q r h') : slices_Clone_api_Nat_uint32 x h Q := by
  refine ⟨fun hn => ?_, fun hn => ?_⟩
  · have : xs = [] := by
      have hc := hx.cells
      have ha : x.a = none := by simpa using hn
      rw [ha] at hc
      simp only [cellsO?, Option.some.injEq] at hc
      cases xs with
      | nil => rfl
      | cons x xs => simp at hc
    subst this
    exact K _ _ Own.nil (Keep.refl _ _)
  · intro T
    have ho : OwnI .u32 h.size (h.push (.cells ([] : List Value).toArray T (0, 0))) ⟨some ⟨h.size, 0, none⟩, 0, 0⟩ [] := Own.new (ys := []) rfl
    have he : Ext h (h.push (.cells ([] : List Value).toArray T (0, 0))) := Ext.push _ _
    refine ho.append (by simp) (hx.ext he) (one_int _) (by simp; omega) fun s' h' ho' hk _ => K s' h' (by simpa using ho') ?_
    exact he.fresh (by simp) hk

/-- fit. -/
theorem fit_spec {a : Addr} {lim : Nat} {ov : Bool} {x : Sl} {n : Nat} {h : Heap} {Q : Sl → Heap → Prop} (hb : Bench h a lim ov) (hx : NV h x n) (hne : x.blk = some a.block → n = 0)
    (K : ∀ r h', Bench h' a lim (ov || decide (lim < nl n)) → Keep (some a.block) h h' → ((ov || decide (lim < nl n)) = false → NN h' r n) → ((ov || decide (lim < nl n)) = true → r = Sl.nil) → (∀ b, r.blk = some b → h.size ≤ b) → Q r h') : nat_Bench_fit (some a) x h Q := by
  unfold nat_Bench_fit
  refine trim_nn hx fun v hv hblk _ => ?_
  have hvb : v.blk = some a.block → n = 0 := by rw [hblk]; exact hne
  have hnl := hv.nl
  -- what comes behind
  have rest : ∀ h1, Bench h1 a lim (ov || decide (lim < nl n)) → Keep (some a.block) h h1 → h1.size = h.size →
      nilChk (some a) fun a_4 => Lift.load Value.bool (a_4.add 1) h1 fun v_3 => iteB v_3 (Q Sl.nil h1) (slices_Clone_api_Nat_uint32 v h1 fun v_4 h0u4 => Q v_4 h0u4) := by
    intro h1 hb1 hk hsz
    refine ⟨a, rfl, _, hb1.over, fun hov => ?_, fun hov => ?_⟩
    · exact K _ _ hb1 hk (fun hf => by rw [hov] at hf; cases hf) (fun _ => rfl) (fun b hb => by cases hb)
    · obtain ⟨xs, x1, x2, x3, x4, x5⟩ := hv.keep' hk hvb
      refine clone_spec x1 x5 fun r h' ho he => ?_
      refine K r h' (hb1.ext he) (hk.trans (Keep.of_ext he)) (fun _ => ⟨xs, ho.r, x2, x3, x4, x5⟩) (fun ht => by rw [hov] at ht; cases ht) (fun b hbb => ?_)
      have := (ho.lt hbb).1
      omega
  refine seq.dup ?_
  refine ⟨a, rfl, ov, hb.over, fun hov => ?_, fun hov => ?_⟩
  · subst hov
    refine ⟨a, rfl, hb.store true fun h1 hb1 hk hsz => rest h1 (by simpa using hb1) hk hsz⟩
  · subst hov
    refine ⟨a, rfl, _, hb.limb, a, rfl, ?_⟩
    have : decide ((v.len : Int) > (lim : Int)) = (false || decide (lim < nl n)) := by rw [hnl]; simp
    rw [this]
    exact hb.store _ fun h1 hb1 hk hsz => rest h1 hb1 hk hsz

theorem Add_spec {a : Addr} {lim : Nat} {ov : Bool} {x y : Sl} {m n : Nat} {h : Heap} {Q : Sl → Heap → Prop} (hb : Bench h a lim ov) (hx : NV h x m) (hy : NV h y n) (hxl : x.len ≤ 1048000) (hyl : y.len ≤ 1048000)
    (K : ∀ r h', Bench h' a lim (ov || decide (lim < nl (m + n))) → Keep (some a.block) h h' → ((ov || decide (lim < nl (m + n))) = false → NN h' r (m + n)) → ((ov || decide (lim < nl (m + n))) = true → r = Sl.nil) → (∀ b, r.blk = some b → h.size ≤ b) → Q r h') : nat_Bench_Add (some a) x y h Q := by
  unfold nat_Bench_Add
  refine plus_spec hx hy hxl hyl fun v h1 zs ho hlim hval hlen he => ?_
  refine fit_spec (hb.ext he) ⟨zs, ho.r, hlim, hval, by omega⟩ (fun hbl => ?_) fun r h2 hb2 hk h3 h4 h5 => K r h2 hb2 ((Keep.of_ext he).trans hk) h3 h4 (fun b hbb => Nat.le_trans he.size (h5 b hbb))
  have := (ho.lt hbl).1
  have := hb.lt
  omega
end Go.Sh
