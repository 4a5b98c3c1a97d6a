/-
  Laws that the proof of this claim's statement leans on, each proved under the conditions that it states.
-/
import Derived.Test.YtafkahjfbiamlaaDoorSpE
import Derived.Test.YtafkahjfbiamlaaDoorFwM
set_option linter.unusedVariables false
set_option linter.unusedSimpArgs false
namespace Go.Sh
open Go Go.Lift

/-! ### Bytes as numbers, the greatest first -/
def be (l : List Nat) : Nat := l.foldl (fun n c => 256 * n + c) 0
theorem be_nil : be [] = 0 := rfl
theorem be_snoc (l : List Nat) (c : Nat) : be (l ++ [c]) = 256 * be l + c := by simp [be]
theorem be_lt (l : List Nat) : ∀ n, l.length = n → Lim 256 l → be l < 256 ^ n := by
  intro n
  induction n generalizing l with
  | zero => intro hl _; rw [List.eq_nil_of_length_eq_zero hl]; decide
  | succ n ih =>
    intro hl hL
    have hne : l ≠ [] := fun h => by subst h; simp at hl
    have e := (List.dropLast_concat_getLast hne).symm
    rw [e, be_snoc]
    have h1 := ih l.dropLast (by simp [hl]) (fun x hx => hL x (List.dropLast_subset _ hx))
    have h2 := hL _ (List.getLast_mem hne)
    rw [Nat.pow_succ]
    omega
theorem be_take (l : List Nat) {i : Nat} (hi : i < l.length) : be (l.take (i + 1)) = 256 * be (l.take i) + l[i] := by
  rw [List.take_succ_eq_append_getElem hi, be_snoc]

/-! ### What is told of bytes; none: something was wrong -/
abbrev St := Option (List Nat)
def tk : St → Int → List Nat × St
  | none, _ => ([], none)
  | some bs, n => if 0 ≤ n ∧ n ≤ (bs.length : Int) then (bs.take n.toNat, some (bs.drop n.toNat)) else ([], none)
def numS (st : St) (k : Nat) : Nat × St := (be (tk st k).1, (tk st k).2)
def sg (n : Nat) : Int := IntKind.wrap .i64 (n : Int)
def cnt (st : St) (least : Int) : Int × St :=
  match (numS st 8).2 with
  | none => (0, none)
  | some bs => if sg (numS st 8).1 < 0 ∨ sg (numS st 8).1 > (bs.length : Int) / max least 1 then (0, none) else (sg (numS st 8).1, some bs)
def flagS (st : St) : Bool × St := if (numS st 1).1 > 1 then (false, none) else ((numS st 1).1 == 1, (numS st 1).2)
def chunks (w c : Nat) (bs : List Nat) : List Nat := (List.range c).map fun j => be ((bs.drop (w * j)).take w)
def rowS (w : Nat) (st : St) : List Nat × St :=
  match (cnt st w).2 with
  | none => ([], none)
  | some bs => (chunks w (cnt st w).1.toNat bs, some (bs.drop (w * (cnt st w).1.toNat)))
def bytesS (st : St) : List Nat × St := tk (cnt st 1).2 (cnt st 1).1
/-- May be a ratio. -/
def isQL (neg : Bool) (xs ys : List Nat) : Prop := Nrm xs ∧ Nrm ys ∧ val 4294967296 ys ≠ 1 ∧ (if val 4294967296 xs = 0 then neg = false ∧ val 4294967296 ys = 0 else Nat.gcd (val 4294967296 xs) (Dn ys) = 1)
def ratGood (st : St) : Prop := (rowS 4 (rowS 4 (flagS st).2).2).2.isSome = true ∧ isQL (flagS st).1 (rowS 4 (flagS st).2).1 (rowS 4 (rowS 4 (flagS st).2).2).1
open Classical in
noncomputable def ratS (st : St) : (Bool × List Nat × List Nat) × St :=
  if ratGood st then (((flagS st).1, (rowS 4 (flagS st).2).1, (rowS 4 (rowS 4 (flagS st).2).2).1), (rowS 4 (rowS 4 (flagS st).2).2).2) else ((false, [], []), none)

theorem tk_none (n : Int) : tk none n = ([], none) := rfl
theorem cnt_none (k : Int) : cnt none k = (0, none) := rfl
def lens (st : St) : Nat := (st.getD []).length
def limS (st : St) : Prop := Lim 256 (st.getD [])
theorem tk_lim {st : St} (h : limS st) (n : Int) : Lim 256 (tk st n).1 ∧ limS (tk st n).2 ∧ lens (tk st n).2 ≤ lens st ∧ (tk st n).1.length ≤ lens st := by
  cases st with
  | none => exact ⟨Lim.nil, h, Nat.le_refl _, Nat.zero_le _⟩
  | some bs =>
    have h : Lim 256 bs := h
    simp only [tk]
    split
    · refine ⟨h.take _, fun x hx => h x (List.mem_of_mem_drop hx), ?_, ?_⟩
      · simp [lens]
      · simp [lens]; omega
    · exact ⟨Lim.nil, Lim.nil, Nat.zero_le _, Nat.zero_le _⟩
theorem cnt_spec (st : St) (least : Int) : (∃ bs, (cnt st least).2 = some bs ∧ 0 ≤ (cnt st least).1 ∧ (cnt st least).1 ≤ (bs.length : Int) / max least 1 ∧ (numS st 8).2 = some bs) ∨ cnt st least = (0, none) := by
  unfold cnt
  cases h : (numS st 8).2 with
  | none => exact .inr rfl
  | some bs =>
    dsimp only
    split
    · exact .inr rfl
    · rename_i hn
      refine .inl ⟨bs, rfl, ?_, ?_, rfl⟩ <;> (dsimp only; omega)

/-! ### The program's -/
theorem off_ne {a : Addr} (hs : a.spot = none) {i j : Nat} (h : i ≠ j) : (a.add i).off ≠ (a.add j).off := by
  rw [addr_add _ _ hs, addr_add _ _ hs]; simp; exact h
/-- What takes, in memory. z: a block that its bytes don't lie in. -/
structure PI (h : Heap) (a : Addr) (z m : Nat) (st : St) : Prop where
  spot : a.spot = none
  c : ∃ s, cell? h (a.add 0) = some (Sl.toV s) ∧ cell? h (a.add 1) = some (Value.bool st.isNone) ∧ RI .u8 h s (st.getD []) ∧ s.blk ≠ some a.block ∧ s.blk ≠ some z ∧ ∀ b, s.blk = some b → b < m
  f0 : frozen? h (a.add 0) = false
  f1 : frozen? h (a.add 1) = false
  ne : a.block ≠ z
  am : a.block < m
  zm : z < m
  ms : m ≤ h.size
  lim : limS st
  len : lens st ≤ 1000000
variable {h h' : Heap} {a : Addr} {z m : Nat} {st : St}
theorem PI.keep {o : Option Nat} (p : PI h a z m st) (k : Keep o h h') (ho : ∀ b, o = some b → b = z ∨ m ≤ b) : PI h' a z m st := by
  obtain ⟨s, c0, c1, r, d1, d2, d3⟩ := p.c
  have hne : some a.block ≠ o := fun e => (ho _ e.symm).elim p.ne (fun h => by have := p.am; omega)
  refine { p with c := ⟨s, cell_keep k c0 (by rw [addr_add_block]; exact hne), cell_keep k c1 (by rw [addr_add_block]; exact hne), r.keep k (fun x hx e => (ho _ e.symm).elim (fun h => d2 (by rw [← h]; simp [Sl.blk, hx])) (fun h => by have := d3 x.block (by simp [Sl.blk, hx]); omega)), d1, d2, d3⟩, ms := Nat.le_trans p.ms k.size, f0 := frozen_keep k (cell_lt c0) p.f0 (by rw [addr_add_block]; exact hne), f1 := frozen_keep k (cell_lt c1) p.f1 (by rw [addr_add_block]; exact hne) }
theorem PI.ext (p : PI h a z m st) (e : Ext h h') : PI h' a z m st := p.keep e (fun b hb => by cases hb)
theorem keepSet (a : Addr) (i : Nat) (v : Value) (h : Heap) : Keep (some a.block) h (setCell h (a.add i) v) := by
  have := Keep.setCell h (a.add i) v
  rwa [addr_add_block] at this

theorem fail_spec {Q : Unit → Heap → Prop} (p : PI h a z m st) (K : ∀ h', PI h' a z m none → Keep (some a.block) h h' → Q () h') : pack_In_fail (some a) h Q := by
  obtain ⟨s, c0, c1, r, d1, d2, d3⟩ := p.c
  have n01 : a.add 0 ≠ a.add 1 := fun e => off_ne p.spot (i := 0) (j := 1) (by decide) (by rw [e])
  refine ⟨a, rfl, ⟨⟨_, c0⟩, p.f0, ⟨_, c1⟩, p.f1, trivial⟩, ?_⟩
  show Q () (setCell (setCell h (a.add 0) (Sl.toV Sl.nil)) (a.add 1) (Value.bool true))
  have c1' : cell? (setCell h (a.add 0) (Sl.toV Sl.nil)) (a.add 1) = some (Value.bool st.isNone) := by
    rw [cell_set_ne (.inr (.inl (off_ne p.spot (by decide))))]; exact c1
  refine K _ ⟨p.spot, ⟨Sl.nil, ?_, cell_set_same c1', R.nil, by simp [Sl.blk, Sl.nil], by simp [Sl.blk, Sl.nil], by simp [Sl.blk, Sl.nil]⟩, by rw [frozen_set, frozen_set]; exact p.f0, by rw [frozen_set, frozen_set]; exact p.f1, p.ne, p.am, p.zm, by rw [setCell_size, setCell_size]; exact p.ms, Lim.nil, Nat.zero_le _⟩ ((keepSet a 0 _ h).trans (keepSet a 1 _ _))
  rw [cell_set_ne (.inr (.inl (off_ne p.spot (by decide))))]
  exact cell_set_same c0

theorem take_spec {n : Int} {Q : Sl → Heap → Prop} (p : PI h a z m st)
    (K : ∀ r h', RI .u8 h' r (tk st n).1 → (∀ b, r.blk = some b → b ≠ a.block ∧ b ≠ z ∧ b < m) → PI h' a z m (tk st n).2 → Keep (some a.block) h h' → Q r h') : pack_In_take (some a) n h Q := by
  obtain ⟨s, c0, c1, r, d1, d2, d3⟩ := p.c
  have hl := r.len
  refine seq.cut (fun (t : Bool) h1 => h1 = h ∧ (t = false ↔ ∃ bs, st = some bs ∧ 0 ≤ n ∧ n ≤ (bs.length : Int))) ?_ ?_
  · refine ⟨a, rfl, _, c1, fun hw => ⟨rfl, ?_⟩, fun hw => ⟨fun hn => ⟨rfl, ?_⟩, fun hn => ⟨a, rfl, s, c0, rfl, ?_⟩⟩⟩
    · cases st with
      | none => simp
      | some bs => simp at hw
    · simp only [decide_eq_true_eq] at hn
      simp; intro bs _ h0; omega
    · simp only [decide_eq_false_iff_not] at hn
      cases st with
      | none => simp at hw
      | some bs =>
        simp only [Option.getD_some] at hl
        rw [hl]
        simp
        omega
  rintro t h1 ⟨rfl, ht⟩
  refine ⟨fun hb => ?_, fun hb => ?_⟩
  · have hno : tk st n = ([], none) := by
      cases st with
      | none => rfl
      | some bs =>
        simp only [tk]
        rw [if_neg]
        intro hc
        rw [ht.2 ⟨bs, rfl, hc⟩] at hb; cases hb
    rw [hno] at K
    exact fail_spec p fun h2 p2 k2 => K Sl.nil h2 R.nil (by simp [Sl.blk, Sl.nil]) p2 k2
  · obtain ⟨bs, rfl, h0, hle⟩ := ht.1 hb
    have e : tk (some bs) n = (bs.take n.toNat, some (bs.drop n.toNat)) := by simp only [tk]; rw [if_pos ⟨h0, hle⟩]
    rw [e] at K
    dsimp only at K
    simp only [Option.getD_some] at hl r
    have hcap := r.cap
    refine ⟨a, rfl, s, c0, ?_⟩
    have H := R.take (i := n) (k := fun s' => RI .u8 h1 s' (bs.take n.toNat) ∧ s'.blk = s.blk) r h0 hle (fun s' h1 h2 _ _ => ⟨h1, h2⟩)
    obtain ⟨g1, g2, g3, ⟨g4, g5⟩⟩ := H
    refine ⟨⟨h0, by show n ≤ (s.cap : Int); omega⟩, ⟨h0, .inr (Int.le_refl _)⟩, ⟨by simp, by simpa using h0⟩, ?_⟩
    -- the slice without what is behind
    have hblk : (⟨if (((some n : Option Int).getD s.cap : Int)) = ((none : Option Int).getD 0) then s.a else s.a.map (·.add (((none : Option Int).getD 0).toNat * 1)), ((some n : Option Int).getD s.len).toNat - ((none : Option Int).getD 0).toNat, ((some n : Option Int).getD s.cap).toNat - ((none : Option Int).getD 0).toNat⟩ : Sl) = ⟨s.a, n.toNat, n.toNat⟩ := by
      have hadd : ∀ o : Option Addr, o.map (fun a => a.add 0) = o := by intro o; cases o <;> simp [Addr.add]
      simp only [Option.getD_some, Option.getD_none, Int.toNat_zero, Nat.zero_mul, hadd, Nat.sub_zero]
      split <;> rfl
    rw [hblk]
    have r' : RI .u8 h1 ⟨s.a, n.toNat, n.toNat⟩ (bs.take n.toNat) := by
      refine ⟨by rw [List.length_take]; show n.toNat = _; omega, Nat.le_refl _, ?_⟩
      have := g4.cells
      simp only [Option.getD_some, Option.getD_none, Int.toNat_zero, Nat.zero_mul, Nat.sub_zero] at this
      have hadd : ∀ o : Option Addr, o.map (fun a => a.add 0) = o := by intro o; cases o <;> simp [Addr.add]
      simp only [hadd] at this
      simpa using this
    refine ⟨a, rfl, s, c0, R.drop (j := n.toNat) r (by omega) (by omega) fun s2 hr2 hb2 => ?_⟩
    have hn0 : frozen? h1 (a.add 0) = false := p.f0
    refine ⟨a, rfl, ⟨_, c0⟩, hn0, ?_⟩
    have kk := keepSet a 0 (Sl.toV s2) h1
    have hs2 : s2.blk = s.blk := hb2
    refine K _ _ (r'.keep kk (fun x hx e => d1 (by injection e with e; simp only at hx; simp [Sl.blk, hx, e]))) (fun b hb => ?_) ⟨p.spot, ⟨s2, cell_set_same c0, ?_, hr2.keep kk (fun x hx e => d1 (by rw [← hs2]; injection e with e; simp [Sl.blk, hx, e])), by rw [hs2]; exact d1, by rw [hs2]; exact d2, by rw [hs2]; exact d3⟩, by rw [frozen_set]; exact p.f0, by rw [frozen_set]; exact p.f1, p.ne, p.am, p.zm, by rw [setCell_size]; exact p.ms, fun x hx => p.lim x (List.mem_of_mem_drop hx), ?_⟩ kk
    · have hb : s.blk = some b := hb
      exact ⟨fun e => d1 (by rw [hb, e]), fun e => d2 (by rw [hb, e]), d3 b hb⟩
    · rw [cell_set_ne (.inr (.inl (off_ne p.spot (by decide))))]; exact c1
    · have := p.len
      simp only [lens, Option.getD_some, List.length_drop] at this ⊢
      omega

theorem or8 {n c : Nat} (hn : n < 72057594037927936) (hc : c < 256) :
    IntKind.wrap .u64 (((BitVec.ofInt (IntKind.bits .u64) (IntKind.wrap .u64 ((n : Int) * 2 ^ (min (Int.toNat 8) (IntKind.bits .u64)))) ||| BitVec.ofInt (IntKind.bits .u64) (IntKind.wrap .u64 (c : Int))).toNat : Int)) = ((256 * n + c : Nat) : Int) := by
  have e1 : ((n : Int) * 2 ^ (min (Int.toNat 8) (IntKind.bits .u64))) = ((256 * n : Nat) : Int) := by
    have : (2 : Int) ^ (min (Int.toNat 8) (IntKind.bits .u64)) = 256 := by decide
    rw [this]; omega
  rw [e1, wu64 (n := ((256 * n : Nat) : Int)) (by omega) (by omega), wu64 (n := (c : Int)) (by omega) (by omega)]
  have hb : IntKind.bits .u64 = 64 := rfl
  rw [hb, BitVec.toNat_or]
  have e2 : (BitVec.ofInt 64 ((256 * n : Nat) : Int)).toNat = 256 * n := by
    rw [BitVec.ofInt_natCast, BitVec.toNat_ofNat]; exact Nat.mod_eq_of_lt (by omega)
  have e3 : (BitVec.ofInt 64 (c : Int)).toNat = c := by
    rw [BitVec.ofInt_natCast, BitVec.toNat_ofNat]; exact Nat.mod_eq_of_lt (by omega)
  rw [e2, e3]
  have e4 : (256 * n ||| c) = 256 * n + c := by
    have := Nat.two_pow_add_eq_or_of_lt (i := 8) (b := c) (by omega) n
    simp only [show (2 : Nat) ^ 8 = 256 from rfl] at this
    exact this.symm
  rw [e4, wu64 (by omega) (by omega)]
theorem be_small {l : List Nat} {k : Nat} (hl : l.length ≤ k) (h : Lim 256 l) : be l < 256 ^ k := Nat.lt_of_lt_of_le (be_lt l _ rfl h) (Nat.pow_le_pow_right (by decide) hl)
theorem tk_len {st : St} {k : Nat} : (tk st k).1.length ≤ k := by
  cases st with
  | none => exact Nat.zero_le _
  | some bs =>
    simp only [tk]
    split
    · rw [List.length_take]; simp; omega
    · exact Nat.zero_le _
theorem num_spec {k : Nat} {n : Int} {Q : Int → Heap → Prop} (hn : n = (k : Int)) (hk : k ≤ 8) (p : PI h a z m st) (K : ∀ h', PI h' a z m (numS st k).2 → Keep (some a.block) h h' → Q ((numS st k).1 : Int) h') : pack_In_number (some a) n h Q := by
  subst hn
  refine take_spec p fun r h1 hr _ p1 k1 => ?_
  have hlim := (tk_lim p.lim k).1
  have hlen := tk_len (st := st) (k := k)
  unfold numS at K
  dsimp only at K
  generalize (tk st k).1 = xs at *
  have hrl := hr.len
  refine loop.inv (fun (s0 : Int × Int) h2 => h2 = h1 ∧ ∃ i : Nat, s0 = ((be (xs.take i) : Int), (i : Int)) ∧ i ≤ xs.length) (fun s0 _ => xs.length - s0.2.toNat) ⟨rfl, 0, by simp [be_nil], Nat.zero_le _⟩ ?_
  rintro s0 h2 ⟨rfl, i, rfl, hi⟩
  dsimp only
  refine ⟨fun hlt => ?_, fun hge => ?_⟩
  · simp only [decide_eq_true_eq] at hlt
    refine RI.ld hr (j := i) rfl (by omega) ?_
    have hb := be_small (l := xs.take i) (k := 7) (by rw [List.length_take]; omega) (hlim.take i)
    rw [or8 (by omega) (hlim.get (by omega)), ← be_take xs (by omega)]
    rintro n' rfl
    rw [w64 (by omega) (by omega)]
    exact ⟨⟨rfl, i + 1, by simp, by omega⟩, by simp only [Int.toNat_natCast]; omega⟩
  · simp only [decide_eq_false_iff_not] at hge
    have : i = xs.length := by omega
    subst this
    rw [List.take_length]
    exact K h2 p1 k1
theorem int_spec {Q : Int → Heap → Prop} (p : PI h a z m st) (K : ∀ h', PI h' a z m (numS st 8).2 → Keep (some a.block) h h' → Q (sg (numS st 8).1) h') : pack_In_Int (some a) h Q :=
  num_spec (k := 8) rfl (by decide) p K
theorem limb_spec {Q : Int → Heap → Prop} (p : PI h a z m st) (K : ∀ h', PI h' a z m (numS st 4).2 → Keep (some a.block) h h' → Q ((numS st 4).1 : Int) h') : pack_In_limb (some a) h Q := by
  refine num_spec (k := 4) rfl (by decide) p fun h1 p1 k1 => ?_
  have hb := be_small (tk_len (st := st) (k := 4)) (tk_lim p.lim (4 : Nat)).1
  have : IntKind.wrap .u32 ((numS st 4).1 : Int) = ((numS st 4).1 : Int) := by
    rw [wu32m]
    have : (numS st 4).1 < 4294967296 := hb
    omega
  rw [this]
  exact K h1 p1 k1
theorem count_spec {least : Int} {Q : Int → Heap → Prop} (p : PI h a z m st) (K : ∀ h', PI h' a z m (cnt st least).2 → Keep (some a.block) h h' → Q (cnt st least).1 h') : pack_In_Count (some a) least h Q := by
  refine int_spec p fun h1 p1 k1 => ?_
  obtain ⟨s, c0, c1, r, d1, d2, d3⟩ := p1.c
  have hl := r.len
  have hmx : (if 1 > least then 1 else least) = max least 1 := by split <;> omega
  refine seq.cut (fun (t : Bool) h2 => h2 = h1 ∧ (t = true ↔ sg (numS st 8).1 < 0 ∨ sg (numS st 8).1 > ((((numS st 8).2.getD []).length : Nat) : Int) / max least 1)) ?_ ?_
  · refine ⟨fun hn => ⟨rfl, ?_⟩, fun hn => ⟨a, rfl, s, c0, ?_, rfl, ?_⟩⟩
    · simp only [decide_eq_true_eq] at hn
      exact ⟨fun _ => .inl hn, fun _ => rfl⟩
    · rw [hmx]; omega
    · simp only [decide_eq_false_iff_not] at hn
      rw [hmx, hl]
      have hq : Int.tdiv ((((numS st 8).2.getD []).length : Nat) : Int) (max least 1) = ((((numS st 8).2.getD []).length : Nat) : Int) / max least 1 := Int.tdiv_eq_ediv_of_nonneg (by omega)
      have hbound : ((((numS st 8).2.getD []).length : Nat) : Int) / max least 1 ≤ ((((numS st 8).2.getD []).length : Nat) : Int) := Int.ediv_le_self _ (by omega)
      have hnn : 0 ≤ ((((numS st 8).2.getD []).length : Nat) : Int) / max least 1 := Int.ediv_nonneg (by omega) (by omega)
      have := p1.len
      unfold lens at this
      rw [hq, w64 (by omega) (by omega)]
      simp only [gt_iff_lt, decide_eq_true_eq]
      exact ⟨.inr, fun h => h.elim (fun h => absurd h hn) id⟩
  rintro t h2 ⟨rfl, ht⟩
  refine ⟨fun hb => ?_, fun hb => ?_⟩
  · have hc := ht.1 hb
    have e : cnt st least = (0, none) := by
      unfold cnt
      cases hs : (numS st 8).2 with
      | none => rfl
      | some bs => rw [hs] at hc; simp only [Option.getD_some] at hc; dsimp only; rw [if_pos hc]
    rw [e] at K
    exact fail_spec p1 fun h3 p3 k3 => K h3 p3 (k1.trans k3)
  · have hc : ¬ (sg (numS st 8).1 < 0 ∨ sg (numS st 8).1 > ((((numS st 8).2.getD []).length : Nat) : Int) / max least 1) := fun h => by rw [ht.2 h] at hb; cases hb
    have e : cnt st least = (sg (numS st 8).1, (numS st 8).2) := by
      unfold cnt
      cases hs : (numS st 8).2 with
      | none =>
        have : st = none ∨ ∃ bs, st = some bs := by cases st <;> simp
        have h0 : (numS st 8).1 = 0 := by
          unfold numS at hs ⊢
          rcases this with rfl | ⟨bs, rfl⟩
          · rfl
          · simp only [tk] at hs ⊢
            split at hs
            · cases hs
            · rename_i hn; rw [if_neg hn]; rfl
        rw [h0]; rfl
      | some bs => rw [hs] at hc; simp only [Option.getD_some] at hc; dsimp only; rw [if_neg hc]
    rw [e] at K
    exact K h2 p1 k1
theorem flag_spec {Q : Bool → Heap → Prop} (p : PI h a z m st) (K : ∀ h', PI h' a z m (flagS st).2 → Keep (some a.block) h h' → Q (flagS st).1 h') : pack_In_Flag (some a) h Q := by
  refine num_spec (k := 1) rfl (by decide) p fun h1 p1 k1 => ?_
  by_cases hb : (numS st 1).1 > 1
  · have e : flagS st = (false, none) := by unfold flagS; rw [if_pos hb]
    rw [e] at K
    refine seq.cut (fun (_ : Unit) h2 => PI h2 a z m none ∧ Keep (some a.block) h h2) ?_ ?_
    · exact ⟨fun _ => fail_spec p1 fun h2 p2 k2 => ⟨p2, k1.trans k2⟩, fun hc => absurd hc (by simp; omega)⟩
    · rintro _ h2 ⟨p2, k2⟩
      have : (((numS st 1).1 : Int) == 1) = false := by simp; omega
      rw [this]
      exact K h2 p2 k2
  · have e : flagS st = ((numS st 1).1 == 1, (numS st 1).2) := by unfold flagS; rw [if_neg hb]
    rw [e] at K
    refine seq.cut (fun (_ : Unit) h2 => h2 = h1) ⟨fun hc => absurd hc (by simp; omega), fun _ => rfl⟩ ?_
    rintro _ h2 rfl
    have : (((numS st 1).1 : Int) == 1) = ((numS st 1).1 == 1) := by
      rw [Bool.eq_iff_iff]; simp; omega
    rw [this]
    exact K h2 p1 k1
end Go.Sh

namespace Go.Sh
open Go Go.Lift
variable {h h' : Heap} {a : Addr} {z m : Nat} {st : St}

theorem chunks_len (w c : Nat) (bs : List Nat) : (chunks w c bs).length = c := by simp [chunks]
theorem chunks_succ (w c : Nat) (bs : List Nat) : chunks w (c + 1) bs = chunks w c bs ++ [be ((bs.drop (w * c)).take w)] := by simp [chunks, List.range_succ]
theorem tk_some {bs : List Nat} {k : Nat} (h : k ≤ bs.length) : tk (some bs) (k : Int) = (bs.take k, some (bs.drop k)) := by
  simp only [tk]; rw [if_pos (by omega), Int.toNat_natCast]
theorem num_some {bs : List Nat} {k : Nat} (h : k ≤ bs.length) : numS (some bs) k = (be (bs.take k), some (bs.drop k)) := by
  unfold numS; rw [tk_some h]
theorem cnt_le {w c : Nat} {bs : List Nat} (hw : 0 < w) (h : (c : Int) ≤ (bs.length : Int) / max (w : Int) 1) : w * c ≤ bs.length := by
  have e : max (w : Int) 1 = (w : Int) := by omega
  rw [e] at h
  have h2 : (c : Int) ≤ ((bs.length / w : Nat) : Int) := by simpa using h
  have h3 : c ≤ bs.length / w := by omega
  have := (Nat.le_div_iff_mul_le hw).1 h3
  rw [Nat.mul_comm]; exact this
theorem lens_bound {bs : List Nat} (h : lens (some bs) ≤ 1000000) : bs.length ≤ 1000000 := h

theorem keepFresh {o p : Option Nat} {a b c : Heap} (k : Keep o a b) (k2 : Keep p b c) (hp : ∀ n, p = some n → a.size ≤ n) : Keep o a c :=
  ⟨Nat.le_trans k.size k2.size, fun i hi hne => (k2.same i (Nat.lt_of_lt_of_le hi k.size) (fun e => by have := hp i e.symm; omega)).trans (k.same i hi hne)⟩
theorem limbs_spec {Q : Sl → Heap → Prop} (p : PI h a z m st) (K : ∀ r h', RI .u32 h' r (rowS 4 st).1 → Lim 4294967296 (rowS 4 st).1 → (rowS 4 st).1.length ≤ 250000 → (∀ b, r.blk = some b → m ≤ b) → PI h' a z m (rowS 4 st).2 → Keep (some a.block) h h' → Q r h') : pack_Take_uint32u_pack_In_limb (some a) 4 (some a) h Q := by
  refine count_spec p fun h1 p1 k1 => ?_
  unfold rowS at K
  rcases cnt_spec st 4 with ⟨bs, e1, e2, e3, _⟩ | e
  · have h4 : (cnt st (4 : Nat)) = cnt st 4 := rfl
    rw [h4, e1] at K
    dsimp only at K
    rw [e1] at p1
    obtain ⟨c, hc⟩ : ∃ c : Nat, (cnt st 4).1 = (c : Int) := ⟨(cnt st 4).1.toNat, by omega⟩
    rw [hc] at K e3
    rw [Int.toNat_natCast] at K
    have hle : 4 * c ≤ bs.length := cnt_le (w := 4) (by decide) e3
    have hlb := lens_bound p1.len
    have hlim : Lim 256 bs := p1.lim
    rw [hc]
    have hl1 : m ≤ h1.size := p1.ms
    refine loop.inv (fun (s0 : Sl × Int) h2 => ∃ i : Nat, s0.2 = (i : Int) ∧ i ≤ c ∧ OwnI .u32 h1.size h2 s0.1 (chunks 4 i bs) ∧ PI h2 a z m (some (bs.drop (4 * i))) ∧ Keep (some a.block) h1 h2) (fun s0 _ => c - s0.2.toNat) ⟨0, rfl, Nat.zero_le _, Own.nil, by simpa using p1, Keep.refl _ _⟩ ?_
    rintro ⟨out, i⟩ h2 ⟨i, rfl, hi, ho, p2, k2⟩
    dsimp only at ho ⊢
    refine ⟨fun hlt => ?_, fun hge => ?_⟩
    · simp only [decide_eq_true_eq] at hlt
      have hen : 4 ≤ (bs.drop (4 * i)).length := by rw [List.length_drop]; omega
      refine limb_spec p2 fun h3 p3 k3 => ?_
      rw [num_some hen] at p3 ⊢
      dsimp only at p3 ⊢
      rw [List.drop_drop] at p3
      have ho3 := ho.keep k3 (fun b hb e => by injection e with e; have := (ho.lt hb).1; have := p.am; omega)
      intro T
      have hx := (Own.new (toV := fun n : Nat => Value.int .u32 (n : Int)) (h := h3) (ys := [be ((bs.drop (4 * i)).take 4)]) (T := T) (cs := [Value.int .u32 ((be ((bs.drop (4 * i)).take 4) : Nat) : Int)]) rfl).r
      have e3 := Ext.push h3 (.cells [Value.int .u32 ((be ((bs.drop (4 * i)).take 4) : Nat) : Int)].toArray T (0, 0))
      generalize (h3.push (.cells [Value.int .u32 ((be ((bs.drop (4 * i)).take 4) : Nat) : Int)].toArray T (0, 0)) : Heap) = h4 at *
      have hs3 := k3.size
      have hs2 := k2.size
      have hs4 := e3.size
      refine Own.append (bytes := 4) (ho3.ext e3) (by omega) hx (fun _ => rfl) (by rw [chunks_len]; simp; omega) fun out' h5 o5 k5 b5 => ?_
      have p5 : PI h5 a z m (some (bs.drop (4 * i + 4))) := (p3.ext e3).keep k5 (fun b hb => .inr (by have := ((ho3.ext e3).lt hb).1; omega))
      obtain ⟨s', _, c1', _⟩ := p5.c
      refine ⟨a, rfl, false, c1', fun hb => by simp at hb, fun _ => ?_⟩
      rw [w64 (by omega) (by omega)]
      refine ⟨⟨i + 1, rfl, by omega, by rw [chunks_succ]; exact o5, by rw [show 4 * (i + 1) = 4 * i + 4 from by omega]; exact p5, keepFresh ((k2.trans k3).trans (Keep.of_ext e3)) k5 (fun n hn => ((ho3.ext e3).lt hn).1)⟩, by simp only [Int.toNat_natCast]; omega⟩
    · simp only [decide_eq_false_iff_not] at hge
      have : i = c := by omega
      subst this
      refine K _ h2 ho.r (fun x hx => ?_) (by rw [chunks_len]; omega) (fun b hb => by have := (ho.lt hb).1; omega) p2 (k1.trans k2)
      obtain ⟨j, _, rfl⟩ := List.mem_map.1 hx
      exact be_small (k := 4) (by rw [List.length_take]; omega) (fun y hy => hlim y (List.mem_of_mem_drop (List.mem_of_mem_take hy)))
  · have h4 : (cnt st (4 : Nat)) = cnt st 4 := rfl
    rw [h4, e] at K
    dsimp only at K
    rw [e] at p1 ⊢
    refine loop.inv (fun (s0 : Sl × Int) h2 => s0 = (Sl.nil, 0) ∧ h2 = h1) (fun _ _ => 0) ⟨rfl, rfl⟩ ?_
    rintro s0 h2 ⟨rfl, rfl⟩
    exact ⟨fun hb => by simp at hb, fun _ => K Sl.nil h2 R.nil Lim.nil (Nat.zero_le _) (by simp [Sl.blk, Sl.nil]) p1 k1⟩

/-- The numbers of a row. -/
def intsS (st : St) : List Int × St := ((rowS 8 st).1.map sg, (rowS 8 st).2)
theorem ints_spec {Q : Sl → Heap → Prop} (p : PI h a z m st) (K : ∀ r h', R (Value.int .i64) h' r (intsS st).1 → (intsS st).1.length ≤ 250000 → (∀ b, r.blk = some b → m ≤ b) → PI h' a z m (intsS st).2 → Keep (some a.block) h h' → Q r h') : pack_Take_int__pack_In_Int (some a) 8 (some a) h Q := by
  refine count_spec p fun h1 p1 k1 => ?_
  unfold intsS rowS at K
  rcases cnt_spec st 8 with ⟨bs, e1, e2, e3, _⟩ | e
  · have h4 : (cnt st (8 : Nat)) = cnt st 8 := rfl
    rw [h4, e1] at K
    dsimp only at K
    rw [e1] at p1
    obtain ⟨c, hc⟩ : ∃ c : Nat, (cnt st 8).1 = (c : Int) := ⟨(cnt st 8).1.toNat, by omega⟩
    rw [hc] at K e3
    rw [Int.toNat_natCast] at K
    have hle : 8 * c ≤ bs.length := cnt_le (w := 8) (by decide) e3
    have hlb := lens_bound p1.len
    rw [hc]
    have hl1 : m ≤ h1.size := p1.ms
    refine loop.inv (fun (s0 : Sl × Int) h2 => ∃ i : Nat, s0.2 = (i : Int) ∧ i ≤ c ∧ Own (Value.int .i64) h1.size h2 s0.1 ((chunks 8 i bs).map sg) ∧ PI h2 a z m (some (bs.drop (8 * i))) ∧ Keep (some a.block) h1 h2) (fun s0 _ => c - s0.2.toNat) ⟨0, rfl, Nat.zero_le _, Own.nil, by simpa using p1, Keep.refl _ _⟩ ?_
    rintro ⟨out, i⟩ h2 ⟨i, rfl, hi, ho, p2, k2⟩
    dsimp only at ho ⊢
    refine ⟨fun hlt => ?_, fun hge => ?_⟩
    · simp only [decide_eq_true_eq] at hlt
      have hen : 8 ≤ (bs.drop (8 * i)).length := by rw [List.length_drop]; omega
      refine int_spec p2 fun h3 p3 k3 => ?_
      rw [num_some hen] at p3 ⊢
      dsimp only at p3 ⊢
      rw [List.drop_drop] at p3
      have ho3 := ho.keep k3 (fun b hb e => by injection e with e; have := (ho.lt hb).1; have := p.am; omega)
      intro T
      have hx := (Own.new (toV := Value.int .i64) (h := h3) (ys := [sg (be ((bs.drop (8 * i)).take 8))]) (T := T) (cs := [Value.int .i64 (sg (be ((bs.drop (8 * i)).take 8)))]) rfl).r
      have e3 := Ext.push h3 (.cells [Value.int .i64 (sg (be ((bs.drop (8 * i)).take 8)))].toArray T (0, 0))
      generalize (h3.push (.cells [Value.int .i64 (sg (be ((bs.drop (8 * i)).take 8)))].toArray T (0, 0)) : Heap) = h4 at *
      have hs3 := k3.size
      have hs2 := k2.size
      have hs4 := e3.size
      refine Own.append (bytes := 8) (ho3.ext e3) (by omega) hx (fun _ => rfl) (by rw [List.length_map, chunks_len]; simp; omega) fun out' h5 o5 k5 b5 => ?_
      have p5 : PI h5 a z m (some (bs.drop (8 * i + 8))) := (p3.ext e3).keep k5 (fun b hb => .inr (by have := ((ho3.ext e3).lt hb).1; omega))
      obtain ⟨s', _, c1', _⟩ := p5.c
      refine ⟨a, rfl, false, c1', fun hb => by simp at hb, fun _ => ?_⟩
      rw [w64 (by omega) (by omega)]
      refine ⟨⟨i + 1, rfl, by omega, by rw [chunks_succ, List.map_append]; exact o5, by rw [show 8 * (i + 1) = 8 * i + 8 from by omega]; exact p5, keepFresh ((k2.trans k3).trans (Keep.of_ext e3)) k5 (fun n hn => ((ho3.ext e3).lt hn).1)⟩, by simp only [Int.toNat_natCast]; omega⟩
    · simp only [decide_eq_false_iff_not] at hge
      have : i = c := by omega
      subst this
      exact K _ h2 ho.r (by rw [List.length_map, chunks_len]; omega) (fun b hb => by have := (ho.lt hb).1; omega) p2 (k1.trans k2)
  · have h4 : (cnt st (8 : Nat)) = cnt st 8 := rfl
    rw [h4, e] at K
    dsimp only at K
    rw [e] at p1 ⊢
    refine loop.inv (fun (s0 : Sl × Int) h2 => s0 = (Sl.nil, 0) ∧ h2 = h1) (fun _ _ => 0) ⟨rfl, rfl⟩ ?_
    rintro s0 h2 ⟨rfl, rfl⟩
    exact ⟨fun hb => by simp at hb, fun _ => K Sl.nil h2 R.nil (Nat.zero_le _) (by simp [Sl.blk, Sl.nil]) p1 k1⟩

theorem cloneB_spec {s : Sl} {xs : List Nat} {Q : Sl → Heap → Prop} (hr : RI .u8 h s xs) (hl : xs.length ≤ 2000000) (K : ∀ r h', RI .u8 h' r xs → Ext h h' → (∀ b, r.blk = some b → h.size ≤ b ∧ b < h'.size) → Q r h') : slices_Clone_byte_byte s h Q := by
  refine ⟨fun hn => ?_, fun hn => ?_⟩
  · have : xs = [] := by
      cases xs with
      | nil => rfl
      | cons x l =>
        obtain ⟨a, ha, _⟩ := hr.get (i := 0) (by simp)
        rw [ha] at hn; simp at hn
    subst this
    exact K Sl.nil h R.nil (Keep.refl _ _) (by simp [Sl.blk, Sl.nil])
  · intro T
    have e1 : Ext h (h.push (.cells ([] : List Value).toArray T (0, 0))) := Ext.push _ _
    have ho := Own.new (toV := fun n : Nat => Value.int .u8 (n : Int)) (h := h) (ys := []) (cs := []) (T := T) rfl
    have hs1 : (h.push (.cells ([] : List Value).toArray T (0, 0)) : Heap).size = h.size + 1 := by simp
    generalize (h.push (.cells ([] : List Value).toArray T (0, 0)) : Heap) = h1 at *
    refine Own.append (bytes := 1) (B := h.size) (xs := []) ho (by omega) (R.ext hr e1) (fun _ => rfl) (by simp; omega) fun r h2 o2 k2 b2 => ?_
    have e2 : Ext h h2 := ⟨by have := k2.size; omega, fun b hb _ => (k2.same b (by omega) (fun e => by have := (ho.lt e.symm).1; omega)).trans (e1.same b hb (by simp))⟩
    exact K r h2 (by simpa using o2.r) e2 (fun b hb => o2.lt hb)
theorem bytes_spec {Q : Sl → Heap → Prop} (p : PI h a z m st) (K : ∀ r h', RI .u8 h' r (bytesS st).1 → PI h' a z m (bytesS st).2 → Keep (some a.block) h h' → (∀ b, r.blk = some b → m ≤ b) → Q r h') : pack_In_Bytes (some a) h Q := by
  refine count_spec p fun h1 p1 k1 => take_spec p1 fun r h2 hr hb p2 k2 => ?_
  refine cloneB_spec hr (by have := (tk_lim p1.lim (cnt st 1).1).2.2.2; have := p1.len; omega) fun r2 h3 hr2 e3 hb2 => ?_
  exact K r2 h3 hr2 (p2.ext e3) ((k1.trans k2).trans (Keep.of_ext e3)) (fun b hbb => by have := (hb2 b hbb).1; have := p2.ms; omega)

/-- A ratio, as its rows are. -/
structure XL (h : Heap) (x : Bool × Sl × Sl) (l : Bool × List Nat × List Nat) : Prop where
  neg : x.1 = l.1
  x : XR h x l.2.1 l.2.2
  ln : l.2.1.length ≤ 250000
  ld : l.2.2.length ≤ 250000
theorem XL.ext {x : Bool × Sl × Sl} {l : Bool × List Nat × List Nat} (hx : XL h x l) (e : Ext h h') : XL h' x l := ⟨hx.neg, hx.x.ext e, hx.ln, hx.ld⟩
theorem XL.keep {x : Bool × Sl × Sl} {l : Bool × List Nat × List Nat} {o : Option Nat} (hx : XL h x l) (k : Keep o h h') (h1 : ∀ b, x.2.1.blk = some b → some b ≠ o) (h2 : ∀ b, x.2.2.blk = some b → some b ≠ o) : XL h' x l :=
  ⟨hx.neg, ⟨hx.x.num.keep k (fun a ha => h1 _ (by simp [Sl.blk, ha])), hx.x.lnum, hx.x.den.keep k (fun a ha => h2 _ (by simp [Sl.blk, ha])), hx.x.lden⟩, hx.ln, hx.ld⟩
theorem XL.isQ {x : Bool × Sl × Sl} {l : Bool × List Nat × List Nat} (hx : XL h x l) : isQ h x ↔ isQL l.1 l.2.1 l.2.2 := by
  rw [hx.x.isQ_iff (by have := hx.ln; omega) (by have := hx.ld; omega), hx.neg]
  exact Iff.rfl
theorem XL.zero : XL h (false, Sl.nil, Sl.nil) (false, [], []) := ⟨rfl, ⟨R.nil, Lim.nil, R.nil, Lim.nil⟩, Nat.zero_le _, Nat.zero_le _⟩

/-- The table lies below, and stays. -/
structure TL (h0 h : Heap) (m : Nat) : Prop where
  tab : Tab h0
  e : Ext h0 h
  le : h0.size ≤ m
theorem TL.t {h0 : Heap} (t : TL h0 h m) : Tab h := R.ext t.tab t.e
theorem TL.keep {h0 : Heap} {o : Option Nat} (t : TL h0 h m) (k : Keep o h h') (ho : ∀ b, o = some b → h0.size ≤ b) : TL h0 h' m := ⟨t.tab, keepFresh t.e k ho, t.le⟩
theorem TL.ext {h0 : Heap} (t : TL h0 h m) (e : Ext h h') : TL h0 h' m := t.keep e (fun b hb => by cases hb)

theorem ratio_spec {h0 : Heap} {Q : Bool × Sl × Sl → Heap → Prop} (t : TL h0 h m) (ha : h0.size ≤ a.block) (p : PI h a z m st) (K : ∀ r h', XL h' r (ratS st).1 → (∀ b, r.2.1.blk = some b → m ≤ b) → (∀ b, r.2.2.blk = some b → m ≤ b) → PI h' a z m (ratS st).2 → Keep (some a.block) h h' → Q r h') : pack_In_Ratio (some a) h Q := by
  refine mem_ext fun h1 e1 => ?_
  have hka : ∀ b, (some a.block : Option Nat) = some b → h0.size ≤ b := fun b hb => by cases hb; exact ha
  refine flag_spec (p.ext e1) fun h2 p2 k2 => limbs_spec p2 fun v1 h3 r1 l1 n1 b1 p3 k3 => limbs_spec p3 fun v2 h4 r2 l2 n2 b2 p4 k4 => ?_
  have kk : Keep (some a.block) h h4 := ((Keep.of_ext e1).trans k2).trans (k3.trans k4)
  have t4 := t.keep kk hka
  have r1' : RI .u32 h4 v1 (rowS 4 (flagS st).2).1 := r1.keep k4 (fun x hx e => by injection e with e; have := b1 x.block (by simp [Sl.blk, hx]); have := p.am; omega)
  have X : XL h4 ((flagS st).1, v1, v2) ((flagS st).1, (rowS 4 (flagS st).2).1, (rowS 4 (rowS 4 (flagS st).2).2).1) := ⟨rfl, ⟨r1', l1, r2, l2⟩, n1, n2⟩
  refine seq.cut (fun (b : Bool) h5 => PI h5 a z m (rowS 4 (rowS 4 (flagS st).2).2).2 ∧ Ext h4 h5 ∧ (b = false ↔ ratGood st)) ?_ ?_
  · obtain ⟨s', _, c1', _⟩ := p4.c
    refine ⟨a, rfl, _, c1', fun hw => ⟨p4, Keep.refl _ _, ?_⟩, fun hw => ?_⟩
    · simp only [Bool.true_eq_false, false_iff]
      intro hg
      have := hg.1
      cases hx : (rowS 4 (rowS 4 (flagS st).2).2).2 <;> simp_all
    · refine RightQ_spec t4.t X.x (by dsimp only; omega) (by dsimp only; omega) fun b h5 hb e5 => ⟨p4.ext e5, e5, ?_⟩
      rw [X.isQ] at hb
      unfold ratGood
      have hs : (rowS 4 (rowS 4 (flagS st).2).2).2.isSome = true := by
        cases hx : (rowS 4 (rowS 4 (flagS st).2).2).2 <;> simp_all
      rw [hs]
      simp only [true_and]
      rw [← hb]; cases b <;> simp
  rintro b h5 ⟨p5, e5, hb⟩
  have k5 := kk.trans (Keep.of_ext e5)
  refine ⟨fun ht => ?_, fun hf => ?_⟩
  · have hg : ¬ ratGood st := fun h => by rw [hb.2 h] at ht; cases ht
    have e : ratS st = ((false, [], []), none) := by unfold ratS; rw [if_neg hg]
    rw [e] at K
    refine fail_spec p5 fun h6 p6 k6 => K _ h6 XL.zero (by simp [Sl.blk, Sl.nil]) (by simp [Sl.blk, Sl.nil]) p6 (k5.trans k6)
  · have hg := hb.1 hf
    have e : ratS st = (((flagS st).1, (rowS 4 (flagS st).2).1, (rowS 4 (rowS 4 (flagS st).2).2).1), (rowS 4 (rowS 4 (flagS st).2).2).2) := by unfold ratS; rw [if_pos hg]
    rw [e] at K
    exact K _ h5 (X.ext e5) b1 b2 p5 k5

noncomputable def delS (st : St) : ((Bool × List Nat × List Nat) × (Bool × List Nat × List Nat)) × St :=
  if (ratS (ratS st).2).2 = none then (((false, [], []), (false, [], [])), none) else (((ratS st).1, (ratS (ratS st).2).1), (ratS (ratS st).2).2)
theorem delta_spec {h0 : Heap} {Q : Bool × Sl × Sl × Bool × Sl × Sl → Heap → Prop} (t : TL h0 h m) (ha : h0.size ≤ a.block) (p : PI h a z m st)
    (K : ∀ (r : Bool × Sl × Sl × Bool × Sl × Sl) h', XL h' (r.1, r.2.1, r.2.2.1) (delS st).1.1 → XL h' r.2.2.2 (delS st).1.2 → (∀ b, r.2.1.blk = some b ∨ r.2.2.1.blk = some b ∨ r.2.2.2.2.1.blk = some b ∨ r.2.2.2.2.2.blk = some b → m ≤ b) → PI h' a z m (delS st).2 → Keep (some a.block) h h' → Q r h') : pack_In_Delta (some a) h Q := by
  refine mem_ext fun h1 e1 => ?_
  have hka : ∀ b, (some a.block : Option Nat) = some b → h0.size ≤ b := fun b hb => by cases hb; exact ha
  refine ratio_spec (t.ext e1) ha (p.ext e1) fun x h2 X b1 b2 p2 k2 => ratio_spec ((t.ext e1).keep k2 hka) ha p2 fun y h3 Y b3 b4 p3 k3 => ?_
  have kk : Keep (some a.block) h h3 := (Keep.of_ext e1).trans (k2.trans k3)
  obtain ⟨s', _, c1', _⟩ := p3.c
  have X3 := X.keep k3 (fun b hb e => by injection e with e; have := b1 b hb; have := p.am; omega) (fun b hb e => by injection e with e; have := b2 b hb; have := p.am; omega)
  refine ⟨a, rfl, _, c1', fun hw => ?_, fun hw => ?_⟩
  · have hn : (ratS (ratS st).2).2 = none := by cases hx : (ratS (ratS st).2).2 <;> simp_all
    have e : delS st = (((false, [], []), (false, [], [])), none) := by unfold delS; rw [if_pos hn]
    rw [e] at K
    rw [hn] at p3
    exact K _ h3 XL.zero XL.zero (by simp [Sl.blk, Sl.nil]) p3 kk
  · have hn : ¬ (ratS (ratS st).2).2 = none := by intro hx; simp_all
    have e : delS st = (((ratS st).1, (ratS (ratS st).2).1), (ratS (ratS st).2).2) := by unfold delS; rw [if_neg hn]
    rw [e] at K
    refine K _ h3 X3 Y (fun b hb => ?_) p3 kk
    rcases hb with h | h | h | h
    · exact b1 b h
    · exact b2 b h
    · exact b3 b h
    · exact b4 b h

theorem done_spec {Q : Int → Heap → Prop} (p : PI h a z m st) (K : Q (if st = some [] then 0 else 3) h) : pack_In_Done (some a) h Q := by
  obtain ⟨s, c0, c1, r, _⟩ := p.c
  have hl := r.len
  refine seq.cut (fun (b : Bool) h1 => h1 = h ∧ (b = false ↔ st = some [])) ?_ ?_
  · refine ⟨a, rfl, _, c1, fun hw => ⟨rfl, ?_⟩, fun hw => ⟨a, rfl, s, c0, rfl, ?_⟩⟩
    · cases st <;> simp_all
    · rw [hl]
      cases st with
      | none => simp at hw
      | some bs => cases bs <;> simp
  rintro b h1 ⟨rfl, hb⟩
  refine ⟨fun ht => ?_, fun hf => ?_⟩
  · rw [if_neg (fun h => by rw [hb.2 h] at ht; cases ht)] at K; exact K
  · rw [if_pos (hb.1 hf)] at K; exact K
theorem wrong_spec {Q : Bool → Heap → Prop} (p : PI h a z m st) (K : Q st.isNone h) : pack_In_Wrong (some a) h Q := by
  obtain ⟨s, c0, c1, r, _⟩ := p.c
  exact ⟨a, rfl, _, c1, K⟩
end Go.Sh

namespace Go.Sh
open Go Go.Lift
variable {h h' : Heap} {x : Addr} {z m : Nat} {st : St}

theorem R.keepN {α : Type} {toV : α → Value} {s : Sl} {xs : List α} (hr : R toV h s xs) {o : Option Nat} (k : Keep o h h') (hne : xs ≠ [] → ∀ a, s.a = some a → some a.block ≠ o) : R toV h' s xs := by
  by_cases hx : xs = []
  · subst hx
    have hl := hr.len
    refine ⟨hl, hr.cap, ?_⟩
    simp only [List.length_nil] at hl
    rw [hl]
    cases s.a <;> rfl
  · exact hr.keep k (hne hx)
/-- What takes, of the document's answer, in memory: all bytes, and where one is. -/
structure DI (h : Heap) (x : Addr) (z m : Nat) (st : St) : Prop where
  spot : x.spot = none
  c : ∃ (B : Sl) (all : List Nat) (i : Nat), cell? h (x.add 0) = some (Sl.toV B) ∧ cell? h (x.add 1) = some (Value.int .i64 (i : Int)) ∧ cell? h (x.add 2) = some (Value.bool st.isNone) ∧
    RI .u8 h B all ∧ Lim 256 all ∧ all.length ≤ 1000000 ∧ i ≤ all.length ∧ (∀ bs, st = some bs → all.drop i = bs) ∧ (all ≠ [] → B.blk ≠ some x.block) ∧ (all ≠ [] → B.blk ≠ some z) ∧ (all ≠ [] → ∀ b, B.blk = some b → b < m)
  f1 : frozen? h (x.add 1) = false
  f2 : frozen? h (x.add 2) = false
  ne : x.block ≠ z
  xm : x.block < m
  zm : z < m
  ms : m ≤ h.size
theorem DI.lim (p : DI h x z m st) : limS st := by
  obtain ⟨B, all, i, _, _, _, _, hl, _, _, hb, _⟩ := p.c
  cases st with
  | none => exact Lim.nil
  | some bs => rw [← hb bs rfl]; exact fun y hy => hl y (List.mem_of_mem_drop hy)
theorem DI.len (p : DI h x z m st) : lens st ≤ 1000000 := by
  obtain ⟨B, all, i, _, _, _, _, _, hl, _, hb, _⟩ := p.c
  cases st with
  | none => exact Nat.zero_le _
  | some bs => have := hb bs rfl; subst this; simp only [lens, Option.getD_some, List.length_drop]; omega
theorem DI.keep {o : Option Nat} (p : DI h x z m st) (k : Keep o h h') (ho : ∀ b, o = some b → b = z ∨ m ≤ b) : DI h' x z m st := by
  obtain ⟨B, all, i, c0, c1, c2, r, l1, l2, l3, l4, d1, d2, d3⟩ := p.c
  have hne : some x.block ≠ o := fun e => (ho _ e.symm).elim p.ne (fun h => by have := p.xm; omega)
  refine { p with c := ⟨B, all, i, cell_keep k c0 (by rw [addr_add_block]; exact hne), cell_keep k c1 (by rw [addr_add_block]; exact hne), cell_keep k c2 (by rw [addr_add_block]; exact hne), R.keepN r k (fun hx y hy e => (ho _ e.symm).elim (fun h => d2 hx (by rw [← h]; simp [Sl.blk, hy])) (fun h => by have := d3 hx y.block (by simp [Sl.blk, hy]); omega)), l1, l2, l3, l4, d1, d2, d3⟩, f1 := frozen_keep k (cell_lt c1) p.f1 (by rw [addr_add_block]; exact hne), f2 := frozen_keep k (cell_lt c2) p.f2 (by rw [addr_add_block]; exact hne), ms := Nat.le_trans p.ms k.size }
theorem DI.ext (p : DI h x z m st) (e : Ext h h') : DI h' x z m st := p.keep e (fun b hb => by cases hb)

/-- It goes wrong. -/
theorem DI.fail (p : DI h x z m st) : DI (setCell h (x.add 2) (Value.bool true)) x z m none := by
  obtain ⟨B, all, i, c0, c1, c2, r, l1, l2, l3, l4, d1, d2, d3⟩ := p.c
  have k := keepSet x 2 (Value.bool true) h
  refine ⟨p.spot, ⟨B, all, i, ?_, ?_, cell_set_same c2, R.keepN r k (fun hx y hy e => d1 hx (by injection e with e; simp [Sl.blk, hy, e])), l1, l2, l3, (fun bs hb => nomatch hb), d1, d2, d3⟩, by rw [frozen_set]; exact p.f1, by rw [frozen_set]; exact p.f2, p.ne, p.xm, p.zm, by rw [setCell_size]; exact p.ms⟩
  · rw [cell_set_ne (.inr (.inl (off_ne p.spot (by decide))))]; exact c0
  · rw [cell_set_ne (.inr (.inl (off_ne p.spot (by decide))))]; exact c1
theorem DI.st2 {Q : Heap → Prop} (p : DI h x z m st) (K : ∀ h', DI h' x z m none → Keep (some x.block) h h' → Q h') : nilChk (some x) fun a => Lift.store (a.add 2) (Value.bool true) h Q := by
  obtain ⟨B, all, i, c0, c1, c2, _⟩ := p.c
  exact ⟨x, rfl, ⟨_, c2⟩, p.f2, K _ p.fail (keepSet x 2 _ h)⟩

theorem takeD_spec {n : Int} {Q : Sl → Heap → Prop} (p : DI h x z m st)
    (K : ∀ r h', RI .u8 h' r (tk st n).1 → (∀ b, r.blk = some b → m ≤ b) → DI h' x z m (tk st n).2 → Keep (some x.block) h h' → Q r h') : ref04uIn_take (some x) n h Q := by
  obtain ⟨B, all, i, c0, c1, c2, r, l1, l2, l3, l4, d1, d2, d3⟩ := p.c
  have hl := r.len
  refine seq.cut (fun (t : Bool) h1 => h1 = h ∧ (t = false ↔ st.isNone = false ∧ 0 ≤ n ∧ n ≤ ((all.length - i : Nat) : Int))) ?_ ?_
  · refine ⟨x, rfl, _, c2, fun hw => ⟨rfl, ?_⟩, fun hw => ⟨fun hn => ⟨rfl, ?_⟩, fun hn => ⟨x, rfl, B, c0, x, rfl, _, c1, rfl, ?_⟩⟩⟩
    · rw [hw]; simp
    · simp only [decide_eq_true_eq] at hn
      simp; intro _ h0; omega
    · simp only [decide_eq_false_iff_not] at hn
      rw [hl, w64 (by omega) (by omega), hw]
      simp
      omega
  rintro t h1 ⟨rfl, ht⟩
  refine ⟨fun hb => ?_, fun hb => ?_⟩
  · have hno : tk st n = ([], none) := by
      cases st with
      | none => rfl
      | some bs =>
        simp only [tk]
        rw [if_neg]
        intro hc
        have e := l4 bs rfl
        have : bs.length = all.length - i := by rw [← e, List.length_drop]
        rw [ht.2 ⟨rfl, by omega, by omega⟩] at hb; cases hb
    rw [hno] at K
    refine p.st2 fun h2 p2 k2 => ?_
    intro T
    have e3 : Ext h2 (h2.push (.cells ([] : List Value).toArray T (0, 0))) := Ext.push _ _
    refine K _ _ (R.nil_of rfl |> fun r => ⟨rfl, Nat.le_refl _, r.cells⟩) (fun b hb => ?_) (p2.ext e3) (k2.trans (Keep.of_ext e3))
    simp only [Sl.blk, Option.map_some, Option.some.injEq] at hb
    have := p2.ms; omega
  · obtain ⟨hs, h0, hle⟩ := ht.1 hb
    cases st with
    | none => simp at hs
    | some bs =>
    have eb := l4 bs rfl
    have hbl : bs.length = all.length - i := by rw [← eb, List.length_drop]
    have e : tk (some bs) n = (bs.take n.toNat, some (bs.drop n.toNat)) := by simp only [tk]; rw [if_pos (by omega)]
    rw [e] at K
    dsimp only at K
    have hcap := r.cap
    refine ⟨x, rfl, B, c0, x, rfl, _, c1, x, rfl, _, c1, ?_⟩
    dsimp only
    rw [w64 (n := (i : Int) + n) (by omega) (by omega)]
    have en : (i : Int) + n = ((i + n.toNat : Nat) : Int) := by omega
    rw [en]
    -- the piece
    have piece : ∀ {k : Sl → Prop}, (∀ s', RI .u8 h1 s' (bs.take n.toNat) → k s') → sliceOf B (some (i : Int)) (some ((i + n.toNat : Nat) : Int)) none 1 k := by
      intro k Kp
      have H := R.take (i := ((i + n.toNat : Nat) : Int)) (k := fun s' => RI .u8 h1 s' (all.take (i + n.toNat))) r (by omega) (by omega) (fun s' g1 _ _ _ => by rw [Int.toNat_natCast] at g1; exact g1)
      obtain ⟨g1, g2, g3, g4⟩ := H
      simp only [Option.getD_some, Option.getD_none, Int.toNat_zero, Nat.sub_zero, Nat.zero_mul, Int.toNat_natCast] at g4
      have H2 := R.drop (i := (i : Int)) (j := i) (k := fun s' => RI .u8 h1 s' ((all.take (i + n.toNat)).drop i)) g4 rfl (by rw [List.length_take]; omega) (fun s' g _ => g)
      obtain ⟨q1, q2, q3, q4⟩ := H2
      refine ⟨⟨by simp, by simp⟩, ⟨by show (0 : Int) ≤ ((i + n.toNat : Nat) : Int); omega, .inr (by show ((i + n.toNat : Nat) : Int) ≤ (B.cap : Int); omega)⟩, ⟨by show (0 : Int) ≤ (i : Int); omega, by show (i : Int) ≤ ((i + n.toNat : Nat) : Int); omega⟩, Kp _ ?_⟩
      have ed : (all.take (i + n.toNat)).drop i = bs.take n.toNat := by rw [List.drop_take, eb]; congr 1; omega
      rw [ed] at q4
      have hadd : ∀ o : Option Addr, o.map (fun a => a.add 0) = o := by intro o; cases o <;> simp [Addr.add]
      simp only [Option.getD_some, Option.getD_none, Int.toNat_natCast, hadd] at q4 ⊢
      simp only [ite_self] at q4
      exact q4
    refine piece fun s' hs' => ?_
    intro T
    have e1 : Ext h1 (h1.push (.cells ([] : List Value).toArray T (0, 0))) := Ext.push _ _
    have ho := Own.new (toV := fun n : Nat => Value.int .u8 (n : Int)) (h := h1) (ys := []) (cs := []) (T := T) rfl
    have hs1 : (h1.push (.cells ([] : List Value).toArray T (0, 0)) : Heap).size = h1.size + 1 := by simp
    generalize (h1.push (.cells ([] : List Value).toArray T (0, 0)) : Heap) = h2 at *
    refine ⟨cell_keep e1 c0 (by simp), cell_keep e1 c1 (by simp), cell_keep e1 c1 (by simp), ?_⟩
    refine Own.append (bytes := 1) (B := h1.size) (xs := []) ho (by omega) (R.ext hs' e1) (fun _ => rfl) (by simp; omega) fun r2 h3 o3 k3 b3 => ?_
    have e3 : Ext h1 h3 := ⟨by have := k3.size; omega, fun b hb _ => (k3.same b (by omega) (fun e => by have := (ho.lt e.symm).1; omega)).trans (e1.same b hb (by simp))⟩
    have p3 := p.ext e3
    obtain ⟨B', all', i', c0', c1', c2', r', l1', l2', l3', l4', d1', d2', d3'⟩ := p3.c
    have c1'' := cell_keep e3 c1 (by simp)
    refine ⟨x, rfl, _, c1'', x, rfl, ⟨_, c1''⟩, p3.f1, ?_⟩
    rw [w64 (by omega) (by omega), en]
    have k4 := keepSet x 1 (Value.int .i64 ((i + n.toNat : Nat) : Int)) h3
    have hlast : ∀ b, r2.blk = some b → m ≤ b := fun b hb => by have := (o3.lt hb).1; have := p.ms; omega
    have hr2 : RI .u8 h3 r2 (bs.take n.toNat) := by simpa using o3.r
    refine K r2 _ (hr2.keep k4 (fun y hy e => by injection e with e; have := hlast y.block (by simp [Sl.blk, hy]); have := p.xm; omega)) hlast ⟨p.spot, ⟨B, all, i + n.toNat, ?_, cell_set_same c1'', ?_, R.keepN (r.ext e3) k4 (fun hx y hy e => d1 hx (by injection e with e; simp [Sl.blk, hy, e])), l1, l2, by omega, fun bs' hb' => ?_, d1, d2, d3⟩, by rw [frozen_set]; exact p3.f1, by rw [frozen_set]; exact p3.f2, p.ne, p.xm, p.zm, by rw [setCell_size]; exact p3.ms⟩ ((Keep.of_ext e3).trans k4)
    · rw [cell_set_ne (.inr (.inl (off_ne p.spot (by decide))))]; exact cell_keep e3 c0 (by simp)
    · rw [cell_set_ne (.inr (.inl (off_ne p.spot (by decide))))]; exact cell_keep e3 c2 (by simp)
    · cases hb'
      rw [← List.drop_drop, eb]

theorem intD_spec {Q : Int → Heap → Prop} (p : DI h x z m st) (K : ∀ h', DI h' x z m (numS st 8).2 → Keep (some x.block) h h' → Q (sg (numS st 8).1) h') : ref04uIn_Int (some x) h Q := by
  refine takeD_spec p fun r h1 hr _ p1 k1 => ?_
  have hlim := (tk_lim p.lim (8 : Int)).1
  have hlen := tk_len (st := st) (k := 8)
  have e8 : tk st ((8 : Nat) : Int) = tk st 8 := rfl
  rw [e8] at hlen
  have K' : ∀ h', DI h' x z m (tk st 8).2 → Keep (some x.block) h h' → Q (sg (be (tk st 8).1)) h' := K
  generalize (tk st 8).1 = xs at *
  have hrl := hr.len
  refine loop.inv (fun (s0 : Int × Int) h2 => h2 = h1 ∧ ∃ i : Nat, s0 = ((be (xs.take i) : Int), (i : Int)) ∧ i ≤ xs.length) (fun s0 _ => xs.length - s0.2.toNat) ⟨rfl, 0, by simp [be_nil], Nat.zero_le _⟩ ?_
  rintro s0 h2 ⟨rfl, i, rfl, hi⟩
  dsimp only
  refine ⟨fun hlt => ?_, fun hge => ?_⟩
  · simp only [decide_eq_true_eq] at hlt
    refine RI.ld hr (j := i) rfl (by omega) ?_
    have hb := be_small (l := xs.take i) (k := 7) (by rw [List.length_take]; omega) (hlim.take i)
    have hc := hlim.get (i := i) (by omega)
    rw [wu64 (n := 256 * ((be (xs.take i) : Nat) : Int)) (by omega) (by omega), wu64 (n := ((xs[i] : Nat) : Int)) (by omega) (by omega), wu64 (by omega) (by omega)]
    have e : 256 * ((be (xs.take i) : Nat) : Int) + ((xs[i]'(by omega) : Nat) : Int) = ((be (xs.take (i + 1)) : Nat) : Int) := by rw [be_take xs (by omega)]; omega
    rw [e]
    rintro n' rfl
    rw [w64 (by omega) (by omega)]
    rintro i' rfl
    exact ⟨⟨rfl, i + 1, by simp, by omega⟩, by simp only [Int.toNat_natCast]; omega⟩
  · simp only [decide_eq_false_iff_not] at hge
    have : i = xs.length := by omega
    subst this
    rw [List.take_length]
    exact K' h2 p1 k1

theorem countD_spec {least : Int} {Q : Int → Heap → Prop} (p : DI h x z m st) (K : ∀ h', DI h' x z m (cnt st least).2 → Keep (some x.block) h h' → Q (cnt st least).1 h') : ref04uIn_Count (some x) least h Q := by
  refine intD_spec p fun h1 p1 k1 => ?_
  have hlen := p1.len
  obtain ⟨B, all, i, c0, c1, c2, r, l1, l2, l3, l4, d1, d2, d3⟩ := p1.c
  have hl := r.len
  refine seq.cut (fun (t : Int) h2 => h2 = h1 ∧ t = max least 1) ?_ ?_
  · refine ⟨fun hn => ⟨rfl, ?_⟩, fun hn => ⟨rfl, ?_⟩⟩
    · simp only [decide_eq_true_eq] at hn; omega
    · simp only [decide_eq_false_iff_not] at hn; omega
  rintro t h2 ⟨rfl, rfl⟩
  refine seq.cut (fun (t : Bool) h3 => h3 = h2 ∧ (t = true ↔ (numS st 8).2 = none ∨ sg (numS st 8).1 < 0 ∨ sg (numS st 8).1 > ((lens (numS st 8).2 : Nat) : Int) / max least 1)) ?_ ?_
  · refine ⟨x, rfl, _, c2, fun hw => ⟨rfl, ?_⟩, fun hw => ⟨fun hn => ⟨rfl, ?_⟩, fun hn => ⟨x, rfl, B, c0, x, rfl, _, c1, ?_, rfl, ?_⟩⟩⟩
    · simp only [Option.isNone_iff_eq_none] at hw
      exact ⟨fun _ => .inl hw, fun _ => rfl⟩
    · simp only [decide_eq_true_eq] at hn
      exact ⟨fun _ => .inr (.inl hn), fun _ => rfl⟩
    · omega
    · simp only [decide_eq_false_iff_not] at hn
      cases hs : (numS st 8).2 with
      | none => rw [hs] at hw; simp at hw
      | some bs =>
      have hbl : (lens (some bs) : Nat) = all.length - i := by have := l4 bs hs; subst this; simp [lens]
      have hq : ((all.length : Nat) : Int) - (i : Int) = ((lens (some bs) : Nat) : Int) := by omega
      rw [hs] at hlen
      rw [hl, w64 (n := ((all.length : Nat) : Int) - (i : Int)) (by omega) (by omega), hq]
      have hq : Int.tdiv ((lens (some bs) : Nat) : Int) (max least 1) = ((lens (some bs) : Nat) : Int) / max least 1 := Int.tdiv_eq_ediv_of_nonneg (by omega)
      have hbound : ((lens (some bs) : Nat) : Int) / max least 1 ≤ ((lens (some bs) : Nat) : Int) := Int.ediv_le_self _ (by omega)
      have hnn : 0 ≤ ((lens (some bs) : Nat) : Int) / max least 1 := Int.ediv_nonneg (by omega) (by omega)
      rw [hq, w64 (by omega) (by omega)]
      simp only [gt_iff_lt, decide_eq_true_eq]
      exact ⟨fun h => .inr (.inr h), fun h => h.elim (fun h => by cases h) (fun h => h.elim (fun h => absurd h hn) id)⟩
  rintro t h3 ⟨rfl, ht⟩
  refine ⟨fun hb => ?_, fun hb => ?_⟩
  · have hc := ht.1 hb
    have e : cnt st least = (0, none) := by
      unfold cnt
      cases hs : (numS st 8).2 with
      | none => rfl
      | some bs =>
        rw [hs] at hc
        dsimp only
        exact if_pos (hc.elim (fun h => nomatch h) id)
    rw [e] at K
    exact p1.st2 fun h4 p4 k4 => K h4 p4 (k1.trans k4)
  · have hc : ¬ ((numS st 8).2 = none ∨ sg (numS st 8).1 < 0 ∨ sg (numS st 8).1 > ((lens (numS st 8).2 : Nat) : Int) / max least 1) := fun h => by rw [ht.2 h] at hb; cases hb
    have e : cnt st least = (sg (numS st 8).1, (numS st 8).2) := by
      unfold cnt
      cases hs : (numS st 8).2 with
      | none => rw [hs] at hc; exact absurd (.inl rfl) hc
      | some bs =>
        rw [hs] at hc
        dsimp only
        exact if_neg (fun h => hc (.inr h))
    rw [e] at K
    exact K h3 p1 k1

theorem flagD_spec {Q : Bool → Heap → Prop} (p : DI h x z m st) (K : ∀ h', DI h' x z m (flagS st).2 → Keep (some x.block) h h' → Q (flagS st).1 h') : ref04uIn_Flag (some x) h Q := by
  refine takeD_spec p fun r h1 hr hb1 p1 k1 => ?_
  have hlen := tk_len (st := st) (k := 1)
  have e1 : tk st ((1 : Nat) : Int) = tk st 1 := rfl
  rw [e1] at hlen
  have hrl := hr.len
  have en : numS st 1 = (be (tk st 1).1, (tk st 1).2) := rfl
  unfold flagS at K
  rw [en] at K
  dsimp only at K
  have hxs : (tk st 1).1 = [] ∨ ∃ c, (tk st 1).1 = [c] := by
    rcases hx : (tk st 1).1 with _ | ⟨c, _ | ⟨d, l⟩⟩
    · exact .inl rfl
    · exact .inr ⟨c, rfl⟩
    · rw [hx] at hlen; simp at hlen
  generalize (tk st 1).1 = xs at *
  rcases hxs with rfl | ⟨c, rfl⟩
  · rw [be_nil, if_neg (by decide)] at K
    have hz : (((r.len : Nat) : Int) == 1) = false := by rw [hrl]; rfl
    refine seq.cut (fun (_ : Unit) h2 => h2 = h1) ?_ ?_
    · refine seq.cut (fun (b : Bool) h2 => b = false ∧ h2 = h1) ?_ (fun b h2 ⟨g1, g2⟩ => by subst g1; subst g2; exact ⟨fun hb => by simp at hb, fun _ => rfl⟩)
      rw [hz]; exact ⟨fun hb => by simp at hb, fun _ => ⟨rfl, rfl⟩⟩
    · rintro _ h2 rfl
      refine seq.cut (fun (b : Bool) h3 => b = false ∧ h3 = h2) ?_ (fun b h3 ⟨g1, g2⟩ => by subst g1; subst g2; exact K h3 p1 k1)
      rw [hz]; exact ⟨fun hb => by simp at hb, fun _ => ⟨rfl, rfl⟩⟩
  · have hbe : be [c] = c := by simp [be]
    rw [hbe] at K
    have hz : (((r.len : Nat) : Int) == 1) = true := by rw [hrl]; rfl
    refine seq.cut (fun (_ : Unit) h2 => DI h2 x z m (if c > 1 then none else (tk st 1).2) ∧ Keep (some x.block) h1 h2) ?_ ?_
    · refine seq.cut (fun (b : Bool) h2 => (b = true ↔ c > 1) ∧ h2 = h1) ?_ ?_
      · rw [hz]
        refine ⟨fun _ => RI.ld hr (j := 0) rfl (by simp) ⟨?_, rfl⟩, fun hb => by simp at hb⟩
        simp; omega
      · rintro b h2 ⟨hb, rfl⟩
        refine ⟨fun ht => p1.st2 fun h3 p3 k3 => ?_, fun hf => ?_⟩
        · rw [if_pos (hb.1 ht)]; exact ⟨p3, k3⟩
        · rw [if_neg (fun h => by rw [hb.2 h] at hf; cases hf)]; exact ⟨p1, Keep.refl _ _⟩
    · rintro _ h2 ⟨p2, k2⟩
      have hr2 : RI .u8 h2 r [c] := hr.keep k2 (fun y hy e => by injection e with e; have := hb1 y.block (by simp [Sl.blk, hy]); have := p.xm; omega)
      refine seq.cut (fun (b : Bool) h3 => b = (c == 1) ∧ h3 = h2) ?_ ?_
      · rw [hz]
        refine ⟨fun _ => RI.ld hr2 (j := 0) rfl (by simp) ⟨?_, rfl⟩, fun hb => by simp at hb⟩
        rw [Bool.eq_iff_iff]; simp; omega
      · rintro b h3 ⟨rfl, rfl⟩
        by_cases hc : c > 1
        · rw [if_pos hc] at p2 K
          have : (c == 1) = false := by simp; omega
          rw [this]
          exact K h3 p2 (k1.trans k2)
        · rw [if_neg hc] at p2 K
          exact K h3 p2 (k1.trans k2)

theorem bytesD_spec {Q : Sl → Heap → Prop} (p : DI h x z m st) (K : ∀ r h', RI .u8 h' r (bytesS st).1 → DI h' x z m (bytesS st).2 → Keep (some x.block) h h' → Q r h') : ref04uIn_Bytes (some x) h Q :=
  countD_spec p fun h1 p1 k1 => takeD_spec p1 fun r h2 hr _ p2 k2 => K r h2 hr p2 (k1.trans k2)

theorem limbsD_spec {Q : Sl → Heap → Prop} (p : DI h x z m st) (K : ∀ r h', RI .u32 h' r (rowS 4 st).1 → Lim 4294967296 (rowS 4 st).1 → (rowS 4 st).1.length ≤ 250000 → (∀ b, r.blk = some b → m ≤ b) → DI h' x z m (rowS 4 st).2 → Keep (some x.block) h h' → Q r h') : ref04uIn_limbs (some x) h Q := by
  refine countD_spec p fun h1 p1 k1 => ?_
  have h4 : (cnt st (4 : Nat)) = cnt st 4 := rfl
  unfold rowS at K
  intro T
  have e1 : Ext h1 (h1.push (.cells ([] : List Value).toArray T (0, 0))) := Ext.push _ _
  have ho := Own.new (toV := fun n : Nat => Value.int .u32 (n : Int)) (h := h1) (ys := []) (cs := []) (T := T) rfl
  have hs1 : (h1.push (.cells ([] : List Value).toArray T (0, 0)) : Heap).size = h1.size + 1 := by simp
  generalize (h1.push (.cells ([] : List Value).toArray T (0, 0)) : Heap) = h2 at *
  rintro out rfl
  have p2 := p1.ext e1
  have hl1 : m ≤ h1.size := p1.ms
  have k2 := k1.trans (Keep.of_ext e1)
  rcases cnt_spec st 4 with ⟨bs, g1, g2, g3, _⟩ | g
  · rw [h4, g1] at K
    dsimp only at K
    rw [g1] at p2
    obtain ⟨c, hc⟩ : ∃ c : Nat, (cnt st 4).1 = (c : Int) := ⟨(cnt st 4).1.toNat, by omega⟩
    rw [hc] at K g3
    rw [Int.toNat_natCast] at K
    have hle : 4 * c ≤ bs.length := cnt_le (w := 4) (by decide) g3
    have hlb := lens_bound p2.len
    have hlim : Lim 256 bs := p2.lim
    rw [hc]
    refine loop.inv (fun (s0 : Sl × Int) h3 => ∃ i : Nat, s0.2 = (i : Int) ∧ i ≤ c ∧ OwnI .u32 h1.size h3 s0.1 (chunks 4 i bs) ∧ DI h3 x z m (some (bs.drop (4 * i))) ∧ Keep (some x.block) h1 h3 ∧ h1.size < h3.size) (fun s0 _ => c - s0.2.toNat) ⟨0, rfl, Nat.zero_le _, ho, by simpa using p2, Keep.of_ext e1, by omega⟩ ?_
    rintro ⟨out, i⟩ h3 ⟨i, rfl, hi, ho, p3, k3, s3⟩
    dsimp only at ho ⊢
    refine ⟨fun hlt => ?_, fun hge => ?_⟩
    · simp only [decide_eq_true_eq] at hlt
      have hen : 4 ≤ (bs.drop (4 * i)).length := by rw [List.length_drop]; omega
      refine takeD_spec p3 fun r h4 hr hb4 p4 k4 => ?_
      have etk : tk (some (bs.drop (4 * i))) 4 = ((bs.drop (4 * i)).take 4, some ((bs.drop (4 * i)).drop 4)) := tk_some (k := 4) hen
      rw [etk] at p4 hr
      dsimp only at p4 hr
      rw [List.drop_drop] at p4
      obtain ⟨b0, b1, b2, b3, hbb⟩ : ∃ b0 b1 b2 b3, (bs.drop (4 * i)).take 4 = [b0, b1, b2, b3] := by
        have hl4 : ((bs.drop (4 * i)).take 4).length = 4 := by rw [List.length_take]; omega
        match (bs.drop (4 * i)).take 4, hl4 with
        | [b0, b1, b2, b3], _ => exact ⟨b0, b1, b2, b3, rfl⟩
      have hlq : Lim 256 [b0, b1, b2, b3] := by rw [← hbb]; exact fun y hy => hlim y (List.mem_of_mem_drop (List.mem_of_mem_take hy))
      have q0 := hlq b0 (by simp); have q1 := hlq b1 (by simp); have q2 := hlq b2 (by simp); have q3 := hlq b3 (by simp)
      rw [hbb] at hr
      have ebe : be ((bs.drop (4 * i)).take 4) = ((b0 * 16777216 + b1 * 65536) + b2 * 256) + b3 := by rw [hbb]; simp [be]; omega
      refine RI.ld hr (j := 0) rfl (by simp) (RI.ld hr (j := 1) rfl (by simp) (RI.ld hr (j := 2) rfl (by simp) (RI.ld hr (j := 3) rfl (by simp) ?_)))
      simp only [List.getElem_cons_zero, List.getElem_cons_succ]
      rw [wu32 (n := (b0 : Int)) (by omega) (by omega), wu32 (n := (b1 : Int)) (by omega) (by omega), wu32 (n := (b2 : Int)) (by omega) (by omega), wu32 (n := (b3 : Int)) (by omega) (by omega),
        wu32 (n := (b0 : Int) * 16777216) (by omega) (by omega), wu32 (n := (b1 : Int) * 65536) (by omega) (by omega), wu32 (n := (b2 : Int) * 256) (by omega) (by omega),
        wu32 (n := (b0 : Int) * 16777216 + (b1 : Int) * 65536) (by omega) (by omega), wu32 (n := (b0 : Int) * 16777216 + (b1 : Int) * 65536 + (b2 : Int) * 256) (by omega) (by omega), wu32 (by omega) (by omega)]
      have ev : (b0 : Int) * 16777216 + (b1 : Int) * 65536 + (b2 : Int) * 256 + (b3 : Int) = ((be ((bs.drop (4 * i)).take 4) : Nat) : Int) := by rw [ebe]; omega
      rw [ev]
      have ho4 := ho.keep k4 (fun b hb e => by injection e with e; have := (ho.lt hb).1; have := p.xm; omega)
      intro T'
      have hx := (Own.new (toV := fun n : Nat => Value.int .u32 (n : Int)) (h := h4) (ys := [be ((bs.drop (4 * i)).take 4)]) (T := T') (cs := [Value.int .u32 ((be ((bs.drop (4 * i)).take 4) : Nat) : Int)]) rfl).r
      have e5 := Ext.push h4 (.cells [Value.int .u32 ((be ((bs.drop (4 * i)).take 4) : Nat) : Int)].toArray T' (0, 0))
      generalize (h4.push (.cells [Value.int .u32 ((be ((bs.drop (4 * i)).take 4) : Nat) : Int)].toArray T' (0, 0)) : Heap) = h5 at *
      have hs4 := k4.size
      have hs5 := e5.size
      refine Own.append (bytes := 4) (ho4.ext e5) (by omega) hx (fun _ => rfl) (by rw [chunks_len]; simp; omega) fun out' h6 o6 k6 b6 => ?_
      have p6 : DI h6 x z m (some (bs.drop (4 * i + 4))) := (p4.ext e5).keep k6 (fun b hb => .inr (by have := ((ho4.ext e5).lt hb).1; omega))
      rw [w64 (by omega) (by omega)]
      rintro i' rfl
      have hs6 := k6.size
      refine ⟨⟨i + 1, rfl, by omega, by rw [chunks_succ]; exact o6, by rw [show 4 * (i + 1) = 4 * i + 4 from by omega]; exact p6, keepFresh ((k3.trans k4).trans (Keep.of_ext e5)) k6 (fun n hn => ((ho4.ext e5).lt hn).1), by omega⟩, by simp only [Int.toNat_natCast]; omega⟩
    · simp only [decide_eq_false_iff_not] at hge
      have : i = c := by omega
      subst this
      refine K _ h3 ho.r (fun y hy => ?_) (by rw [chunks_len]; omega) (fun b hb => by have := (ho.lt hb).1; omega) p3 (k1.trans k3)
      obtain ⟨j, _, rfl⟩ := List.mem_map.1 hy
      exact be_small (k := 4) (by rw [List.length_take]; omega) (fun y hy => hlim y (List.mem_of_mem_drop (List.mem_of_mem_take hy)))
  · rw [h4, g] at K
    dsimp only at K
    rw [g] at p2 ⊢
    refine loop.inv (fun (s0 : Sl × Int) h3 => s0 = (⟨some ⟨h1.size, 0, none⟩, 0, 0⟩, 0) ∧ h3 = h2) (fun _ _ => 0) ⟨rfl, rfl⟩ ?_
    rintro s0 h3 ⟨rfl, rfl⟩
    exact ⟨fun hb => by simp at hb, fun _ => K _ h3 ho.r Lim.nil (Nat.zero_le _) (fun b hb => by simp only [Sl.blk, Option.map_some, Option.some.injEq] at hb; omega) p2 k2⟩

theorem ratioD_spec {Q : Bool × Sl × Sl → Heap → Prop} (p : DI h x z m st) (K : ∀ r h', XL h' r (ratS st).1 → (∀ b, r.2.1.blk = some b → m ≤ b) → (∀ b, r.2.2.blk = some b → m ≤ b) → DI h' x z m (ratS st).2 → Keep (some x.block) h h' → Q r h') : ref04uIn_Ratio (some x) h Q := by
  refine mem_ext fun h0 e0 => mem_ext fun h1 e1 => ?_
  have e1 := e0.trans e1
  refine flagD_spec (p.ext e1) fun h2 p2 k2 => limbsD_spec p2 fun v1 h3 r1 l1 n1 b1 p3 k3 => limbsD_spec p3 fun v2 h4 r2 l2 n2 b2 p4 k4 => ?_
  have kk : Keep (some x.block) h h4 := ((Keep.of_ext e1).trans k2).trans (k3.trans k4)
  have r1' : RI .u32 h4 v1 (rowS 4 (flagS st).2).1 := r1.keep k4 (fun y hy e => by injection e with e; have := b1 y.block (by simp [Sl.blk, hy]); have := p.xm; omega)
  have X : XL h4 ((flagS st).1, v1, v2) ((flagS st).1, (rowS 4 (flagS st).2).1, (rowS 4 (rowS 4 (flagS st).2).2).1) := ⟨rfl, ⟨r1', l1, r2, l2⟩, n1, n2⟩
  refine seq.cut (fun (b : Bool) h5 => DI h5 x z m (rowS 4 (rowS 4 (flagS st).2).2).2 ∧ Ext h4 h5 ∧ (b = false ↔ ratGood st)) ?_ ?_
  · obtain ⟨B, all, i, _, _, c2, _⟩ := p4.c
    refine ⟨x, rfl, _, c2, fun hw => ⟨p4, Keep.refl _ _, ?_⟩, fun hw => ?_⟩
    · simp only [Bool.true_eq_false, false_iff]
      intro hg
      have := hg.1
      cases hx : (rowS 4 (rowS 4 (flagS st).2).2).2 <;> simp_all
    · refine RightD_spec X.x (by dsimp only; omega) (by dsimp only; omega) fun b h5 hb e5 => ⟨p4.ext e5, e5, ?_⟩
      rw [X.isQ] at hb
      unfold ratGood
      have hs : (rowS 4 (rowS 4 (flagS st).2).2).2.isSome = true := by
        cases hx : (rowS 4 (rowS 4 (flagS st).2).2).2 <;> simp_all
      rw [hs]
      simp only [true_and]
      rw [← hb]; cases b <;> simp
  rintro b h5 ⟨p5, e5, hb⟩
  have k5 := kk.trans (Keep.of_ext e5)
  refine ⟨fun ht => ?_, fun hf => ?_⟩
  · have hg : ¬ ratGood st := fun h => by rw [hb.2 h] at ht; cases ht
    have e : ratS st = ((false, [], []), none) := by unfold ratS; rw [if_neg hg]
    rw [e] at K
    refine p5.st2 fun h6 p6 k6 => K _ h6 XL.zero (by simp [Sl.blk, Sl.nil]) (by simp [Sl.blk, Sl.nil]) p6 (k5.trans k6)
  · have hg := hb.1 hf
    have e : ratS st = (((flagS st).1, (rowS 4 (flagS st).2).1, (rowS 4 (rowS 4 (flagS st).2).2).1), (rowS 4 (rowS 4 (flagS st).2).2).2) := by unfold ratS; rw [if_pos hg]
    rw [e] at K
    exact K _ h5 (X.ext e5) b1 b2 p5 k5
theorem deltaD_spec {Q : Bool × Sl × Sl × Bool × Sl × Sl → Heap → Prop} (p : DI h x z m st)
    (K : ∀ (r : Bool × Sl × Sl × Bool × Sl × Sl) h', XL h' (r.1, r.2.1, r.2.2.1) (delS st).1.1 → XL h' r.2.2.2 (delS st).1.2 → DI h' x z m (delS st).2 → Keep (some x.block) h h' → Q r h') : ref04uIn_Delta (some x) h Q := by
  refine mem_ext fun h0 e0 => mem_ext fun h1 e1 => ?_
  have e1 := e0.trans e1
  refine ratioD_spec (p.ext e1) fun u h2 X b1 b2 p2 k2 => ratioD_spec p2 fun y h3 Y b3 b4 p3 k3 => ?_
  have kk : Keep (some x.block) h h3 := (Keep.of_ext e1).trans (k2.trans k3)
  obtain ⟨B, all, i, _, _, c2, _⟩ := p3.c
  have X3 := X.keep k3 (fun b hb e => by injection e with e; have := b1 b hb; have := p.xm; omega) (fun b hb e => by injection e with e; have := b2 b hb; have := p.xm; omega)
  refine ⟨x, rfl, _, c2, fun hw => ?_, fun hw => ?_⟩
  · have hn : (ratS (ratS st).2).2 = none := by cases hx : (ratS (ratS st).2).2 <;> simp_all
    have e : delS st = (((false, [], []), (false, [], [])), none) := by unfold delS; rw [if_pos hn]
    rw [e] at K
    rw [hn] at p3
    exact K _ h3 XL.zero XL.zero p3 kk
  · have hn : ¬ (ratS (ratS st).2).2 = none := by intro hx; simp_all
    have e : delS st = (((ratS st).1, (ratS (ratS st).2).1), (ratS (ratS st).2).2) := by unfold delS; rw [if_neg hn]
    rw [e] at K
    exact K _ h3 X3 Y p3 kk
theorem doneD_spec {Q : Int → Heap → Prop} (p : DI h x z m st) (K : Q (if st = some [] then 0 else 3) h) : ref04uIn_Done (some x) h Q := by
  obtain ⟨B, all, i, c0, c1, c2, r, l1, l2, l3, l4, _⟩ := p.c
  have hl := r.len
  refine seq.cut (fun (b : Bool) h1 => h1 = h ∧ (b = false ↔ st = some [])) ?_ ?_
  · refine ⟨x, rfl, _, c2, fun hw => ⟨rfl, ?_⟩, fun hw => ⟨x, rfl, _, c1, x, rfl, B, c0, rfl, ?_⟩⟩
    · cases st <;> simp_all
    · rw [hl]
      cases st with
      | none => simp at hw
      | some bs =>
        have e := l4 bs rfl
        have : bs.length = all.length - i := by rw [← e, List.length_drop]
        cases bs with
        | nil => simp at this ⊢; omega
        | cons y l => simp at this ⊢; omega
  rintro b h1 ⟨rfl, hb⟩
  refine ⟨fun ht => ?_, fun hf => ?_⟩
  · rw [if_neg (fun h => by rw [hb.2 h] at ht; cases ht)] at K; exact K
  · rw [if_pos (hb.1 hf)] at K; exact K
end Go.Sh
