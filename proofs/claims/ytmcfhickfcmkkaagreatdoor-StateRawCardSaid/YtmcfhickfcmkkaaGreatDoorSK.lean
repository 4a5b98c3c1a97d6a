/-
  Laws that the proof of this claim's statement leans on, each proved under the conditions that it states.
-/
import Derived.Test.YtmcfhickfcmkkaaGreatDoorSpE
import Derived.Test.YtmcfhickfcmkkaaGreatDoorSpW
import Derived.Test.YtmcfhickfcmkkaaGreatDoorFwC
set_option linter.unusedVariables false
set_option linter.unusedSimpArgs false
namespace Go.Sh.Pk
open Go Go.Lift
def be (l : List Nat) : Nat := l.foldl (fun n c => 256 * n + c) 0
theorem alS : be [] = 0 := rfl
theorem aiK (l : List Nat) (c : Nat) : be (l ++ [c]) = 256 * be l + c := by simp [be]
theorem aim (l : List Nat) : ∀ n, l.length = n → Lim 256 l → be l < 256 ^ n := by
  intro n
  induction n generalizing l with
  | zero => intro hl _; rw [List.eq_nil_of_length_eq_zero hl]; decide
  | succ n ih =>
    intro hl hL
    have hne : l ≠ [] := fun h => by subst h; simp at hl
    have e := (List.dropLast_concat_getLast hne).symm
    rw [e, aiK]
    have h1 := ih l.dropLast (by simp [hl]) (fun x hx => hL x (List.dropLast_subset _ hx))
    have h2 := hL _ (List.getLast_mem hne)
    rw [Nat.pow_succ]
    omega
theorem akJ (l : List Nat) {i : Nat} (hi : i < l.length) : be (l.take (i + 1)) = 256 * be (l.take i) + l[i] := by
  rw [List.take_succ_eq_append_getElem hi, aiK]
abbrev St := Option (List Nat)
def tk : St → Int → List Nat × St
  | none, _ => ([], none)
  | some bs, n => if 0 ≤ n ∧ n ≤ (bs.length : Int) then (bs.take n.toNat, some (bs.drop n.toNat)) else ([], none)
def numS (st : St) (k : Nat) : Nat × St := (be (tk st k).1, (tk st k).2)
def sg (n : Nat) : Int := IntKind.wrap .i64 (n : Int)
def cnt (st : St) (least : Int) : Int × St :=
  match (numS st 8).2 with
  | none => (0, none)
  | some bs => if sg (numS st 8).1 < 0 ∨ sg (numS st 8).1 > (bs.length : Int) / max least 1 then (0, none) else (sg (numS st 8).1, some bs)
def gB (st : St) : Bool × St := if (numS st 1).1 > 1 then (false, none) else ((numS st 1).1 == 1, (numS st 1).2)
def qO (w c : Nat) (bs : List Nat) : List Nat := (List.range c).map fun j => be ((bs.drop (w * j)).take w)
def rowS (w : Nat) (st : St) : List Nat × St :=
  match (cnt st w).2 with
  | none => ([], none)
  | some bs => (qO w (cnt st w).1.toNat bs, some (bs.drop (w * (cnt st w).1.toNat)))
def isQL (neg : Bool) (xs ys : List Nat) : Prop := Nrm xs ∧ Nrm ys ∧ val 4294967296 ys ≠ 1 ∧ (if val 4294967296 xs = 0 then neg = false ∧ val 4294967296 ys = 0 else Nat.gcd (val 4294967296 xs) (Dn ys) = 1)
def acg (st : St) : Prop := (rowS 4 (rowS 4 (gB st).2).2).2.isSome = true ∧ isQL (gB st).1 (rowS 4 (gB st).2).1 (rowS 4 (rowS 4 (gB st).2).2).1
open Classical in
noncomputable def ratS (st : St) : (Bool × List Nat × List Nat) × St :=
  if acg st then (((gB st).1, (rowS 4 (gB st).2).1, (rowS 4 (rowS 4 (gB st).2).2).1), (rowS 4 (rowS 4 (gB st).2).2).2) else ((false, [], []), none)
theorem tJ (k : Int) : cnt none k = (0, none) := rfl
def lens (st : St) : Nat := (st.getD []).length
def limS (st : St) : Prop := Lim 256 (st.getD [])
theorem aj4 {st : St} (h : limS st) (n : Int) : Lim 256 (tk st n).1 ∧ limS (tk st n).2 ∧ lens (tk st n).2 ≤ lens st ∧ (tk st n).1.length ≤ lens st := by
  cases st with
  | none => exact ⟨Lim.nil, h, Nat.le_refl _, Nat.zero_le _⟩
  | some bs =>
    have h : Lim 256 bs := h
    simp only [tk]
    split
    · refine ⟨h.take _, fun x hx => h x (List.mem_of_mem_drop hx), ?_, ?_⟩
      · simp [lens]
      · simp [lens]; omega
    · exact ⟨Lim.nil, Lim.nil, Nat.zero_le _, Nat.zero_le _⟩
theorem wu (st : St) (least : Int) : (∃ bs, (cnt st least).2 = some bs ∧ 0 ≤ (cnt st least).1 ∧ (cnt st least).1 ≤ (bs.length : Int) / max least 1 ∧ (numS st 8).2 = some bs) ∨ cnt st least = (0, none) := by
  unfold cnt
  cases h : (numS st 8).2 with
  | none => exact .inr rfl
  | some bs =>
    dsimp only
    split
    · exact .inr rfl
    · rename_i hn
      refine .inl ⟨bs, rfl, ?_, ?_, rfl⟩ <;> (dsimp only; omega)
theorem agj {a : Addr} (hs : a.spot = none) {i j : Nat} (h : i ≠ j) : (a.add i).off ≠ (a.add j).off := by
  rw [cu _ _ hs, cu _ _ hs]; simp; exact h
structure PI (h : Heap) (a : Addr) (z m : Nat) (st : St) : Prop where
  spot : a.spot = none
  c : ∃ s, cell? h (a.add 0) = some (Sl.toV s) ∧ cell? h (a.add 1) = some (Value.bool st.isNone) ∧ RI .u8 h s (st.getD []) ∧ s.blk ≠ some a.block ∧ s.blk ≠ some z ∧ ∀ b, s.blk = some b → b < m
  f0 : frozen? h (a.add 0) = false
  f1 : frozen? h (a.add 1) = false
  ne : a.block ≠ z
  am : a.block < m
  zm : z < m
  ms : m ≤ h.size
  lim : limS st
  len : lens st ≤ 1000000
variable {h h' : Heap} {a : Addr} {z m : Nat} {st : St}
theorem PI.keep {o : Option Nat} (p : PI h a z m st) (k : Keep o h h') (ho : ∀ b, o = some b → b = z ∨ m ≤ b) : PI h' a z m st := by
  obtain ⟨s, c0, c1, r, d1, d2, d3⟩ := p.c
  have hne : some a.block ≠ o := fun e => (ho _ e.symm).elim p.ne (fun h => by have := p.am; omega)
  refine { p with c := ⟨s, ao k c0 (by rw [aj]; exact hne), ao k c1 (by rw [aj]; exact hne), r.keep k (fun x hx e => (ho _ e.symm).elim (fun h => d2 (by rw [← h]; simp [Sl.blk, hx])) (fun h => by have := d3 x.block (by simp [Sl.blk, hx]); omega)), d1, d2, d3⟩, ms := Nat.le_trans p.ms k.size, f0 := fT k (hO c0) p.f0 (by rw [aj]; exact hne), f1 := fT k (hO c1) p.f1 (by rw [aj]; exact hne) }
theorem PI.ext (p : PI h a z m st) (e : Ext h h') : PI h' a z m st := p.keep e (fun b hb => by cases hb)
theorem wL (a : Addr) (i : Nat) (v : Value) (h : Heap) : Keep (some a.block) h (aS h (a.add i) v) := by
  have := Keep.setCell h (a.add i) v
  rwa [aj] at this
theorem sD {Q : Unit → Heap → Prop} (p : PI h a z m st) (K : ∀ h', PI h' a z m none → Keep (some a.block) h h' → Q () h') : i4 (some a) h Q := by
  obtain ⟨s, c0, c1, r, d1, d2, d3⟩ := p.c
  have n01 : a.add 0 ≠ a.add 1 := fun e => agj p.spot (i := 0) (j := 1) (by decide) (by rw [e])
  refine ⟨a, rfl, ⟨⟨_, c0⟩, p.f0, ⟨_, c1⟩, p.f1, trivial⟩, ?_⟩
  show Q () (aS (aS h (a.add 0) (Sl.toV Sl.nil)) (a.add 1) (Value.bool true))
  have c1' : cell? (aS h (a.add 0) (Sl.toV Sl.nil)) (a.add 1) = some (Value.bool st.isNone) := by
    rw [iI (.inr (.inl (agj p.spot (by decide))))]; exact c1
  refine K _ ⟨p.spot, ⟨Sl.nil, ?_, bK c1', R.nil, by simp [Sl.blk, Sl.nil], by simp [Sl.blk, Sl.nil], by simp [Sl.blk, Sl.nil]⟩, by rw [fv, fv]; exact p.f0, by rw [fv, fv]; exact p.f1, p.ne, p.am, p.zm, by rw [fQ, fQ]; exact p.ms, Lim.nil, Nat.zero_le _⟩ ((wL a 0 _ h).trans (wL a 1 _ _))
  rw [iI (.inr (.inl (agj p.spot (by decide))))]
  exact bK c0
theorem aiz {n : Int} {Q : Sl → Heap → Prop} (p : PI h a z m st)
    (K : ∀ r h', RI .u8 h' r (tk st n).1 → (∀ b, r.blk = some b → b ≠ a.block ∧ b ≠ z ∧ b < m) → PI h' a z m (tk st n).2 → Keep (some a.block) h h' → Q r h') : qd (some a) n h Q := by
  obtain ⟨s, c0, c1, r, d1, d2, d3⟩ := p.c
  have hl := r.len
  refine seq.cut (fun (t : Bool) h1 => h1 = h ∧ (t = false ↔ ∃ bs, st = some bs ∧ 0 ≤ n ∧ n ≤ (bs.length : Int))) ?_ ?_
  · refine ⟨a, rfl, _, c1, fun hw => ⟨rfl, ?_⟩, fun hw => ⟨fun hn => ⟨rfl, ?_⟩, fun hn => ⟨a, rfl, s, c0, rfl, ?_⟩⟩⟩
    · cases st with
      | none => simp
      | some bs => simp at hw
    · simp only [decide_eq_true_eq] at hn
      simp; intro bs _ h0; omega
    · simp only [decide_eq_false_iff_not] at hn
      cases st with
      | none => simp at hw
      | some bs =>
        simp only [Option.getD_some] at hl
        rw [hl]
        simp
        omega
  rintro t h1 ⟨rfl, ht⟩
  refine ⟨fun hb => ?_, fun hb => ?_⟩
  · have hno : tk st n = ([], none) := by
      cases st with
      | none => rfl
      | some bs =>
        simp only [tk]
        rw [if_neg]
        intro hc
        rw [ht.2 ⟨bs, rfl, hc⟩] at hb; cases hb
    rw [hno] at K
    exact sD p fun h2 p2 k2 => K Sl.nil h2 R.nil (by simp [Sl.blk, Sl.nil]) p2 k2
  · obtain ⟨bs, rfl, h0, hle⟩ := ht.1 hb
    have e : tk (some bs) n = (bs.take n.toNat, some (bs.drop n.toNat)) := by simp only [tk]; rw [if_pos ⟨h0, hle⟩]
    rw [e] at K
    dsimp only at K
    simp only [Option.getD_some] at hl r
    have hcap := r.cap
    refine ⟨a, rfl, s, c0, ?_⟩
    have H := R.take (i := n) (k := fun s' => RI .u8 h1 s' (bs.take n.toNat) ∧ s'.blk = s.blk) r h0 hle (fun s' h1 h2 _ _ => ⟨h1, h2⟩)
    obtain ⟨g1, g2, g3, ⟨g4, g5⟩⟩ := H
    refine ⟨⟨h0, by show n ≤ (s.cap : Int); omega⟩, ⟨h0, .inr (Int.le_refl _)⟩, ⟨by simp, by simpa using h0⟩, ?_⟩
    have hblk : (⟨if (((some n : Option Int).getD s.cap : Int)) = ((none : Option Int).getD 0) then s.a else s.a.map (·.add (((none : Option Int).getD 0).toNat * 1)), ((some n : Option Int).getD s.len).toNat - ((none : Option Int).getD 0).toNat, ((some n : Option Int).getD s.cap).toNat - ((none : Option Int).getD 0).toNat⟩ : Sl) = ⟨s.a, n.toNat, n.toNat⟩ := by
      have hadd : ∀ o : Option Addr, o.map (fun a => a.add 0) = o := by intro o; cases o <;> simp [Addr.add]
      simp only [Option.getD_some, Option.getD_none, Int.toNat_zero, Nat.zero_mul, hadd, Nat.sub_zero]
      split <;> rfl
    rw [hblk]
    have r' : RI .u8 h1 ⟨s.a, n.toNat, n.toNat⟩ (bs.take n.toNat) := by
      refine ⟨by rw [List.length_take]; show n.toNat = _; omega, Nat.le_refl _, ?_⟩
      have := g4.cells
      simp only [Option.getD_some, Option.getD_none, Int.toNat_zero, Nat.zero_mul, Nat.sub_zero] at this
      have hadd : ∀ o : Option Addr, o.map (fun a => a.add 0) = o := by intro o; cases o <;> simp [Addr.add]
      simp only [hadd] at this
      simpa using this
    refine ⟨a, rfl, s, c0, R.drop (j := n.toNat) r (by omega) (by omega) fun s2 hr2 hb2 => ?_⟩
    have hn0 : frozen? h1 (a.add 0) = false := p.f0
    refine ⟨a, rfl, ⟨_, c0⟩, hn0, ?_⟩
    have kk := wL a 0 (Sl.toV s2) h1
    have hs2 : s2.blk = s.blk := hb2
    refine K _ _ (r'.keep kk (fun x hx e => d1 (by injection e with e; simp only at hx; simp [Sl.blk, hx, e]))) (fun b hb => ?_) ⟨p.spot, ⟨s2, bK c0, ?_, hr2.keep kk (fun x hx e => d1 (by rw [← hs2]; injection e with e; simp [Sl.blk, hx, e])), by rw [hs2]; exact d1, by rw [hs2]; exact d2, by rw [hs2]; exact d3⟩, by rw [fv]; exact p.f0, by rw [fv]; exact p.f1, p.ne, p.am, p.zm, by rw [fQ]; exact p.ms, fun x hx => p.lim x (List.mem_of_mem_drop hx), ?_⟩ kk
    · have hb : s.blk = some b := hb
      exact ⟨fun e => d1 (by rw [hb, e]), fun e => d2 (by rw [hb, e]), d3 b hb⟩
    · rw [iI (.inr (.inl (agj p.spot (by decide))))]; exact c1
    · have := p.len
      simp only [lens, Option.getD_some, List.length_drop] at this ⊢
      omega
theorem or8 {n c : Nat} (hn : n < 72057594037927936) (hc : c < 256) :
    IntKind.wrap .u64 (((BitVec.ofInt (IntKind.bits .u64) (IntKind.wrap .u64 ((n : Int) * 2 ^ (min (Int.toNat 8) (IntKind.bits .u64)))) ||| BitVec.ofInt (IntKind.bits .u64) (IntKind.wrap .u64 (c : Int))).toNat : Int)) = ((256 * n + c : Nat) : Int) := by
  have e1 : ((n : Int) * 2 ^ (min (Int.toNat 8) (IntKind.bits .u64))) = ((256 * n : Nat) : Int) := by
    have : (2 : Int) ^ (min (Int.toNat 8) (IntKind.bits .u64)) = 256 := by decide
    rw [this]; omega
  rw [e1, wu64 (n := ((256 * n : Nat) : Int)) (by omega) (by omega), wu64 (n := (c : Int)) (by omega) (by omega)]
  have hb : IntKind.bits .u64 = 64 := rfl
  rw [hb, BitVec.toNat_or]
  have e2 : (BitVec.ofInt 64 ((256 * n : Nat) : Int)).toNat = 256 * n := by
    rw [BitVec.ofInt_natCast, BitVec.toNat_ofNat]; exact Nat.mod_eq_of_lt (by omega)
  have e3 : (BitVec.ofInt 64 (c : Int)).toNat = c := by
    rw [BitVec.ofInt_natCast, BitVec.toNat_ofNat]; exact Nat.mod_eq_of_lt (by omega)
  rw [e2, e3]
  have e4 : (256 * n ||| c) = 256 * n + c := by
    have := Nat.two_pow_add_eq_or_of_lt (i := 8) (b := c) (by omega) n
    simp only [show (2 : Nat) ^ 8 = 256 from rfl] at this
    exact this.symm
  rw [e4, wu64 (by omega) (by omega)]
theorem ww {l : List Nat} {k : Nat} (hl : l.length ≤ k) (h : Lim 256 l) : be l < 256 ^ k := Nat.lt_of_lt_of_le (aim l _ rfl h) (Nat.pow_le_pow_right (by decide) hl)
theorem ajY {st : St} {k : Nat} : (tk st k).1.length ≤ k := by
  cases st with
  | none => exact Nat.zero_le _
  | some bs =>
    simp only [tk]
    split
    · rw [List.length_take]; simp; omega
    · exact Nat.zero_le _
theorem aci {k : Nat} {n : Int} {Q : Int → Heap → Prop} (hn : n = (k : Int)) (hk : k ≤ 8) (p : PI h a z m st) (K : ∀ h', PI h' a z m (numS st k).2 → Keep (some a.block) h h' → Q ((numS st k).1 : Int) h') : ik (some a) n h Q := by
  subst hn
  refine aiz p fun r h1 hr _ p1 k1 => ?_
  have hlim := (aj4 p.lim k).1
  have hlen := ajY (st := st) (k := k)
  unfold numS at K
  dsimp only at K
  generalize (tk st k).1 = xs at *
  have hrl := hr.len
  refine loop.inv (fun (s0 : Int × Int) h2 => h2 = h1 ∧ ∃ i : Nat, s0 = ((be (xs.take i) : Int), (i : Int)) ∧ i ≤ xs.length) (fun s0 _ => xs.length - s0.2.toNat) ⟨rfl, 0, by simp [alS], Nat.zero_le _⟩ ?_
  rintro s0 h2 ⟨rfl, i, rfl, hi⟩
  dsimp only
  refine ⟨fun hlt => ?_, fun hge => ?_⟩
  · simp only [decide_eq_true_eq] at hlt
    refine RI.ld hr (j := i) rfl (by omega) ?_
    have hb := ww (l := xs.take i) (k := 7) (by rw [List.length_take]; omega) (hlim.take i)
    rw [or8 (by omega) (hlim.get (by omega)), ← akJ xs (by omega)]
    rintro n' rfl
    rw [w64 (by omega) (by omega)]
    exact ⟨⟨rfl, i + 1, by simp, by omega⟩, by simp only [Int.toNat_natCast]; omega⟩
  · simp only [decide_eq_false_iff_not] at hge
    have : i = xs.length := by omega
    subst this
    rw [List.take_length]
    exact K h2 p1 k1
theorem abz {Q : Int → Heap → Prop} (p : PI h a z m st) (K : ∀ h', PI h' a z m (numS st 8).2 → Keep (some a.block) h h' → Q (sg (numS st 8).1) h') : aR (some a) h Q :=
  aci (k := 8) rfl (by decide) p K
theorem ahS {Q : Int → Heap → Prop} (p : PI h a z m st) (K : ∀ h', PI h' a z m (numS st 4).2 → Keep (some a.block) h h' → Q ((numS st 4).1 : Int) h') : po (some a) h Q := by
  refine aci (k := 4) rfl (by decide) p fun h1 p1 k1 => ?_
  have hb := ww (ajY (st := st) (k := 4)) (aj4 p.lim (4 : Nat)).1
  have : IntKind.wrap .u32 ((numS st 4).1 : Int) = ((numS st 4).1 : Int) := by
    rw [vA]
    have : (numS st 4).1 < 4294967296 := hb
    omega
  rw [this]
  exact K h1 p1 k1
theorem tO {least : Int} {Q : Int → Heap → Prop} (p : PI h a z m st) (K : ∀ h', PI h' a z m (cnt st least).2 → Keep (some a.block) h h' → Q (cnt st least).1 h') : bI (some a) least h Q := by
  refine abz p fun h1 p1 k1 => ?_
  obtain ⟨s, c0, c1, r, d1, d2, d3⟩ := p1.c
  have hl := r.len
  have hmx : (if 1 > least then 1 else least) = max least 1 := by split <;> omega
  refine seq.cut (fun (t : Bool) h2 => h2 = h1 ∧ (t = true ↔ sg (numS st 8).1 < 0 ∨ sg (numS st 8).1 > ((((numS st 8).2.getD []).length : Nat) : Int) / max least 1)) ?_ ?_
  · refine ⟨fun hn => ⟨rfl, ?_⟩, fun hn => ⟨a, rfl, s, c0, ?_, rfl, ?_⟩⟩
    · simp only [decide_eq_true_eq] at hn
      exact ⟨fun _ => .inl hn, fun _ => rfl⟩
    · rw [hmx]; omega
    · simp only [decide_eq_false_iff_not] at hn
      rw [hmx, hl]
      have hq : Int.tdiv ((((numS st 8).2.getD []).length : Nat) : Int) (max least 1) = ((((numS st 8).2.getD []).length : Nat) : Int) / max least 1 := Int.tdiv_eq_ediv_of_nonneg (by omega)
      have hbound : ((((numS st 8).2.getD []).length : Nat) : Int) / max least 1 ≤ ((((numS st 8).2.getD []).length : Nat) : Int) := Int.ediv_le_self _ (by omega)
      have hnn : 0 ≤ ((((numS st 8).2.getD []).length : Nat) : Int) / max least 1 := Int.ediv_nonneg (by omega) (by omega)
      have := p1.len
      unfold lens at this
      rw [hq, w64 (by omega) (by omega)]
      simp only [gt_iff_lt, decide_eq_true_eq]
      exact ⟨.inr, fun h => h.elim (fun h => absurd h hn) id⟩
  rintro t h2 ⟨rfl, ht⟩
  refine ⟨fun hb => ?_, fun hb => ?_⟩
  · have hc := ht.1 hb
    have e : cnt st least = (0, none) := by
      unfold cnt
      cases hs : (numS st 8).2 with
      | none => rfl
      | some bs => rw [hs] at hc; simp only [Option.getD_some] at hc; dsimp only; rw [if_pos hc]
    rw [e] at K
    exact sD p1 fun h3 p3 k3 => K h3 p3 (k1.trans k3)
  · have hc : ¬ (sg (numS st 8).1 < 0 ∨ sg (numS st 8).1 > ((((numS st 8).2.getD []).length : Nat) : Int) / max least 1) := fun h => by rw [ht.2 h] at hb; cases hb
    have e : cnt st least = (sg (numS st 8).1, (numS st 8).2) := by
      unfold cnt
      cases hs : (numS st 8).2 with
      | none =>
        have : st = none ∨ ∃ bs, st = some bs := by cases st <;> simp
        have h0 : (numS st 8).1 = 0 := by
          unfold numS at hs ⊢
          rcases this with rfl | ⟨bs, rfl⟩
          · rfl
          · simp only [tk] at hs ⊢
            split at hs
            · cases hs
            · rename_i hn; rw [if_neg hn]; rfl
        rw [h0]; rfl
      | some bs => rw [hs] at hc; simp only [Option.getD_some] at hc; dsimp only; rw [if_neg hc]
    rw [e] at K
    exact K h2 p1 k1
theorem ad0 {Q : Bool → Heap → Prop} (p : PI h a z m st) (K : ∀ h', PI h' a z m (gB st).2 → Keep (some a.block) h h' → Q (gB st).1 h') : gF (some a) h Q := by
  refine aci (k := 1) rfl (by decide) p fun h1 p1 k1 => ?_
  by_cases hb : (numS st 1).1 > 1
  · have e : gB st = (false, none) := by unfold gB; rw [if_pos hb]
    rw [e] at K
    refine seq.cut (fun (_ : Unit) h2 => PI h2 a z m none ∧ Keep (some a.block) h h2) ?_ ?_
    · exact ⟨fun _ => sD p1 fun h2 p2 k2 => ⟨p2, k1.trans k2⟩, fun hc => absurd hc (by simp; omega)⟩
    · rintro _ h2 ⟨p2, k2⟩
      have : (((numS st 1).1 : Int) == 1) = false := by simp; omega
      rw [this]
      exact K h2 p2 k2
  · have e : gB st = ((numS st 1).1 == 1, (numS st 1).2) := by unfold gB; rw [if_neg hb]
    rw [e] at K
    refine seq.cut (fun (_ : Unit) h2 => h2 = h1) ⟨fun hc => absurd hc (by simp; omega), fun _ => rfl⟩ ?_
    rintro _ h2 rfl
    have : (((numS st 1).1 : Int) == 1) = ((numS st 1).1 == 1) := by
      rw [Bool.eq_iff_iff]; simp; omega
    rw [this]
    exact K h2 p1 k1
end Go.Sh.Pk

namespace Go.Sh.Pk
open Go Go.Lift
variable {h h' : Heap} {a : Addr} {z m : Nat} {st : St}
theorem mw (w c : Nat) (bs : List Nat) : (qO w c bs).length = c := by simp [qO]
theorem rE (w c : Nat) (bs : List Nat) : qO w (c + 1) bs = qO w c bs ++ [be ((bs.drop (w * c)).take w)] := by simp [qO, List.range_succ]
theorem akP {bs : List Nat} {k : Nat} (h : k ≤ bs.length) : tk (some bs) (k : Int) = (bs.take k, some (bs.drop k)) := by
  simp only [tk]; rw [if_pos (by omega), Int.toNat_natCast]
theorem abP {bs : List Nat} {k : Nat} (h : k ≤ bs.length) : numS (some bs) k = (be (bs.take k), some (bs.drop k)) := by
  unfold numS; rw [akP h]
theorem ahl {w c : Nat} {bs : List Nat} (hw : 0 < w) (h : (c : Int) ≤ (bs.length : Int) / max (w : Int) 1) : w * c ≤ bs.length := by
  have e : max (w : Int) 1 = (w : Int) := by omega
  rw [e] at h
  have h2 : (c : Int) ≤ ((bs.length / w : Nat) : Int) := by simpa using h
  have h3 : c ≤ bs.length / w := by omega
  have := (Nat.le_div_iff_mul_le hw).1 h3
  rw [Nat.mul_comm]; exact this
theorem aa9 {bs : List Nat} (h : lens (some bs) ≤ 1000000) : bs.length ≤ 1000000 := h
theorem fI {o p : Option Nat} {a b c : Heap} (k : Keep o a b) (k2 : Keep p b c) (hp : ∀ n, p = some n → a.size ≤ n) : Keep o a c :=
  ⟨Nat.le_trans k.size k2.size, fun i hi hne => (k2.same i (Nat.lt_of_lt_of_le hi k.size) (fun e => by have := hp i e.symm; omega)).trans (k.same i hi hne)⟩
theorem aaC {Q : Sl → Heap → Prop} (p : PI h a z m st) (K : ∀ r h', RI .u32 h' r (rowS 4 st).1 → Lim 4294967296 (rowS 4 st).1 → (rowS 4 st).1.length ≤ 250000 → (∀ b, r.blk = some b → h.size ≤ b) → PI h' a z m (rowS 4 st).2 → Keep (some a.block) h h' → Q r h') : b8 (some a) 4 (some a) h Q := by
  refine tO p fun h1 p1 k1 => ?_
  unfold rowS at K
  rcases wu st 4 with ⟨bs, e1, e2, e3, _⟩ | e
  · have h4 : (cnt st (4 : Nat)) = cnt st 4 := rfl
    rw [h4, e1] at K
    dsimp only at K
    rw [e1] at p1
    obtain ⟨c, hc⟩ : ∃ c : Nat, (cnt st 4).1 = (c : Int) := ⟨(cnt st 4).1.toNat, by omega⟩
    rw [hc] at K e3
    rw [Int.toNat_natCast] at K
    have hle : 4 * c ≤ bs.length := ahl (w := 4) (by decide) e3
    have hlb := aa9 p1.len
    have hlim : Lim 256 bs := p1.lim
    rw [hc]
    have hl1 : m ≤ h1.size := p1.ms
    refine loop.inv (fun (s0 : Sl × Int) h2 => ∃ i : Nat, s0.2 = (i : Int) ∧ i ≤ c ∧ OwnI .u32 h1.size h2 s0.1 (qO 4 i bs) ∧ PI h2 a z m (some (bs.drop (4 * i))) ∧ Keep (some a.block) h1 h2) (fun s0 _ => c - s0.2.toNat) ⟨0, rfl, Nat.zero_le _, Own.nil, by simpa using p1, Keep.refl _ _⟩ ?_
    rintro ⟨out, i⟩ h2 ⟨i, rfl, hi, ho, p2, k2⟩
    dsimp only at ho ⊢
    refine ⟨fun hlt => ?_, fun hge => ?_⟩
    · simp only [decide_eq_true_eq] at hlt
      have hen : 4 ≤ (bs.drop (4 * i)).length := by rw [List.length_drop]; omega
      refine ahS p2 fun h3 p3 k3 => ?_
      rw [abP hen] at p3 ⊢
      dsimp only at p3 ⊢
      rw [List.drop_drop] at p3
      have ho3 := ho.keep k3 (fun b hb e => by injection e with e; have := (ho.lt hb).1; have := p.am; omega)
      intro T
      have hx := (Own.new (toV := fun n : Nat => Value.int .u32 (n : Int)) (h := h3) (ys := [be ((bs.drop (4 * i)).take 4)]) (T := T) (cs := [Value.int .u32 ((be ((bs.drop (4 * i)).take 4) : Nat) : Int)]) rfl).r
      have e3 := Ext.push h3 (.cells [Value.int .u32 ((be ((bs.drop (4 * i)).take 4) : Nat) : Int)].toArray T (0, 0))
      generalize (h3.push (.cells [Value.int .u32 ((be ((bs.drop (4 * i)).take 4) : Nat) : Int)].toArray T (0, 0)) : Heap) = h4 at *
      have hs3 := k3.size
      have hs2 := k2.size
      have hs4 := e3.size
      refine Own.append (bytes := 4) (ho3.ext e3) (by omega) hx (fun _ => rfl) (by rw [mw]; simp; omega) fun out' h5 o5 k5 b5 => ?_
      have p5 : PI h5 a z m (some (bs.drop (4 * i + 4))) := (p3.ext e3).keep k5 (fun b hb => .inr (by have := ((ho3.ext e3).lt hb).1; omega))
      obtain ⟨s', _, c1', _⟩ := p5.c
      refine ⟨a, rfl, false, c1', fun hb => by simp at hb, fun _ => ?_⟩
      rw [w64 (by omega) (by omega)]
      refine ⟨⟨i + 1, rfl, by omega, by rw [rE]; exact o5, by rw [show 4 * (i + 1) = 4 * i + 4 from by omega]; exact p5, fI ((k2.trans k3).trans (Keep.of_ext e3)) k5 (fun n hn => ((ho3.ext e3).lt hn).1)⟩, by simp only [Int.toNat_natCast]; omega⟩
    · simp only [decide_eq_false_iff_not] at hge
      have : i = c := by omega
      subst this
      refine K _ h2 ho.r (fun x hx => ?_) (by rw [mw]; omega) (fun b hb => by have := (ho.lt hb).1; have := k1.size; omega) p2 (k1.trans k2)
      obtain ⟨j, _, rfl⟩ := List.mem_map.1 hx
      exact ww (k := 4) (by rw [List.length_take]; omega) (fun y hy => hlim y (List.mem_of_mem_drop (List.mem_of_mem_take hy)))
  · have h4 : (cnt st (4 : Nat)) = cnt st 4 := rfl
    rw [h4, e] at K
    dsimp only at K
    rw [e] at p1 ⊢
    refine loop.inv (fun (s0 : Sl × Int) h2 => s0 = (Sl.nil, 0) ∧ h2 = h1) (fun _ _ => 0) ⟨rfl, rfl⟩ ?_
    rintro s0 h2 ⟨rfl, rfl⟩
    exact ⟨fun hb => by simp at hb, fun _ => K Sl.nil h2 R.nil Lim.nil (Nat.zero_le _) (by simp [Sl.blk, Sl.nil]) p1 k1⟩
def acD (st : St) : List Int × St := ((rowS 8 st).1.map sg, (rowS 8 st).2)
theorem aiW {Q : Sl → Heap → Prop} (p : PI h a z m st) (K : ∀ r h', R (Value.int .i64) h' r (acD st).1 → (acD st).1.length ≤ 250000 → (∀ b, r.blk = some b → h.size ≤ b) → PI h' a z m (acD st).2 → Keep (some a.block) h h' → Q r h') : cF (some a) 8 (some a) h Q := by
  refine tO p fun h1 p1 k1 => ?_
  unfold acD rowS at K
  rcases wu st 8 with ⟨bs, e1, e2, e3, _⟩ | e
  · have h4 : (cnt st (8 : Nat)) = cnt st 8 := rfl
    rw [h4, e1] at K
    dsimp only at K
    rw [e1] at p1
    obtain ⟨c, hc⟩ : ∃ c : Nat, (cnt st 8).1 = (c : Int) := ⟨(cnt st 8).1.toNat, by omega⟩
    rw [hc] at K e3
    rw [Int.toNat_natCast] at K
    have hle : 8 * c ≤ bs.length := ahl (w := 8) (by decide) e3
    have hlb := aa9 p1.len
    rw [hc]
    have hl1 : m ≤ h1.size := p1.ms
    refine loop.inv (fun (s0 : Sl × Int) h2 => ∃ i : Nat, s0.2 = (i : Int) ∧ i ≤ c ∧ Own (Value.int .i64) h1.size h2 s0.1 ((qO 8 i bs).map sg) ∧ PI h2 a z m (some (bs.drop (8 * i))) ∧ Keep (some a.block) h1 h2) (fun s0 _ => c - s0.2.toNat) ⟨0, rfl, Nat.zero_le _, Own.nil, by simpa using p1, Keep.refl _ _⟩ ?_
    rintro ⟨out, i⟩ h2 ⟨i, rfl, hi, ho, p2, k2⟩
    dsimp only at ho ⊢
    refine ⟨fun hlt => ?_, fun hge => ?_⟩
    · simp only [decide_eq_true_eq] at hlt
      have hen : 8 ≤ (bs.drop (8 * i)).length := by rw [List.length_drop]; omega
      refine abz p2 fun h3 p3 k3 => ?_
      rw [abP hen] at p3 ⊢
      dsimp only at p3 ⊢
      rw [List.drop_drop] at p3
      have ho3 := ho.keep k3 (fun b hb e => by injection e with e; have := (ho.lt hb).1; have := p.am; omega)
      intro T
      have hx := (Own.new (toV := Value.int .i64) (h := h3) (ys := [sg (be ((bs.drop (8 * i)).take 8))]) (T := T) (cs := [Value.int .i64 (sg (be ((bs.drop (8 * i)).take 8)))]) rfl).r
      have e3 := Ext.push h3 (.cells [Value.int .i64 (sg (be ((bs.drop (8 * i)).take 8)))].toArray T (0, 0))
      generalize (h3.push (.cells [Value.int .i64 (sg (be ((bs.drop (8 * i)).take 8)))].toArray T (0, 0)) : Heap) = h4 at *
      have hs3 := k3.size
      have hs2 := k2.size
      have hs4 := e3.size
      refine Own.append (bytes := 8) (ho3.ext e3) (by omega) hx (fun _ => rfl) (by rw [List.length_map, mw]; simp; omega) fun out' h5 o5 k5 b5 => ?_
      have p5 : PI h5 a z m (some (bs.drop (8 * i + 8))) := (p3.ext e3).keep k5 (fun b hb => .inr (by have := ((ho3.ext e3).lt hb).1; omega))
      obtain ⟨s', _, c1', _⟩ := p5.c
      refine ⟨a, rfl, false, c1', fun hb => by simp at hb, fun _ => ?_⟩
      rw [w64 (by omega) (by omega)]
      refine ⟨⟨i + 1, rfl, by omega, by rw [rE, List.map_append]; exact o5, by rw [show 8 * (i + 1) = 8 * i + 8 from by omega]; exact p5, fI ((k2.trans k3).trans (Keep.of_ext e3)) k5 (fun n hn => ((ho3.ext e3).lt hn).1)⟩, by simp only [Int.toNat_natCast]; omega⟩
    · simp only [decide_eq_false_iff_not] at hge
      have : i = c := by omega
      subst this
      exact K _ h2 ho.r (by rw [List.length_map, mw]; omega) (fun b hb => by have := (ho.lt hb).1; have := k1.size; omega) p2 (k1.trans k2)
  · have h4 : (cnt st (8 : Nat)) = cnt st 8 := rfl
    rw [h4, e] at K
    dsimp only at K
    rw [e] at p1 ⊢
    refine loop.inv (fun (s0 : Sl × Int) h2 => s0 = (Sl.nil, 0) ∧ h2 = h1) (fun _ _ => 0) ⟨rfl, rfl⟩ ?_
    rintro s0 h2 ⟨rfl, rfl⟩
    exact ⟨fun hb => by simp at hb, fun _ => K Sl.nil h2 R.nil (Nat.zero_le _) (by simp [Sl.blk, Sl.nil]) p1 k1⟩
theorem yo {s : Sl} {xs : List Nat} {Q : Sl → Heap → Prop} (hr : RI .u8 h s xs) (hl : xs.length ≤ 2000000) (K : ∀ r h', RI .u8 h' r xs → Ext h h' → (∀ b, r.blk = some b → h.size ≤ b ∧ b < h'.size) → Q r h') : eu s h Q := by
  refine ⟨fun hn => ?_, fun hn => ?_⟩
  · have : xs = [] := by
      cases xs with
      | nil => rfl
      | cons x l =>
        obtain ⟨a, ha, _⟩ := hr.get (i := 0) (by simp)
        rw [ha] at hn; simp at hn
    subst this
    exact K Sl.nil h R.nil (Keep.refl _ _) (by simp [Sl.blk, Sl.nil])
  · intro T
    have e1 : Ext h (h.push (.cells ([] : List Value).toArray T (0, 0))) := Ext.push _ _
    have ho := Own.new (toV := fun n : Nat => Value.int .u8 (n : Int)) (h := h) (ys := []) (cs := []) (T := T) rfl
    have hs1 : (h.push (.cells ([] : List Value).toArray T (0, 0)) : Heap).size = h.size + 1 := by simp
    generalize (h.push (.cells ([] : List Value).toArray T (0, 0)) : Heap) = h1 at *
    refine Own.append (bytes := 1) (B := h.size) (xs := []) ho (by omega) (R.ext hr e1) (fun _ => rfl) (by simp; omega) fun r h2 o2 k2 b2 => ?_
    have e2 : Ext h h2 := ⟨by have := k2.size; omega, fun b hb _ => (k2.same b (by omega) (fun e => by have := (ho.lt e.symm).1; omega)).trans (e1.same b hb (by simp))⟩
    exact K r h2 (by simpa using o2.r) e2 (fun b hb => o2.lt hb)
structure XL (h : Heap) (x : Bool × Sl × Sl) (l : Bool × List Nat × List Nat) : Prop where
  neg : x.1 = l.1
  x : XR h x l.2.1 l.2.2
  ln : l.2.1.length ≤ 250000
  ld : l.2.2.length ≤ 250000
theorem XL.ext {x : Bool × Sl × Sl} {l : Bool × List Nat × List Nat} (hx : XL h x l) (e : Ext h h') : XL h' x l := ⟨hx.neg, hx.x.ext e, hx.ln, hx.ld⟩
theorem XL.keep {x : Bool × Sl × Sl} {l : Bool × List Nat × List Nat} {o : Option Nat} (hx : XL h x l) (k : Keep o h h') (h1 : ∀ b, x.2.1.blk = some b → some b ≠ o) (h2 : ∀ b, x.2.2.blk = some b → some b ≠ o) : XL h' x l :=
  ⟨hx.neg, ⟨hx.x.num.keep k (fun a ha => h1 _ (by simp [Sl.blk, ha])), hx.x.lnum, hx.x.den.keep k (fun a ha => h2 _ (by simp [Sl.blk, ha])), hx.x.lden⟩, hx.ln, hx.ld⟩
theorem XL.isQ {x : Bool × Sl × Sl} {l : Bool × List Nat × List Nat} (hx : XL h x l) : isQ h x ↔ isQL l.1 l.2.1 l.2.2 := by
  rw [hx.x.isQ_iff (by have := hx.ln; omega) (by have := hx.ld; omega), hx.neg]
  exact Iff.rfl
theorem XL.zero : XL h (false, Sl.nil, Sl.nil) (false, [], []) := ⟨rfl, ⟨R.nil, Lim.nil, R.nil, Lim.nil⟩, Nat.zero_le _, Nat.zero_le _⟩
structure TL (h0 h : Heap) (m : Nat) : Prop where
  tab : Tab h0
  e : Ext h0 h
  le : h0.size ≤ m
theorem TL.t {h0 : Heap} (t : TL h0 h m) : Tab h := R.ext t.tab t.e
theorem TL.keep {h0 : Heap} {o : Option Nat} (t : TL h0 h m) (k : Keep o h h') (ho : ∀ b, o = some b → h0.size ≤ b) : TL h0 h' m := ⟨t.tab, fI t.e k ho, t.le⟩
theorem TL.ext {h0 : Heap} (t : TL h0 h m) (e : Ext h h') : TL h0 h' m := t.keep e (fun b hb => by cases hb)
theorem uG {h0 : Heap} {Q : Bool × Sl × Sl → Heap → Prop} (t : TL h0 h m) (ha : h0.size ≤ a.block) (p : PI h a z m st) (K : ∀ r h', XL h' r (ratS st).1 → (∀ b, r.2.1.blk = some b → h.size ≤ b) → (∀ b, r.2.2.blk = some b → h.size ≤ b) → PI h' a z m (ratS st).2 → Keep (some a.block) h h' → Q r h') : gf (some a) h Q := by
  refine ak fun h1 e1 => ?_
  have hka : ∀ b, (some a.block : Option Nat) = some b → h0.size ≤ b := fun b hb => by cases hb; exact ha
  refine ad0 (p.ext e1) fun h2 p2 k2 => aaC p2 fun v1 h3 r1 l1 n1 b1 p3 k3 => aaC p3 fun v2 h4 r2 l2 n2 b2 p4 k4 => ?_
  have kk : Keep (some a.block) h h4 := ((Keep.of_ext e1).trans k2).trans (k3.trans k4)
  have t4 := t.keep kk hka
  have r1' : RI .u32 h4 v1 (rowS 4 (gB st).2).1 := r1.keep k4 (fun x hx e => by injection e with e; have := b1 x.block (by simp [Sl.blk, hx]); have := p.am; have := p.ms; have := e1.size; have := k2.size; omega)
  have X : XL h4 ((gB st).1, v1, v2) ((gB st).1, (rowS 4 (gB st).2).1, (rowS 4 (rowS 4 (gB st).2).2).1) := ⟨rfl, ⟨r1', l1, r2, l2⟩, n1, n2⟩
  refine seq.cut (fun (b : Bool) h5 => PI h5 a z m (rowS 4 (rowS 4 (gB st).2).2).2 ∧ Ext h4 h5 ∧ (b = false ↔ acg st)) ?_ ?_
  · obtain ⟨s', _, c1', _⟩ := p4.c
    refine ⟨a, rfl, _, c1', fun hw => ⟨p4, Keep.refl _ _, ?_⟩, fun hw => ?_⟩
    · simp only [Bool.true_eq_false, false_iff]
      intro hg
      have := hg.1
      cases hx : (rowS 4 (rowS 4 (gB st).2).2).2 <;> simp_all
    · refine nE t4.t X.x (by dsimp only; omega) (by dsimp only; omega) fun b h5 hb e5 => ⟨p4.ext e5, e5, ?_⟩
      rw [X.isQ] at hb
      unfold acg
      have hs : (rowS 4 (rowS 4 (gB st).2).2).2.isSome = true := by
        cases hx : (rowS 4 (rowS 4 (gB st).2).2).2 <;> simp_all
      rw [hs]
      simp only [true_and]
      rw [← hb]; cases b <;> simp
  rintro b h5 ⟨p5, e5, hb⟩
  have k5 := kk.trans (Keep.of_ext e5)
  refine ⟨fun ht => ?_, fun hf => ?_⟩
  · have hg : ¬ acg st := fun h => by rw [hb.2 h] at ht; cases ht
    have e : ratS st = ((false, [], []), none) := by unfold ratS; rw [if_neg hg]
    rw [e] at K
    refine sD p5 fun h6 p6 k6 => K _ h6 XL.zero (by simp [Sl.blk, Sl.nil]) (by simp [Sl.blk, Sl.nil]) p6 (k5.trans k6)
  · have hg := hb.1 hf
    have e : ratS st = (((gB st).1, (rowS 4 (gB st).2).1, (rowS 4 (rowS 4 (gB st).2).2).1), (rowS 4 (rowS 4 (gB st).2).2).2) := by unfold ratS; rw [if_pos hg]
    rw [e] at K
    exact K _ h5 (X.ext e5) (fun b hb => by have := b1 b hb; have := e1.size; have := k2.size; omega) (fun b hb => by have := b2 b hb; have := e1.size; have := k2.size; have := k3.size; omega) p5 k5
noncomputable def delS (st : St) : ((Bool × List Nat × List Nat) × (Bool × List Nat × List Nat)) × St :=
  if (ratS (ratS st).2).2 = none then (((false, [], []), (false, [], [])), none) else (((ratS st).1, (ratS (ratS st).2).1), (ratS (ratS st).2).2)
theorem agE {h0 : Heap} {Q : Bool × Sl × Sl × Bool × Sl × Sl → Heap → Prop} (t : TL h0 h m) (ha : h0.size ≤ a.block) (p : PI h a z m st)
    (K : ∀ (r : Bool × Sl × Sl × Bool × Sl × Sl) h', XL h' (r.1, r.2.1, r.2.2.1) (delS st).1.1 → XL h' r.2.2.2 (delS st).1.2 → (∀ b, r.2.1.blk = some b ∨ r.2.2.1.blk = some b ∨ r.2.2.2.2.1.blk = some b ∨ r.2.2.2.2.2.blk = some b → h.size ≤ b) → PI h' a z m (delS st).2 → Keep (some a.block) h h' → Q r h') : gT (some a) h Q := by
  refine ak fun h1 e1 => ?_
  have hka : ∀ b, (some a.block : Option Nat) = some b → h0.size ≤ b := fun b hb => by cases hb; exact ha
  refine uG (t.ext e1) ha (p.ext e1) fun x h2 X b1 b2 p2 k2 => uG ((t.ext e1).keep k2 hka) ha p2 fun y h3 Y b3 b4 p3 k3 => ?_
  have kk : Keep (some a.block) h h3 := (Keep.of_ext e1).trans (k2.trans k3)
  obtain ⟨s', _, c1', _⟩ := p3.c
  have X3 := X.keep k3 (fun b hb e => by injection e with e; have := b1 b hb; have := p.am; have := p.ms; have := e1.size; omega) (fun b hb e => by injection e with e; have := b2 b hb; have := p.am; have := p.ms; have := e1.size; omega)
  refine ⟨a, rfl, _, c1', fun hw => ?_, fun hw => ?_⟩
  · have hn : (ratS (ratS st).2).2 = none := by cases hx : (ratS (ratS st).2).2 <;> simp_all
    have e : delS st = (((false, [], []), (false, [], [])), none) := by unfold delS; rw [if_pos hn]
    rw [e] at K
    rw [hn] at p3
    exact K _ h3 XL.zero XL.zero (by simp [Sl.blk, Sl.nil]) p3 kk
  · have hn : ¬ (ratS (ratS st).2).2 = none := by intro hx; simp_all
    have e : delS st = (((ratS st).1, (ratS (ratS st).2).1), (ratS (ratS st).2).2) := by unfold delS; rw [if_neg hn]
    rw [e] at K
    refine K _ h3 X3 Y (fun b hb => ?_) p3 kk
    rcases hb with h | h | h | h
    · have := b1 b h; have := e1.size; have := k2.size; omega
    · have := b2 b h; have := e1.size; have := k2.size; omega
    · have := b3 b h; have := e1.size; have := k2.size; omega
    · have := b4 b h; have := e1.size; have := k2.size; omega
theorem aik {Q : Int → Heap → Prop} (p : PI h a z m st) (K : Q (if st = some [] then 0 else 3) h) : lM (some a) h Q := by
  obtain ⟨s, c0, c1, r, _⟩ := p.c
  have hl := r.len
  refine seq.cut (fun (b : Bool) h1 => h1 = h ∧ (b = false ↔ st = some [])) ?_ ?_
  · refine ⟨a, rfl, _, c1, fun hw => ⟨rfl, ?_⟩, fun hw => ⟨a, rfl, s, c0, rfl, ?_⟩⟩
    · cases st <;> simp_all
    · rw [hl]
      cases st with
      | none => simp at hw
      | some bs => cases bs <;> simp
  rintro b h1 ⟨rfl, hb⟩
  refine ⟨fun ht => ?_, fun hf => ?_⟩
  · rw [if_neg (fun h => by rw [hb.2 h] at ht; cases ht)] at K; exact K
  · rw [if_pos (hb.1 hf)] at K; exact K
end Go.Sh.Pk

namespace Go.Sh.Pk
open Go Go.Lift
variable {h h' : Heap} {a x : Addr} {z m : Nat} {st : St}
def bsBE : Nat → Nat → List Nat
  | 0, _ => []
  | k + 1, n => (n / 256 ^ k % 256) :: bsBE k n
theorem aF (k n : Nat) : (bsBE k n).length = k := by induction k with | zero => rfl | succ k ih => simp [bsBE, ih]
structure OO (h : Heap) (a : Addr) (s : Sl) (bs : List Nat) : Prop where
  spot : a.spot = none
  c0 : cell? h (a.add 0) = some (Sl.toV s)
  f0 : frozen? h (a.add 0) = false
  o : OwnI .u8 0 h s bs
  d : s.blk ≠ some a.block
structure F2 (a : Addr) (s s' : Sl) (h h' : Heap) : Prop where
  size : h.size ≤ h'.size
  same : ∀ b, b < h.size → b ≠ a.block → s.blk ≠ some b → h'[b]? = h[b]?
  blk : ∀ b, s'.blk = some b → s.blk = some b ∨ h.size ≤ b
theorem F2.refl (a : Addr) (s : Sl) (h : Heap) : F2 a s s h h := ⟨Nat.le_refl _, fun _ _ _ _ => rfl, fun _ h => .inl h⟩
theorem F2.trans {s s' s'' : Sl} {h'' : Heap} (f : F2 a s s' h h') (g : F2 a s' s'' h' h'') : F2 a s s'' h h'' :=
  ⟨Nat.le_trans f.size g.size, fun b hb h1 h2 => (g.same b (Nat.lt_of_lt_of_le hb f.size) h1 (fun e => (f.blk b e).elim h2 (fun h => by omega))).trans (f.same b hb h1 h2), fun b hb => (g.blk b hb).elim (f.blk b) (fun h => .inr (Nat.le_trans f.size h))⟩
theorem F2.ext {s s' : Sl} {h0 : Heap} (e : Ext h0 h) (f : F2 a s s' h h') (ha : h0.size ≤ a.block) (hs : ∀ b, s.blk = some b → h0.size ≤ b) : Ext h0 h' :=
  ⟨Nat.le_trans e.size f.size, fun b hb _ => (f.same b (Nat.lt_of_lt_of_le hb e.size) (by omega) (fun e' => by have := hs b e'; omega)).trans (e.same b hb (by simp))⟩
theorem aey {n k : Nat} {s : Sl} {bs : List Nat} {Q : Unit → Heap → Prop} (hn : n < 18446744073709551616) (hk : k ≤ 8) (p : OO h a s bs) (hl : bs.length ≤ 1000000)
    (K : ∀ s' h', OO h' a s' (bs ++ bsBE k n) → F2 a s s' h h' → Q () h') : fJ (some a) (n : Int) (k : Int) h Q := by
  unfold fJ
  rw [w64 (by omega) (by omega)]
  rintro i0 rfl
  refine loop.inv (fun (s0 : Int) h1 => ∃ (r : Nat) (s1 : Sl) (cur : List Nat), s0 = (r : Int) - 1 ∧ r ≤ k ∧ OO h1 a s1 cur ∧ cur ++ bsBE r n = bs ++ bsBE k n ∧ F2 a s s1 h h1) (fun s0 _ => (s0 + 1).toNat) ⟨k, s, bs, rfl, Nat.le_refl _, p, rfl, F2.refl _ _ _⟩ ?_
  rintro s0 h1 ⟨r, s1, cur, rfl, hr, p1, e1, f1⟩
  dsimp only
  refine ⟨fun hge => ?_, fun hlt => ?_⟩
  · simp only [ge_iff_le, decide_eq_true_eq] at hge
    obtain ⟨q, rfl⟩ : ∃ q, r = q + 1 := ⟨r - 1, by omega⟩
    have hcl : cur.length ≤ 1000008 := by
      have := congrArg List.length e1
      simp only [List.length_append, aF] at this
      omega
    have eq1 : ((q + 1 : Nat) : Int) - 1 = (q : Int) := by omega
    rw [eq1]
    refine ⟨a, rfl, s1, p1.c0, ?_⟩
    dsimp only
    rw [w64 (n := 8 * (q : Int)) (by omega) (by omega)]
    refine ⟨by omega, ?_⟩
    have ev : IntKind.wrap .u8 (Int.fdiv (n : Int) (2 ^ (min (Int.toNat (8 * (q : Int))) (IntKind.bits .u64)))) = ((n / 256 ^ q % 256 : Nat) : Int) := by
      have e2 : min (Int.toNat (8 * (q : Int))) (IntKind.bits .u64) = 8 * q := by
        have : Int.toNat (8 * (q : Int)) = 8 * q := by omega
        rw [this]; exact Nat.min_eq_left (by show 8 * q ≤ 64; omega)
      rw [e2]
      have e3 : (2 : Int) ^ (8 * q) = ((256 ^ q : Nat) : Int) := by
        have h256 : (256 : Nat) = 2 ^ 8 := rfl
        rw [h256, ← Nat.pow_mul]; simp
      rw [e3]
      have e4 : Int.fdiv (n : Int) ((256 ^ q : Nat) : Int) = ((n / 256 ^ q : Nat) : Int) := by
        rw [Int.fdiv_eq_ediv_of_nonneg _ (Int.natCast_nonneg _)]; exact (Int.natCast_ediv _ _).symm
      rw [e4, wu8m]
      exact (Int.natCast_emod _ _).symm
    rw [ev]
    intro T
    have hx := (Own.new (toV := fun n : Nat => Value.int .u8 (n : Int)) (h := h1) (ys := [n / 256 ^ q % 256]) (T := T) (cs := [Value.int .u8 ((n / 256 ^ q % 256 : Nat) : Int)]) rfl).r
    have e5 := Ext.push h1 (.cells [Value.int .u8 ((n / 256 ^ q % 256 : Nat) : Int)].toArray T (0, 0))
    generalize (h1.push (.cells [Value.int .u8 ((n / 256 ^ q % 256 : Nat) : Int)].toArray T (0, 0)) : Heap) = h2 at *
    have c0' := ao e5 p1.c0 (by simp)
    refine ⟨c0', ?_⟩
    refine Own.append (bytes := 1) (p1.o.ext e5) (Nat.zero_le _) hx (fun _ => rfl) (by simp; omega) fun s3 h3 o3 k3 b3 => ?_
    have hne : some a.block ≠ s1.blk := fun e => p1.d e.symm
    have c0'' := ao k3 c0' (by rw [aj]; exact hne)
    have f0'' := fT k3 (hO c0') (fT e5 (hO p1.c0) p1.f0 (by simp)) (by rw [aj]; exact hne)
    refine ⟨a, rfl, ⟨_, c0''⟩, f0'', ?_⟩
    have k4 := wL a 0 (Sl.toV s3) h3
    have ha2 : a.block < h2.size := by have := hO c0'; rwa [aj] at this
    have d3 : s3.blk ≠ some a.block := by
      rcases b3 with h | ⟨h, _⟩
      · rw [h]; exact p1.d
      · rw [h]; intro e; injection e with e; omega
    rw [w64 (by omega) (by omega)]
    rintro i1 rfl
    refine ⟨⟨q, s3, cur ++ [n / 256 ^ q % 256], rfl, by omega, ⟨p.spot, bK c0'', by rw [fv]; exact f0'', o3.keep k4 (fun b hb e => d3 (by rw [hb, e])), d3⟩, ?_, f1.trans ⟨Nat.le_trans e5.size (Nat.le_trans k3.size k4.size), fun b hb g1 g2 => ?_, fun b hb => ?_⟩⟩, by omega⟩
    · rw [List.append_assoc]; exact e1
    · have hb2 : b < h2.size := Nat.lt_of_lt_of_le hb e5.size
      exact (k4.same b (Nat.lt_of_lt_of_le hb2 k3.size) (by simpa using g1)).trans ((k3.same b hb2 (fun e => g2 e.symm)).trans (e5.same b hb (by simp)))
    · rcases b3 with h | ⟨h, _⟩
      · exact .inl (by rw [← h]; exact hb)
      · rw [h] at hb; injection hb with hb
        exact .inr (by have := e5.size; omega)
  · simp only [ge_iff_le, decide_eq_false_iff_not] at hlt
    have : r = 0 := by omega
    subst this
    have : cur = bs ++ bsBE k n := by simpa [bsBE] using e1
    subst this
    exact K s1 h1 p1 f1
theorem aec {n : Int} {s : Sl} {bs : List Nat} {Q : Unit → Heap → Prop} (p : OO h a s bs) (hl : bs.length ≤ 1000000)
    (K : ∀ s' h', OO h' a s' (bs ++ bsBE 8 (n % 18446744073709551616).toNat) → F2 a s s' h h' → Q () h') : ai (some a) n h Q := by
  unfold ai
  have : IntKind.wrap .u64 n = (((n % 18446744073709551616).toNat : Nat) : Int) := by rw [aeG]; omega
  rw [this]
  exact aey (k := 8) (by omega) (by decide) p hl K
theorem kO {s : Sl} {xs : List Nat} {k : ByteArray → Prop} (hr : RI .u8 h s xs) (K : k (tY (xs.map (fun n : Nat => (n : Int))))) : yM s h k := by
  refine ⟨xs.map (fun n : Nat => (n : Int)), ?_, K⟩
  have := hr.cells
  rw [this, List.map_map]; rfl
theorem OO.new (T : Nat) : OO (h.push (.cells [Sl.toV Sl.nil].toArray T (0, 0))) ⟨h.size, 0, none⟩ Sl.nil [] := by
  have hx : (h.push (.cells [Sl.toV Sl.nil].toArray T (0, 0)))[h.size]? = some (.cells [Sl.toV Sl.nil].toArray T (0, 0)) := by simp
  refine ⟨rfl, ?_, ?_, Own.nil, by simp [Sl.blk, Sl.nil]⟩
  · rw [cu _ _ rfl]; unfold cell?; simp [hx]
  · rw [cu _ _ rfl]; exact jF hx
theorem acu {s : Sl} {bs : List Nat} {Q : Sl → Heap → Prop} (p : OO h a s bs) (hl : bs.length ≤ 2000000) (K : ∀ r h', RI .u8 h' r bs → Ext h h' → (∀ b, r.blk = some b → h.size ≤ b ∧ b < h'.size) → Q r h') : kH (some a) h Q :=
  ⟨a, rfl, s, p.c0, yo p.o.r hl K⟩
end Go.Sh.Pk

namespace Go.Sh.Pk
open Go Go.Lift
variable {h h' : Heap} {a x : Addr} {z m : Nat} {st : St}
theorem aig {s : Sl} {xs : List Nat} {Q : Sl → Heap → Prop} (hr : RI .u8 h s xs) (hl : xs.length ≤ 2000000) (K : ∀ r h', RI .u8 h' r xs → Ext h h' → (∀ b, r.blk = some b → h.size ≤ b ∧ b < h'.size) → Q r h') :
    new [] h fun a h3 => aP 1 1 (⟨some a, 0, 0⟩ : Sl) s h3 Q := by
  intro T
  have e1 : Ext h (h.push (.cells ([] : List Value).toArray T (0, 0))) := Ext.push _ _
  have ho := Own.new (toV := fun n : Nat => Value.int .u8 (n : Int)) (h := h) (ys := []) (cs := []) (T := T) rfl
  have hs1 : (h.push (.cells ([] : List Value).toArray T (0, 0)) : Heap).size = h.size + 1 := by simp
  generalize (h.push (.cells ([] : List Value).toArray T (0, 0)) : Heap) = h1 at *
  refine Own.append (bytes := 1) (B := h.size) (xs := []) ho (by omega) (R.ext hr e1) (fun _ => rfl) (by simp; omega) fun r h2 o2 k2 b2 => ?_
  have e2 : Ext h h2 := ⟨by have := k2.size; omega, fun b hb _ => (k2.same b (by omega) (fun e => by have := (ho.lt e.symm).1; omega)).trans (e1.same b hb (by simp))⟩
  exact K r h2 (by simpa using o2.r) e2 (fun b hb => o2.lt hb)
end Go.Sh.Pk

namespace Go.Sh.Pk
open Go Go.Lift
theorem ajC (l : List Nat) : ∀ i, l.foldl (fun n c => 256 * n + c) i = i * 256 ^ l.length + be l := by
  induction l with
  | nil => intro i; simp [be]
  | cons c l ih =>
    intro i
    have h1 := ih (256 * i + c)
    have h2 := ih c
    have e : be (c :: l) = l.foldl (fun n c => 256 * n + c) c := by simp [be]
    rw [e, h2, List.foldl_cons, h1, List.length_cons, Nat.pow_succ, Nat.add_mul]
    have : 256 * i * 256 ^ l.length = i * (256 ^ l.length * 256) := by rw [Nat.mul_comm 256 i, Nat.mul_assoc, Nat.mul_comm 256]
    omega
theorem aex (c : Nat) (l : List Nat) : be (c :: l) = c * 256 ^ l.length + be l := by
  have : be (c :: l) = l.foldl (fun n c => 256 * n + c) c := by simp [be]
  rw [this, ajC]
theorem ak1 (k n : Nat) : be (bsBE k n) = n % 256 ^ k := by
  induction k with
  | zero => simp [bsBE, be, Nat.mod_one]
  | succ k ih =>
    rw [bsBE, aex, aF, ih, Nat.mod_pow_succ, Nat.mul_comm (256 ^ k)]
    omega
theorem ajN (k n : Nat) : Lim 256 (bsBE k n) := by
  induction k with
  | zero => exact Lim.nil
  | succ k ih =>
    intro x hx
    rcases List.mem_cons.1 hx with rfl | hx
    · omega
    · exact ih x hx
def nX (w : Nat) (l : List Nat) : List Nat := bsBE 8 l.length ++ (l.map (bsBE w)).flatten
theorem aks (w : Nat) (l : List Nat) : ((l.map (bsBE w)).flatten).length = w * l.length := by
  induction l with
  | nil => simp
  | cons x l ih => simp only [List.map_cons, List.flatten_cons, List.length_append, aF, ih, List.length_cons, Nat.mul_succ]; omega
def agX (b : Bool) : Nat := if b then 1 else 0
def encR (x : Bool × List Nat × List Nat) : List Nat := bsBE 1 (agX x.1) ++ (nX 4 x.2.1 ++ nX 4 x.2.2)
structure FewR (x : Bool × List Nat × List Nat) : Prop where
  q : isQL x.1 x.2.1 x.2.2
  ln : Lim 4294967296 x.2.1
  ld : Lim 4294967296 x.2.2
  n : x.2.1.length ≤ 1000
  d : x.2.2.length ≤ 1000
structure Val where
  k : Int
  n : Int
  bs : List Nat
  A : Bool × List Nat × List Nat
  B : Bool × List Nat × List Nat
  li : List Int
def toU (n : Int) : Nat := (n % 18446744073709551616).toNat
def bit (n : Int) : Bool := (IntKind.wrap .i64 (((BitVec.ofInt (IntKind.bits .i64) n &&& BitVec.ofInt (IntKind.bits .i64) 1).toNat : Int))) == 1
def enc (v : Val) : List Nat :=
  if v.k = 0 then bsBE 8 (toU v.n) else if v.k = 1 then bsBE 1 (agX (bit v.n)) else if v.k = 2 then bsBE 8 v.bs.length ++ v.bs else if v.k = 3 then encR v.A else if v.k = 4 then encR v.A ++ encR v.B else if v.k = 5 then nX 8 (v.li.map toU) else []
theorem amh (n : Int) : toU n < 18446744073709551616 := by unfold toU; omega
end Go.Sh.Pk

namespace Go.Sh.Pk
open Go Go.Lift
variable {h h' h0 : Heap} {a : Addr} {s s' out out' : Sl} {bs bs' bs2 : List Nat}
structure OE (h0 h : Heap) (a : Addr) (s : Sl) (bs : List Nat) : Prop where
  o : OO h a s bs
  e : Ext h0 h
  ha : h0.size ≤ a.block
  hs : ∀ b, s.blk = some b → h0.size ≤ b
  al : a.block < h.size
theorem OE.step (p : OE h0 h a s bs) (o : OO h' a s' bs') (f : F2 a s s' h h') : OE h0 h' a s' bs' :=
  ⟨o, f.ext p.e p.ha p.hs, p.ha, fun b hb => (f.blk b hb).elim (p.hs b) (fun g => Nat.le_trans p.e.size g), Nat.lt_of_lt_of_le p.al f.size⟩
theorem zE {n : Int} {Q : Unit → Heap → Prop} (p : OE h0 h a s bs) (hl : bs.length ≤ 1000000)
    (K : ∀ s' h', OE h0 h' a s' (bs ++ bsBE 8 (toU n)) → F2 a s s' h h' → Q () h') : ai (some a) n h Q :=
  aec p.o hl fun s' h' o f => K s' h' (p.step o f) f
theorem aiv {n : Nat} (h : n < 18446744073709551616) : toU (n : Int) = n := by unfold toU; omega
theorem akE (w : Nat) (l : List Nat) {i : Nat} (hi : i < l.length) : ((l.take (i + 1)).map (bsBE w)).flatten = ((l.take i).map (bsBE w)).flatten ++ bsBE w l[i] := by
  rw [List.take_succ_eq_append_getElem hi]
  simp only [List.map_append, List.flatten_append, List.map_cons, List.map_nil, List.flatten_cons, List.flatten_nil, List.append_nil]
theorem ahu (w : Nat) (l : List Nat) (i : Nat) : (((l.take i).map (bsBE w)).flatten).length ≤ w * l.length := by
  rw [aks, List.length_take]; exact Nat.mul_le_mul_left _ (Nat.min_le_right _ _)
theorem uf (w : Nat) (l : List Nat) : (nX w l).length = 8 + w * l.length := by unfold nX; rw [List.length_append, aF, aks]
theorem kA (x : Bool × List Nat × List Nat) : (encR x).length = 17 + 4 * x.2.1.length + 4 * x.2.2.length := by
  unfold encR; rw [List.length_append, List.length_append, aF, uf, uf]; omega
theorem OE.ext (p : OE h0 h a s bs) (e1 : Ext h h') : OE h0 h' a s bs ∧ F2 a s s h h' :=
  ⟨⟨⟨p.o.spot, ao e1 p.o.c0 (by simp), fT e1 (hO p.o.c0) p.o.f0 (by simp), p.o.o.ext e1, p.o.d⟩, p.e.trans e1, p.ha, p.hs, Nat.lt_of_lt_of_le p.al e1.size⟩, ⟨e1.size, fun b hb _ _ => e1.same b hb (by simp), fun b hb => .inl hb⟩⟩
structure G1 (out out' : Sl) (h h' : Heap) : Prop where
  k : Keep out.blk h h'
  blk : ∀ b, out'.blk = some b → out.blk = some b ∨ h.size ≤ b
theorem G1.trans {out'' : Sl} {h'' : Heap} (f : G1 out out' h h') (g : G1 out' out'' h' h'') : G1 out out'' h h'' :=
  ⟨⟨Nat.le_trans f.k.size g.k.size, fun b hb hne => (g.k.same b (Nat.lt_of_lt_of_le hb f.k.size) (fun e => (f.blk b e.symm).elim (fun h => hne h.symm) (fun h => by omega))).trans (f.k.same b hb hne)⟩, fun b hb => (g.blk b hb).elim (f.blk b) (fun h => .inr (Nat.le_trans f.k.size h))⟩
theorem G1.ext (e : Ext h h') : G1 out out h h' := ⟨Keep.of_ext e, fun b hb => .inl hb⟩
theorem G1.base (f : G1 out out' h h') (e : Ext h0 h) (hs : ∀ b, out.blk = some b → h0.size ≤ b) : Ext h0 h' := fI e f.k hs
theorem amq {ys : List Nat} {x : Sl} {Q : Sl → Heap → Prop} (ho : OwnI .u8 h0.size h out bs) (e0 : Ext h0 h) (hx : RI .u8 h x ys) (hl : bs.length + ys.length ≤ 2000000)
    (K : ∀ out' h', OwnI .u8 h0.size h' out' (bs ++ ys) → G1 out out' h h' → Q out' h') : aP 1 1 out x h Q :=
  Own.append (bytes := 1) ho e0.size hx (fun _ => rfl) (by omega) fun s' h' o k b => K s' h' o ⟨k, fun i hi => by
    rcases b with g | ⟨g, _⟩
    · exact .inl (by rw [← g]; exact hi)
    · rw [g] at hi; injection hi with hi; exact .inr (by omega)⟩
theorem akX {ys : List Nat} {cs : List Value} {Q : Sl → Heap → Prop} {n : Nat} (hn : n = ys.length) (hcs : cs = ys.map (fun n : Nat => Value.int .u8 (n : Int))) (ho : OwnI .u8 h0.size h out bs) (e0 : Ext h0 h) (hl : bs.length + ys.length ≤ 2000000)
    (K : ∀ out' h', OwnI .u8 h0.size h' out' (bs ++ ys) → G1 out out' h h' → Q out' h') : new cs h fun a h1 => aP 1 1 out (⟨some a, n, n⟩ : Sl) h1 Q := by
  intro T
  subst hn
  have hx := (Own.new (toV := fun n : Nat => Value.int .u8 (n : Int)) (h := h) (ys := ys) (T := T) hcs).r
  have e1 := Ext.push h (.cells cs.toArray T (0, 0))
  exact amq (ho.ext e1) (e0.trans e1) hx hl fun out' h' o g => K out' h' o ((G1.ext e1).trans g)
theorem Own.setAll {α : Type} {toV : α → Value} {B : Nat} {s : Sl} {ys zs : List α} {k : Heap → Prop} {a : Addr} (ho : Own toV B h s ys) (ha : s.a = some a) (hl : zs.length = ys.length) (K : ∀ h', Own toV B h' s zs → Keep s.blk h h' → h'.size = h.size → k h') : dk a (zs.map toV) h k := by
  rcases ho.own with ⟨g, _⟩ | ⟨b, c, T, g1, g2, g3, g4⟩
  · rw [g] at ha; cases ha
  · rw [g1] at ha; cases ha
    have hlen := ho.r.len
    have hcap := ho.r.cap
    obtain ⟨c', q1, q2, q3, q4, q5⟩ := mq (zs.map toV) 0 0 h c g3 (by simp; omega)
    have kk := nL ⟨b, 0, none⟩ (zs.map toV) 0 h
    refine ⟨q5, K _ ⟨R.mk' (by omega) hcap _ g1 fun i hi => ?_, .inr ⟨b, c', T, g1, g2, q1, by omega⟩⟩ (by simpa [Sl.blk, g1] using kk) ?_⟩
    · have := q4 i (by simpa using hi)
      simp only [Nat.zero_add, List.getElem_map] at this
      rw [cu _ _ rfl]
      unfold cell?
      simp [q1, this]
    · have : ∀ (vs : List Value) (i : Nat) (h : Heap), (ip h ⟨b, 0, none⟩ vs i).size = h.size := by
        intro vs
        induction vs with
        | nil => intro i h; rfl
        | cons v vs ih => intro i h; simp only [ip, ih, fQ]
      exact this _ _ _
theorem ajj {n : Int} {Q : Sl → Heap → Prop} (ho : OwnI .u8 h0.size h out bs) (e0 : Ext h0 h) (hl : bs.length ≤ 1000000)
    (K : ∀ out' h', OwnI .u8 h0.size h' out' (bs ++ bsBE 8 (toU n)) → G1 out out' h h' → Q out' h') : ay out n h Q := by
  unfold ay
  have hw : IntKind.wrap .u64 n = ((toU n : Nat) : Int) := by unfold toU; rw [aeG]; omega
  rw [hw]
  have hlt := amh n
  generalize toU n = N at *
  rintro m0 rfl
  intro T
  have hA := Own.new (toV := fun n : Nat => Value.int .u8 (n : Int)) (h := h) (ys := List.replicate 8 0) (T := T) (cs := [Value.int .u8 0, Value.int .u8 0, Value.int .u8 0, Value.int .u8 0, Value.int .u8 0, Value.int .u8 0, Value.int .u8 0, Value.int .u8 0]) rfl
  have e1 := Ext.push h (.cells [Value.int .u8 0, Value.int .u8 0, Value.int .u8 0, Value.int .u8 0, Value.int .u8 0, Value.int .u8 0, Value.int .u8 0, Value.int .u8 0].toArray T (0, 0))
  have hs1 : (h.push (.cells [Value.int .u8 0, Value.int .u8 0, Value.int .u8 0, Value.int .u8 0, Value.int .u8 0, Value.int .u8 0, Value.int .u8 0, Value.int .u8 0].toArray T (0, 0)) : Heap).size = h.size + 1 := by simp
  generalize (h.push (.cells [Value.int .u8 0, Value.int .u8 0, Value.int .u8 0, Value.int .u8 0, Value.int .u8 0, Value.int .u8 0, Value.int .u8 0, Value.int .u8 0].toArray T (0, 0)) : Heap) = h1 at *
  have hlr : (List.replicate 8 0 : List Nat).length = 8 := rfl
  rw [hlr] at hA
  refine Own.setAll (toV := fun n : Nat => Value.int .u8 (n : Int)) (zs := List.replicate 8 0) hA rfl rfl fun h2 hA2 k2 s2 => ?_
  have e2 : Ext h h2 := fI e1 k2 (fun b hb => by simp only [Sl.blk, Option.map_some, Option.some.injEq] at hb; omega)
  refine loop.inv (fun (s0 : Int × Int) h3 => ∃ r : Nat, s0 = (((N / 256 ^ (8 - r) : Nat) : Int), (r : Int) - 1) ∧ r ≤ 8 ∧ OwnI .u8 h.size h3 ⟨some ⟨h.size, 0, none⟩, 8, 8⟩ (List.replicate r 0 ++ bsBE (8 - r) N) ∧ Ext h h3) (fun s0 _ => (s0.2 + 1).toNat) ⟨8, by simp, Nat.le_refl _, by simpa [bsBE] using hA2, e2⟩ ?_
  rintro s0 h3 ⟨r, rfl, hr, hA3, e3⟩
  dsimp only
  refine ⟨fun hge => ?_, fun hlt2 => ?_⟩
  · simp only [ge_iff_le, decide_eq_true_eq] at hge
    obtain ⟨q, rfl⟩ : ∃ q, r = q + 1 := ⟨r - 1, by omega⟩
    have eq1 : ((q + 1 : Nat) : Int) - 1 = (q : Int) := by omega
    rw [eq1, Int.toNat_natCast, Nat.mul_one]
    refine ⟨by omega, ?_⟩
    generalize hk : 8 - (q + 1) = k at *
    have hk2 : 8 - q = k + 1 := by omega
    have ev : IntKind.wrap .u8 (Int.tmod ((N / 256 ^ k : Nat) : Int) 256) = ((N / 256 ^ k % 256 : Nat) : Int) := by
      have : Int.tmod ((N / 256 ^ k : Nat) : Int) 256 = ((N / 256 ^ k % 256 : Nat) : Int) := rfl
      rw [this, wu8 (by omega) (by omega)]
    rw [ev]
    have hll : q < (List.replicate (q + 1) 0 ++ bsBE k N).length := by simp; omega
    refine Own.store (toV := fun n : Nat => Value.int .u8 (n : Int)) hA3 hll rfl (N / 256 ^ k % 256) fun h4 hA4 k4 s4 => ?_
    have e4 : Int.tdiv ((N / 256 ^ k : Nat) : Int) 256 = ((N / 256 ^ k / 256 : Nat) : Int) := rfl
    have hle : N / 256 ^ k ≤ N := Nat.div_le_self _ _
    rw [e4, wu64 (n := ((N / 256 ^ k / 256 : Nat) : Int)) (Int.natCast_nonneg _) (Int.ofNat_lt.2 (Nat.lt_of_le_of_lt (Nat.le_trans (Nat.div_le_self _ _) hle) hlt))]
    rintro m1 rfl
    rw [w64 (by omega) (by omega)]
    rintro i1 rfl
    have eset : (List.replicate (q + 1) 0 ++ bsBE k N).set q (N / 256 ^ k % 256) = List.replicate q 0 ++ bsBE (k + 1) N := by
      rw [List.replicate_succ', List.append_assoc, List.set_append_right _ _ (by simp)]
      simp [bsBE]
    rw [eset] at hA4
    refine ⟨⟨q, by rw [hk2, Nat.pow_succ, Nat.div_div_eq_div_mul], by omega, by rw [hk2]; exact hA4, fI e3 k4 (fun b hb => (hA3.lt hb).1)⟩, by omega⟩
  · simp only [ge_iff_le, decide_eq_false_iff_not] at hlt2
    have : r = 0 := by omega
    subst this
    have hA4 : OwnI .u8 h.size h3 ⟨some ⟨h.size, 0, none⟩, 8, 8⟩ (bsBE 8 N) := by simpa using hA3
    refine amq (ho.ext e3) (e0.trans e3) hA4.r (by rw [aF]; omega) fun out' h' o g => K out' h' o ((G1.ext e3).trans g)
theorem akq {b : Bool} {Q : Sl → Heap → Prop} (ho : OwnI .u8 h0.size h out bs) (e0 : Ext h0 h) (hl : bs.length ≤ 1000000)
    (K : ∀ out' h', OwnI .u8 h0.size h' out' (bs ++ bsBE 1 (agX b)) → G1 out out' h h' → Q out' h') : fF out b h Q := by
  refine ⟨fun hb => ?_, fun hb => ?_⟩
  · subst hb
    exact akX (ys := [1]) rfl rfl ho e0 (by simp; omega) K
  · subst hb
    exact akX (ys := [0]) rfl rfl ho e0 (by simp; omega) K
theorem ahA {list : Sl} {xs : List Nat} {Q : Sl → Heap → Prop} (ho : OwnI .u8 h0.size h out bs) (e0 : Ext h0 h) (hr : RI .u32 h0 list xs) (hx : Lim 4294967296 xs) (hxl : xs.length ≤ 1000) (hl : bs.length ≤ 900000)
    (K : ∀ out' h', OwnI .u8 h0.size h' out' (bs ++ nX 4 xs) → G1 out out' h h' → Q out' h') : lw out list h Q := by
  unfold lw
  have hlen := hr.len
  rw [hlen]
  refine ajj ho e0 (by omega) fun o1 h1 p1 g1 => ?_
  rw [aiv (by omega)] at p1
  have e1 := g1.base e0 (fun b hb => (ho.lt hb).1)
  refine loop.inv (fun (s0 : Sl × Int) h2 => ∃ i : Nat, s0.2 = (i : Int) ∧ i ≤ xs.length ∧ OwnI .u8 h0.size h2 s0.1 (bs ++ bsBE 8 xs.length ++ ((xs.take i).map (bsBE 4)).flatten) ∧ G1 out s0.1 h h2) (fun s0 _ => xs.length - s0.2.toNat) ⟨0, rfl, Nat.zero_le _, by simpa using p1, g1⟩ ?_
  rintro ⟨o2, i⟩ h2 ⟨i, rfl, hi, p2, g2⟩
  dsimp only at p2 g2 ⊢
  have e2 := g2.base e0 (fun b hb => (ho.lt hb).1)
  refine ⟨fun hlt => ?_, fun hge => ?_⟩
  · simp only [decide_eq_true_eq] at hlt
    have hi' : i < xs.length := by omega
    have hr2 := R.ext hr e2
    refine RI.ld hr2 (j := i) rfl hi' (RI.ld hr2 (j := i) rfl hi' (RI.ld hr2 (j := i) rfl hi' (RI.ld hr2 (j := i) rfl hi' ?_)))
    have hxi := hx.get hi'
    have hfl := ahu 4 xs i
    refine akX (ys := bsBE 4 xs[i]) (by rw [aF]) ?_ p2 e2 (by simp only [List.length_append, aF]; omega) fun o3 h3 p3 g3 => ?_
    · generalize xs[i] = n at hxi
      have t1 : Int.tdiv (n : Int) 16777216 = ((n / 16777216 : Nat) : Int) := rfl
      have t2 : Int.tdiv (n : Int) 65536 = ((n / 65536 : Nat) : Int) := rfl
      have t3 : Int.tdiv (n : Int) 256 = ((n / 256 : Nat) : Int) := rfl
      rw [t1, t2, t3, wu32 (n := ((n / 16777216 : Nat) : Int)) (by omega) (by omega), wu32 (n := ((n / 65536 : Nat) : Int)) (by omega) (by omega), wu32 (n := ((n / 256 : Nat) : Int)) (by omega) (by omega)]
      have u1 : Int.tmod ((n / 65536 : Nat) : Int) 256 = ((n / 65536 % 256 : Nat) : Int) := rfl
      have u2 : Int.tmod ((n / 256 : Nat) : Int) 256 = ((n / 256 % 256 : Nat) : Int) := rfl
      have u3 : Int.tmod (n : Int) 256 = ((n % 256 : Nat) : Int) := rfl
      rw [u1, u2, u3, wu8 (n := ((n / 16777216 : Nat) : Int)) (by omega) (by omega), wu8 (n := ((n / 65536 % 256 : Nat) : Int)) (by omega) (by omega), wu8 (n := ((n / 256 % 256 : Nat) : Int)) (by omega) (by omega), wu8 (n := ((n % 256 : Nat) : Int)) (by omega) (by omega)]
      have v1 : n / 16777216 = n / 16777216 % 256 := by omega
      simp only [bsBE, List.map_cons, List.map_nil, Nat.pow_succ, Nat.pow_zero, Nat.one_mul, Nat.div_one]
      rw [← v1]
    · rw [w64 (by omega) (by omega)]
      rintro i1 rfl
      exact ⟨⟨i + 1, rfl, by omega, by rw [akE 4 xs hi', ← List.append_assoc]; exact p3, g2.trans g3⟩, by simp only [Int.toNat_natCast]; omega⟩
  · simp only [decide_eq_false_iff_not] at hge
    have : i = xs.length := by omega
    subst this
    refine K o2 h2 ?_ g2
    have e : bs ++ nX 4 xs = bs ++ bsBE 8 xs.length ++ ((xs.take xs.length).map (bsBE 4)).flatten := by unfold nX; rw [List.take_length, List.append_assoc]
    rw [e]; exact p2
theorem ae9 {x : Bool × Sl × Sl} {l : Bool × List Nat × List Nat} {Q : Sl → Heap → Prop} (ho : OwnI .u8 h0.size h out bs) (e0 : Ext h0 h) (hx : XL h0 x l) (hf : FewR l) (hl : bs.length ≤ 800000)
    (K : ∀ out' h', OwnI .u8 h0.size h' out' (bs ++ encR l) → G1 out out' h h' → Q out' h') : iB out x h Q := by
  refine ak fun h1 e1 => ?_
  have n1 := hf.n
  have n2 := hf.d
  rw [hx.neg]
  refine akq (ho.ext e1) (e0.trans e1) (by omega) fun o2 h2 p2 g2 => ?_
  have g2 := (G1.ext e1).trans g2
  have e2 := g2.base e0 (fun b hb => (ho.lt hb).1)
  refine ahA p2 e2 hx.x.num hf.ln (by omega) (by rw [List.length_append, aF]; omega) fun o3 h3 p3 g3 => ?_
  have g3 := g2.trans g3
  have e3 := g3.base e0 (fun b hb => (ho.lt hb).1)
  refine ahA p3 e3 hx.x.den hf.ld (by omega) (by rw [List.length_append, List.length_append, aF, uf]; omega) fun o4 h4 p4 g4 => ?_
  refine K o4 h4 ?_ (g3.trans g4)
  have e : bs ++ encR l = bs ++ bsBE 1 (agX l.1) ++ nX 4 l.2.1 ++ nX 4 l.2.2 := by unfold encR; simp [List.append_assoc]
  rw [e]; exact p4
theorem akM {x : Bool × Sl × Sl × Bool × Sl × Sl} {l k : Bool × List Nat × List Nat} {Q : Sl → Heap → Prop} (ho : OwnI .u8 h0.size h out bs) (e0 : Ext h0 h) (hx : XL h0 (x.1, x.2.1, x.2.2.1) l) (hy : XL h0 x.2.2.2 k) (hf : FewR l) (hg : FewR k) (hl : bs.length ≤ 700000)
    (K : ∀ out' h', OwnI .u8 h0.size h' out' (bs ++ (encR l ++ encR k)) → G1 out out' h h' → Q out' h') : gg out x h Q := by
  refine ak fun h1 e1 => ?_
  have n1 := hf.n
  have n2 := hf.d
  refine ae9 (ho.ext e1) (e0.trans e1) hx hf (by omega) fun o2 h2 p2 g2 => ?_
  have g2 := (G1.ext e1).trans g2
  have e2 := g2.base e0 (fun b hb => (ho.lt hb).1)
  refine ae9 p2 e2 hy hg (by rw [List.length_append, kA]; omega) fun o3 h3 p3 g3 => ?_
  exact K o3 h3 (by rw [← List.append_assoc]; exact p3) (g2.trans g3)
end Go.Sh.Pk
