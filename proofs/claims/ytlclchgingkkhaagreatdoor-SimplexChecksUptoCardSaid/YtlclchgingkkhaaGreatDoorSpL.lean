/-
  Laws that the proof of this claim's statement leans on, each proved under the conditions that it states.
-/
import Derived.Test.YtlclchgingkkhaaGreatDoorSpS
set_option linter.unusedVariables false
set_option linter.unusedSimpArgs false
namespace Go.Sh
open Go Go.Lift
structure RS {α : Type} (toC : α → List Value) (sz : Nat) (h : Heap) (s : Sl) (xs : List α) : Prop where
  len : s.len = xs.length
  cells : ∀ i (hi : i < xs.length), ∃ a, s.a = some a ∧ cells? h (a.add (i * sz)) sz 0 = some (toC xs[i])
theorem cx {h h' : Heap} (e : Ext h h') {a : Addr} : ∀ {n i : Nat} {l : List Value}, cells? h a n i = some l → cells? h' a n i = some l := by
  intro n
  induction n with
  | zero => intro i l h; simpa [cells?] using h
  | succ n ih =>
    intro i l h
    simp only [cells?] at h ⊢
    split at h
    · rename_i v r h1 h2
      simp only [Option.some.injEq] at h; subst h
      rw [ag e h1 (by simp), ih h2]
    · cases h
theorem RS.ext {α : Type} {toC : α → List Value} {sz : Nat} {h h' : Heap} {s : Sl} {xs : List α} (hr : RS toC sz h s xs) (e : Ext h h') : RS toC sz h' s xs :=
  ⟨hr.len, fun i hi => by obtain ⟨a, ha, hc⟩ := hr.cells i hi; exact ⟨a, ha, cx e hc⟩⟩
theorem RS.ld {α : Type} {toC : α → List Value} {sz : Nat} {h : Heap} {s : Sl} {xs : List α} {i : Int} {j : Nat} {k : α → Prop} (hr : RS toC sz h s xs) (hij : i = (j : Int)) (hj : j < xs.length) (K : k xs[j]) : idxS s i sz fun a => aD toC sz a h k := by
  subst hij
  obtain ⟨a, ha, hc⟩ := hr.cells j hj
  have := hr.len
  exact ⟨a, ha, ⟨by omega, by omega⟩, _, by simpa using hc, K⟩
theorem RS.nil {α : Type} {toC : α → List Value} {sz : Nat} {h : Heap} {s : Sl} (hs : s.len = 0) : RS toC sz h s ([] : List α) := ⟨hs, fun i hi => by simp at hi⟩
theorem rS {h : Heap} {cs : List Value} {T : Nat} {n : Nat} : ∀ {m i : Nat}, i + m = n → n ≤ cs.length → cells? (h.push (.cells cs.toArray T (0, 0))) ⟨h.size, 0, none⟩ m i = some ((cs.take n).drop i) := by
  intro m
  induction m with
  | zero => intro i hi hn; simp only [cells?]; rw [List.drop_eq_nil_of_le]; simp; omega
  | succ m ih =>
    intro i hi hn
    have hlt : i < cs.length := by omega
    simp only [cells?]
    rw [aZ, ih (i := i + 1) (by omega) hn]
    have h1 : cs.toArray[i]? = some cs[i] := by simp [hlt]
    rw [h1]
    have hlt2 : i < (cs.take n).length := by simp; omega
    rw [List.drop_eq_getElem_cons hlt2]
    simp
theorem yY {h : Heap} {a : Addr} (hs : a.spot = none) (o : Nat) : ∀ {n i : Nat}, cells? h (a.add o) n i = cells? h a n (o + i) := by
  intro n
  induction n with
  | zero => intro i; rfl
  | succ n ih =>
    intro i
    have hs' : (a.add o).spot = none := (rz hs o).2.2
    have e : (a.add o).add i = a.add (o + i) := by
      rw [aT _ _ hs', aT _ _ hs, aT _ _ hs]; simp [Nat.add_assoc]
    simp only [cells?, e, ih (i := i + 1)]
    rfl
theorem tkdr {β : Type} (A B C : List β) : ((A ++ (B ++ C)).take (A.length + B.length)).drop A.length = B := by
  rw [← List.append_assoc, ← List.length_append, List.take_left, List.drop_left]
theorem RS.new {α : Type} {toC : α → List Value} {sz : Nat} {h : Heap} {cs : List Value} {T n : Nat} {xs : List α} (hsz : ∀ x, (toC x).length = sz) (hn : n = xs.length) (hcs : cs = (xs.map toC).flatten) : RS toC sz (h.push (.cells cs.toArray T (0, 0))) ⟨some ⟨h.size, 0, none⟩, n, n⟩ xs := by
  refine ⟨hn, fun i hi => ⟨_, rfl, ?_⟩⟩
  have hfl : ∀ l : List α, ((l.map toC).flatten).length = l.length * sz := by
    intro l
    induction l with
    | nil => simp
    | cons x l ih => simp only [List.map_cons, List.flatten_cons, List.length_append, hsz, ih, List.length_cons]; rw [Nat.add_mul]; omega
  have hlen : cs.length = xs.length * sz := by rw [hcs, hfl]
  have hle : i * sz + sz ≤ cs.length := by
    rw [hlen, ← Nat.succ_mul]; exact Nat.mul_le_mul_right _ hi
  rw [yY rfl, Nat.add_zero, rS (n := i * sz + sz) (by omega) hle]
  congr 1
  have e : cs = (((xs.take i).map toC).flatten) ++ (toC xs[i] ++ (((xs.drop (i + 1)).map toC).flatten)) := by
    rw [hcs, ← List.flatten_cons, ← List.map_cons, ← List.drop_eq_getElem_cons hi, ← List.flatten_append, ← List.map_append, List.take_append_drop]
  have l1 : (((xs.take i).map toC).flatten).length = i * sz := by rw [hfl, List.length_take, Nat.min_eq_left (Nat.le_of_lt hi)]
  rw [e]
  have := tkdr (((xs.take i).map toC).flatten) (toC xs[i]) (((xs.drop (i + 1)).map toC).flatten)
  rw [l1, hsz] at this
  exact this
abbrev RR := RS aA 3
theorem g9 (x : Bool × Sl × Sl) : (aA x).length = 3 := rfl
def bigR (x : Bool × Sl × Sl) : Bool := decide (6 < x.2.1.len) || decide (6 < x.2.2.len)
theorem oV {l : Sl} {xs : List (Bool × Sl × Sl)} {h : Heap} {Q : Bool → Heap → Prop} (hl : RR h l xs) (hx : xs.length ≤ 1048576) (K : ∀ h', Ext h h' → Q (xs.any bigR) h') : b9 l h Q := by
  have hlen := hl.len
  refine loop.inv (fun t h' => ∃ i : Nat, t = (i : Int) ∧ i ≤ xs.length ∧ (xs.take i).any bigR = false ∧ Ext h h') (fun t _ => xs.length - t.toNat) ⟨0, rfl, by omega, rfl, Keep.refl _ _⟩ ?_
  rintro t h1 ⟨i, rfl, hi, hno, e1⟩
  refine ⟨fun hlt => ?_, fun hge => ?_⟩
  · simp only [decide_eq_true_eq] at hlt
    have hi' : i < xs.length := by omega
    refine RS.ld (hl.ext e1) (j := i) rfl hi' (ae fun h2 e2 => ?_)
    refine seq.cut (fun t h3 => t = bigR xs[i] ∧ h3 = h2) ?_ ?_
    · unfold bigR
      refine ⟨fun h6 => ⟨?_, rfl⟩, fun h6 => ⟨?_, rfl⟩⟩
      · simp only [gt_iff_lt, decide_eq_true_eq] at h6
        have : decide (6 < xs[i].2.1.len) = true := by simp; omega
        rw [this]; rfl
      · simp only [gt_iff_lt, decide_eq_false_iff_not] at h6
        have : decide (6 < xs[i].2.1.len) = false := by simp; omega
        rw [this, Bool.false_or, decide_eq_decide]; omega
    · rintro t h3 ⟨rfl, rfl⟩
      refine ⟨fun hb => ?_, fun hb => ?_⟩
      · have : xs.any bigR = true := List.any_eq_true.2 ⟨xs[i], List.getElem_mem hi', hb⟩
        rw [this] at K
        exact K _ (e1.trans e2)
      · rw [w64 (by omega) (by omega)]
        refine ⟨⟨i + 1, rfl, by omega, ?_, e1.trans e2⟩, by omega⟩
        rw [List.take_succ_eq_append_getElem hi', List.any_append, hno]
        simp [hb]
  · simp only [decide_eq_false_iff_not] at hge
    rw [List.take_of_length_le (by omega)] at hno
    rw [hno] at K
    exact K _ e1
end Go.Sh

namespace Go.Sh
open Go Go.Lift
theorem cK (q : Rat) : val' false q = q := rfl
end Go.Sh

namespace Go.Sh
open Go Go.Lift
theorem fj (n : Int) : ((n : Rat)).num = n := Rat.num_intCast n
theorem vf (n : Int) : ((n : Rat)).den = 1 := Rat.den_intCast n
theorem zp (n : Int) : dn (n : Rat) = 0 := by unfold dn; rw [vf]; rfl
theorem adk {n : Nat} (h : n < 18446744073709551616) : nl n ≤ 2 := by rw [gA]; exact h
theorem rQ {n : Int} (h : n.natAbs < 18446744073709551616) : szQ (n : Rat) ≤ 2 := by
  unfold szQ
  rw [zp, fj, eV]
  have := adk h
  omega
theorem OfQ {n : Int} {h : Heap} {Q : (Bool × Sl × Sl) → Heap → Prop} (h1 : -9223372036854775808 ≤ n) (h2 : n ≤ 9223372036854775807) (K : ∀ r h', RQ h' r (n : Rat) → Fr h r → Ext h h' → Q r h') : cr n h Q := by
  refine ae fun h3 e3 => ?_
  rintro _ rfl
  refine seq.cut (fun t h4 => t = (n.natAbs : Int) ∧ h4 = h3) ?_ ?_
  · refine ⟨fun hn => ?_, fun hn => ?_⟩
    · simp only [decide_eq_true_eq] at hn
      rintro _ rfl
      refine ⟨?_, rfl⟩
      rw [zz, zz]; omega
    · simp only [decide_eq_false_iff_not] at hn
      exact ⟨by rw [wu64 (by omega) (by omega)]; omega, rfl⟩
  · rintro t h4 ⟨rfl, rfl⟩
    refine qH (m := n.natAbs) rfl (by omega) fun r h5 hr e5 hf => ?_
    refine K _ h5 ⟨?_, ?_, ?_⟩ ⟨fun b hb => ?_, fun b hb => (by cases hb)⟩ (e3.trans e5)
    · rw [fj]; exact hr
    · rw [zp]; exact NN.nil
    · rw [fj]
    · have := (hf b hb).1; have := e3.size; omega
def NVF (a : Nat) (h : Heap) (s : Sl) (n : Nat) : Prop := ∃ xs, RI .u32 h s xs ∧ Lim 4294967296 xs ∧ val 4294967296 xs = n ∧ xs.length ≤ 1048576 ∧ (s.blk = some a → xs = [])
theorem NVF.nv {a : Nat} {h : Heap} {s : Sl} {n : Nat} (hs : NVF a h s n) : NV h s n := by
  obtain ⟨xs, h1, h2, h3, h4, _⟩ := hs; exact ⟨xs, h1, h2, h3, by omega⟩
theorem NVF.zero {a : Nat} {h : Heap} {s : Sl} {n : Nat} (hs : NVF a h s n) (hb : s.blk = some a) : n = 0 := by
  obtain ⟨xs, h1, h2, h3, h4, h5⟩ := hs
  rw [h5 hb] at h3; exact h3.symm
theorem NVF.keep {a : Nat} {h h' : Heap} {s : Sl} {n : Nat} (hs : NVF a h s n) (k : Keep (some a) h h') : NVF a h' s n := by
  obtain ⟨xs, h1, h2, h3, h4, h5⟩ := hs
  exact ⟨xs, h1.keepB k (fun b hb hx e => hx (h5 (by simp [Sl.blk, hb, e]))), h2, h3, h4, h5⟩
theorem NVF.ext {a : Nat} {h h' : Heap} {s : Sl} {n : Nat} (hs : NVF a h s n) (e : Ext h h') : NVF a h' s n := by
  obtain ⟨xs, h1, h2, h3, h4, h5⟩ := hs
  exact ⟨xs, R.ext h1 e, h2, h3, h4, h5⟩
theorem NVF.of {a : Nat} {h h' : Heap} {s : Sl} {xs : List Nat} (hr : RI .u32 h s xs) (hl : Lim 4294967296 xs) (hk : xs.length ≤ 1048576) (e : Ext h h') (ha : h.size ≤ a) : NVF a h' s (val 4294967296 xs) := by
  refine ⟨xs, R.ext hr e, hl, rfl, hk, fun hb => Classical.byContradiction fun hx => ?_⟩
  cases hs : s.a with
  | none => simp [Sl.blk, hs] at hb
  | some b =>
    simp [Sl.blk, hs] at hb
    have := hr.lt hs hx
    omega
end Go.Sh

namespace Go.Sh
open Go Go.Lift
theorem abq {v : Value} {h : Heap} {k : Addr → Heap → Prop} (K : ∀ a h', cell? h' a = some v → a.block = h.size → a.spot = none → frozen? h' a = false → Ext h h' → h'.size = h.size + 1 → k a h') : new [v] h k := by
  intro T
  refine K _ _ ?_ rfl rfl ?_ (Ext.push _ _) (by simp)
  · unfold cell?; simp
  · unfold frozen?; simp
theorem abL {x : Bool × Sl × Sl} {h : Heap} {J : Bool → Heap → Prop} (K : ∀ h', Ext h h' → J (bigR x) h') :
    new [Value.bool x.1, Sl.toV x.2.1, Sl.toV x.2.2] h fun a h' => b9 (⟨some a, 1, 1⟩ : Sl) h' J := by
  intro T
  have hr : RR (h.push (.cells [Value.bool x.1, Sl.toV x.2.1, Sl.toV x.2.2].toArray T (0, 0))) ⟨some ⟨h.size, 0, none⟩, 1, 1⟩ [x] := RS.new g9 rfl rfl
  exact oV hr (by simp) fun h' e => by simpa using K h' ((Ext.push _ _).trans e)
end Go.Sh

namespace Go.Sh
open Go Go.Lift
theorem acs {x y : Bool × Sl × Sl} {h : Heap} {J : Bool → Heap → Prop} (K : ∀ h', Ext h h' → J (bigR x || bigR y) h') :
    new [Value.bool x.1, Sl.toV x.2.1, Sl.toV x.2.2, Value.bool y.1, Sl.toV y.2.1, Sl.toV y.2.2] h fun a h' => b9 (⟨some a, 2, 2⟩ : Sl) h' J := by
  intro T
  have hr : RR (h.push (.cells [Value.bool x.1, Sl.toV x.2.1, Sl.toV x.2.2, Value.bool y.1, Sl.toV y.2.1, Sl.toV y.2.2].toArray T (0, 0))) ⟨some ⟨h.size, 0, none⟩, 2, 2⟩ [x, y] := RS.new g9 rfl rfl
  exact oV hr (by simp) fun h' e => by simpa using K h' ((Ext.push _ _).trans e)
theorem abD {h h' : Heap} {x : Bool × Sl × Sl} {xs ys : List Nat} {J : Bool → Heap → Prop} (hX : XR h x xs ys) (hb : bigR x = false) (e : Ext h h') (K : ∀ b h'', (b = true → ∃ q, RQ h x q ∧ szQ q ≤ 6) → Ext h' h'' → J b h'') : bp (x.1, x.2.1, x.2.2) h' J := by
  unfold bigR at hb
  simp only [Bool.or_eq_false_iff, decide_eq_false_iff_not] at hb
  have l1 := hX.num.len
  have l2 := hX.den.len
  have X' := hX.ext e
  refine fy X' (by omega) (by omega) fun b h'' hbb e'' => K b h'' (fun hbt => ?_) e''
  have h1 := hbb.1 hbt
  have h2 : isQ h x := (hX.isQ_iff (by omega) (by omega)).2 ((X'.isQ_iff (by omega) (by omega)).1 h1)
  obtain ⟨q, hq⟩ := h2
  refine ⟨q, hq, ?_⟩
  have := hq.num.nl
  have := hq.den.nl
  unfold szQ
  omega
theorem newRow {kd : IntKind} {cs : List Value} {h : Heap} {k : Addr → Heap → Prop} (xs : List Nat) (hcs : cs = xs.map fun n : Nat => Value.int kd (n : Int)) (K : ∀ a h', RI kd h' ⟨some a, xs.length, xs.length⟩ xs → Ext h h' → a.block = h.size → k a h') : new cs h k := by
  intro T
  exact K _ _ (Own.new hcs).r (Ext.push _ _) rfl
end Go.Sh

namespace Go.Sh
open Go Go.Lift
theorem tc {h : Heap} {x y : Bool × Sl × Sl} {p q : Rat} {Q : Int → Heap → Prop} (hx : RQ h x p) (hy : RQ h y q) (hsz : szQ p + szQ q ≤ 3000) (h0 : 0 < h.size)
    (K : ∀ h', Ext h h' → Q (cmpR p q) h') : gf x y h Q :=
  zo hx hy hsz h0 fun h' e => by rw [ach]; exact K h' e
theorem sL (p q : Rat) : cmpR q p = - cmpR p q := by
  unfold cmpR
  have : q - p = -(p - q) := by grind
  rw [this, Rat.neg_num, Int.sign_neg]
structure BV (h0 : Heap) (c a : Addr) (lim : Nat) (h : Heap) : Prop where
  tab : Tab h0
  var : cell? h c = some (.pointer (some a))
  ne : c.block ≠ a.block
  bench : Bench h a lim false
  ext : Ext h0 h
  old : h0.size ≤ a.block
theorem BV.keep {h0 : Heap} {c a : Addr} {lim : Nat} {h h' : Heap} (hv : BV h0 c a lim h) (hb : Bench h' a lim false) (k : Keep (some a.block) h h') : BV h0 c a lim h' :=
  ⟨hv.tab, ag k hv.var (by simpa using hv.ne), hv.ne, hb, hv.ext.fresh hv.old k, hv.old⟩
theorem BV.of_ext {h0 : Heap} {c a : Addr} {lim : Nat} {h h' : Heap} (hv : BV h0 c a lim h) (k : Ext h h') : BV h0 c a lim h' :=
  ⟨hv.tab, ag k hv.var (by simp), hv.ne, hv.bench.ext k, hv.ext.trans k, hv.old⟩
theorem BV.tb {h0 : Heap} {c a : Addr} {lim : Nat} {h : Heap} (hv : BV h0 c a lim h) : TB a.block h := hv.tab.tb hv.ext hv.old
section
variable {h0 h : Heap} {c a : Addr} {lim : Nat} {x y : Bool × Sl × Sl} {p q : Rat} {Q : (Bool × Sl × Sl) → Heap → Prop}
theorem abB (p q : Rat) : szQ (p - q) ≤ szQ p + szQ q + 2 := by
  rw [Rat.sub_eq_add_neg]
  have := wR p (-q)
  rw [aaK] at this; exact this
end
end Go.Sh
