/-
  Laws that the proof of this claim's statement leans on, each proved under the conditions that it states.
-/
import Derived.Test.YtlclchgingkkhaaGreatDoorSpE
import Derived.Test.YtlclchgingkkhaaGreatDoorFwC
set_option linter.unusedVariables false
set_option linter.unusedSimpArgs false
namespace Go.Sh
open Go Go.Lift
def atI (l : List Int) (i : Nat) : Int := l.getD i 0
def atB (l : List Bool) (i : Nat) : Bool := l.getD i false
theorem atI_get {xs : List Int} {j : Nat} (hj : j < xs.length) : atI xs j = xs[j] := by
  unfold atI; rw [List.getD_eq_getElem?_getD, List.getElem?_eq_getElem hj]; rfl
theorem atB_get {xs : List Bool} {j : Nat} (hj : j < xs.length) : atB xs j = xs[j] := by
  unfold atB; rw [List.getD_eq_getElem?_getD, List.getElem?_eq_getElem hj]; rfl
abbrev RJ (h : Heap) (s : Sl) (xs : List Int) : Prop := R (Value.int .i64) h s xs
theorem RJ.ld {h : Heap} {s : Sl} {xs : List Int} (hr : RJ h s xs) {i : Int} {j : Nat} {k : Int → Prop} (hij : i = (j : Int)) (hj : j < xs.length) (K : k (atI xs j)) : idxS s i 1 fun a => Lift.load (Value.int .i64) a h k := by
  subst hij
  refine R.load hr (by omega) (by omega) ?_
  rw [atI_get hj] at K
  exact K
theorem RB.ld {h : Heap} {s : Sl} {xs : List Bool} (hr : R Value.bool h s xs) {i : Int} {j : Nat} {k : Bool → Prop} (hij : i = (j : Int)) (hj : j < xs.length) (K : k (atB xs j)) : idxS s i 1 fun a => Lift.load Value.bool a h k := by
  subst hij
  refine R.load hr (by omega) (by omega) ?_
  rw [atB_get hj] at K
  exact K
def NRow (h : Heap) (s : Sl) (n : Nat) : Prop := s.len = n ∧ ∃ ys : List One, Own (Subtype.val : One → Value) 0 h (Sl.sc 6 s) ys
structure Tm where
  nb : Int
  nr : Int
  S : List Int
  G : List Bool
structure Nd where
  op : Int
  var : Int
  kids : List Int
  neg : Bool
  xs : List Nat
  ys : List Nat
def shp (op : Int) : Option (Int × Int × Int × Int) :=
  if op = 1 ∨ op = 2 ∨ op = 3 then some (0, 0, 0, 1) else if op = 4 ∨ op = 5 then some (0, 0, 0, 2) else if op = 6 then some (1, 1, 1, 1) else if 7 ≤ op ∧ op ≤ 10 then some (2, 1073741824, 1, 1)
  else if op = 11 then some (3, 3, 0, 0) else if op = 12 ∨ op = 13 then some (2, 1073741824, 0, 1) else if 14 ≤ op ∧ op ≤ 17 then some (2, 1073741824, 2, 1) else if op = 19 then some (1, 1073741824, 2, 2)
  else if op = 18 ∨ op = 20 ∨ op = 21 then some (2, 1073741824, 2, 2) else none
def isQL (neg : Bool) (xs ys : List Nat) : Prop := Nrm xs ∧ Nrm ys ∧ val 4294967296 ys ≠ 1 ∧ (if val 4294967296 xs = 0 then neg = false ∧ val 4294967296 ys = 0 else Nat.gcd (val 4294967296 xs) (Dn ys) = 1)
def leafOk (t : Tm) (v : Nd) : Prop :=
  (if v.op = 3 then 0 ≤ v.var ∧ v.var < t.nb else if v.op = 4 then 0 ≤ v.var ∧ v.var < t.nr else v.var = 0) ∧ (if v.op = 5 then isQL v.neg v.xs v.ys else v.xs = [] ∧ v.ys = [] ∧ v.neg = false)
def same (S : List Int) : Int → List Int → Bool
  | _, [] => true
  | w, k :: l => if atI S k.toNat = (if w = 0 then atI S k.toNat else w) then same S (if w = 0 then atI S k.toNat else w) l else false
def sortedV (S : List Int) (v : Nd) (s : Int × Int × Int × Int) : Int :=
  if v.op = 11 then if atI S (atI v.kids 0).toNat = 1 then if same S s.2.2.1 (v.kids.drop 1) then atI S (atI v.kids 1).toNat else 0 else 0
  else if same S s.2.2.1 v.kids then s.2.2.2 else 0
def freeV (G : List Bool) (op : Int) : Nat → List Int → Nat
  | _, [] => 0
  | i, k :: l => (if atB G k.toNat = false ∧ (op = 20 ∨ op = 21 ∧ 0 < i) then 1 else 0) + freeV G op (i + 1) l
def groundV (G : List Bool) (v : Nd) : Bool := decide (v.op = 5 ∨ 18 ≤ v.op) && v.kids.all fun k => atB G k.toNat
def thereV (t : Tm) (k : Int) : Prop := 0 ≤ k ∧ k < (t.S.length : Int)
open Classical in
noncomputable def addE (t : Tm) (v : Nd) : Int :=
  match shp v.op with
  | none => 1
  | some s =>
    if ¬ leafOk t v then 1 else if ∃ k ∈ v.kids, ¬ thereV t k then 2 else if (v.kids.length : Int) < s.1 ∨ (v.kids.length : Int) > s.2.1 then 15 else if sortedV t.S v s = 0 then 14
    else if ¬ (freeV t.G v.op 0 v.kids = 0 ∨ freeV t.G v.op 0 v.kids = 1 ∧ v.op = 20) then 16 else 0
def addT (t : Tm) (v : Nd) : Tm := { t with S := t.S ++ [sortedV t.S v ((shp v.op).getD (0, 0, 0, 0))], G := t.G ++ [groundV t.G v] }
structure Fz (Z : Nat → Prop) (h h' : Heap) : Prop where
  size : h.size ≤ h'.size
  same : ∀ b, b < h.size → ¬ Z b → h'[b]? = h[b]?
theorem Fz.refl (Z : Nat → Prop) (h : Heap) : Fz Z h h := ⟨Nat.le_refl _, fun _ _ _ => rfl⟩
theorem Fz.trans {Z : Nat → Prop} {a b c : Heap} (h : Fz Z a b) (k : Fz Z b c) : Fz Z a c :=
  ⟨Nat.le_trans h.size k.size, fun i hi hz => (k.same i (Nat.lt_of_lt_of_le hi h.size) hz).trans (h.same i hi hz)⟩
theorem Fz.ext {Z : Nat → Prop} {a b : Heap} (h : Ext a b) : Fz Z a b := ⟨h.size, fun i hi _ => h.same i hi (by simp)⟩
theorem Fz.keep {Z : Nat → Prop} {o : Option Nat} {a b : Heap} (h : Keep o a b) (ho : ∀ i, o = some i → Z i) : Fz Z a b :=
  ⟨h.size, fun i hi hz => h.same i hi (fun e => hz (ho i e.symm))⟩
def unk (t : Tm) (k : Int) : Option Int := if k = 1 then some t.nb else if k = 2 then some t.nr else none
def MP (h : Heap) (mp : Nat) (g : Int → Option Int) : Prop := ∃ f : List (Int × Int), mapEs .i64 h (some mp) (vals (Value.int .i64) f) ∧ ∀ k, f.lookup k = g k
theorem MP.keep {h h' : Heap} {mp : Nat} {g : Int → Option Int} {o : Option Nat} (p : MP h mp g) (k : Keep o h h') (hne : some mp ≠ o) : MP h' mp g := by
  obtain ⟨f, ⟨es, c, h1, h2⟩, h3⟩ := p
  exact ⟨f, ⟨es, c, by rw [k.same mp (Array.getElem?_eq_some_iff.1 h1).1 hne]; exact h1, h2⟩, h3⟩
theorem MP.lt {h : Heap} {mp : Nat} {g : Int → Option Int} (p : MP h mp g) : mp < h.size := by
  obtain ⟨f, ⟨es, c, h1, h2⟩, h3⟩ := p
  exact (Array.getElem?_eq_some_iff.1 h1).1
theorem MP.look {h : Heap} {mp : Nat} {g : Int → Option Int} (p : MP h mp g) {key : Int} {k : Int × Bool → Prop} (K : k ((g key).getD 0, (g key).isSome)) : lookM .i64 (Value.int .i64) 0 (some mp) key h k := by
  obtain ⟨f, h1, h2⟩ := p
  refine ⟨f, _, h1, rfl, ?_⟩
  rw [h2 key]
  cases hg : g key with
  | none => rw [hg] at K; exact K
  | some v => rw [hg] at K; exact K
theorem MP.set {h : Heap} {mp : Nat} {g : Int → Option Int} (p : MP h mp g) {key v : Int} {k : Heap → Prop} (K : ∀ h', MP h' mp (fun j => if j = key then some v else g j) → Keep (some mp) h h' → k h') : setM .i64 (Value.int .i64) (some mp) key v h k := by
  have hlt := p.lt
  obtain ⟨f, h1, h2⟩ := p
  refine ⟨mp, f, rfl, h1, fun es c he => K _ ⟨updM f key v, ⟨es, c, by simp [hlt], he⟩, fun j => ?_⟩ ⟨by simp, fun b hb hne => by rw [Array.getElem?_setIfInBounds_ne (fun e => hne (by rw [e]))]⟩⟩
  rw [lookup_updM, h2]
  by_cases e : j = key
  · subst e; simp
  · have : (j == key) = false := by simpa using e
    rw [this]; simp [e]
theorem MP.new {h : Heap} {k : Option Nat → Heap → Prop} (K : ∀ h', MP h' h.size (fun _ => none) → Ext h h' → h'.size = h.size + 1 → k (some h.size) h') : newM h k :=
  K _ ⟨[], ⟨#[], 0, by simp, Ents.nil⟩, fun _ => rfl⟩ (Ext.push _ _) (by simp)
structure TT (Z : Nat → Prop) (h : Heap) (a : Addr) (mp : Nat) (v1 v2 v3 : Sl) (t : Tm) : Prop where
  spot : a.spot = none
  c0 : cell? h (a.add 0) = some (Value.map (some mp))
  c1 : cell? h (a.add 1) = some (Sl.toV v1)
  c2 : cell? h (a.add 2) = some (Sl.toV v2)
  c3 : cell? h (a.add 3) = some (Sl.toV v3)
  f1 : frozen? h (a.add 1) = false
  f2 : frozen? h (a.add 2) = false
  f3 : frozen? h (a.add 3) = false
  map : MP h mp (unk t)
  n1 : NRow h v1 t.S.length
  s2 : Own (Value.int .i64) 0 h v2 t.S
  g3 : Own Value.bool 0 h v3 t.G
  gl : t.G.length = t.S.length
  few : t.S.length ≤ 1000
  ma : mp ≠ a.block
  m1 : v1.blk ≠ some mp
  m2 : v2.blk ≠ some mp
  m3 : v3.blk ≠ some mp
  a1 : v1.blk ≠ some a.block
  a2 : v2.blk ≠ some a.block
  a3 : v3.blk ≠ some a.block
  d12 : ∀ b, v1.blk = some b → v2.blk ≠ some b
  d13 : ∀ b, v1.blk = some b → v3.blk ≠ some b
  d23 : ∀ b, v2.blk = some b → v3.blk ≠ some b
  za : Z a.block
  zm : Z mp
  z1 : ∀ b, v1.blk = some b → Z b
  z2 : ∀ b, v2.blk = some b → Z b
  z3 : ∀ b, v3.blk = some b → Z b
  zn : ∀ b, h.size ≤ b → Z b
variable {Z : Nat → Prop} {h h' : Heap} {a : Addr} {mp : Nat} {v1 v2 v3 : Sl} {t : Tm}
theorem NRow.keep {s : Sl} {n : Nat} {o : Option Nat} (p : NRow h s n) (k : Keep o h h') (hne : ∀ b, s.blk = some b → some b ≠ o) : NRow h' s n := by
  obtain ⟨h1, ys, h2⟩ := p
  exact ⟨h1, ys, h2.keep k hne⟩
theorem NRow.lt {s : Sl} {n : Nat} (p : NRow h s n) {b : Nat} (hb : s.blk = some b) : b < h.size := by
  obtain ⟨h1, ys, h2⟩ := p
  exact (h2.lt hb).2
theorem TT.keepO {o : Option Nat} (q : TT Z h a mp v1 v2 v3 t) (k : Keep o h h') (ha : some a.block ≠ o) (hm : some mp ≠ o) (h1 : ∀ b, v1.blk = some b → some b ≠ o) (h2 : ∀ b, v2.blk = some b → some b ≠ o) (h3 : ∀ b, v3.blk = some b → some b ≠ o) : TT Z h' a mp v1 v2 v3 t :=
  { q with
    c0 := cell_keep k q.c0 (by rw [addr_add_block]; exact ha)
    c1 := cell_keep k q.c1 (by rw [addr_add_block]; exact ha)
    c2 := cell_keep k q.c2 (by rw [addr_add_block]; exact ha)
    c3 := cell_keep k q.c3 (by rw [addr_add_block]; exact ha)
    f1 := frozen_keep k (cell_lt q.c1) q.f1 (by rw [addr_add_block]; exact ha)
    f2 := frozen_keep k (cell_lt q.c2) q.f2 (by rw [addr_add_block]; exact ha)
    f3 := frozen_keep k (cell_lt q.c3) q.f3 (by rw [addr_add_block]; exact ha)
    map := q.map.keep k hm
    n1 := q.n1.keep k h1
    s2 := q.s2.keep k h2
    g3 := q.g3.keep k h3
    zn := fun b hb => q.zn b (Nat.le_trans k.size hb) }
theorem TT.ext (q : TT Z h a mp v1 v2 v3 t) (e : Ext h h') : TT Z h' a mp v1 v2 v3 t := q.keepO e (by simp) (by simp) (fun _ _ => by simp) (fun _ _ => by simp) (fun _ _ => by simp)
theorem TT.alt (q : TT Z h a mp v1 v2 v3 t) : a.block < h.size := by have := cell_lt q.c0; rwa [addr_add_block] at this
theorem TT.ld0 (q : TT Z h a mp v1 v2 v3 t) {k : Option Nat → Prop} (K : k (some mp)) : nilChk (some a) fun a' => Lift.load Value.map (a'.add 0) h k := ⟨a, rfl, some mp, q.c0, K⟩
theorem TT.ld1 (q : TT Z h a mp v1 v2 v3 t) {k : Sl → Prop} (K : k v1) : nilChk (some a) fun a' => Lift.load Sl.toV (a'.add 1) h k := ⟨a, rfl, v1, q.c1, K⟩
theorem TT.ld2 (q : TT Z h a mp v1 v2 v3 t) {k : Sl → Prop} (K : k v2) : nilChk (some a) fun a' => Lift.load Sl.toV (a'.add 2) h k := ⟨a, rfl, v2, q.c2, K⟩
theorem TT.ld3 (q : TT Z h a mp v1 v2 v3 t) {k : Sl → Prop} (K : k v3) : nilChk (some a) fun a' => Lift.load Sl.toV (a'.add 3) h k := ⟨a, rfl, v3, q.c3, K⟩
theorem there_spec {k : Int} {Q : Bool → Heap → Prop} (q : TT Z h a mp v1 v2 v3 t) (K : ∀ b, (b = true ↔ thereV t k) → Q b h) : term_Terms_there (some a) k h Q := by
  refine seq.cut (fun (b : Bool) h2 => h2 = h ∧ (b = true ↔ thereV t k)) ?_ (fun b h2 ⟨e, hb⟩ => by subst e; exact K b hb)
  unfold thereV
  refine ⟨fun hv => q.ld1 ⟨rfl, ?_⟩, fun hv => ⟨rfl, ?_⟩⟩
  · simp only [ge_iff_le, decide_eq_true_eq] at hv
    rw [q.n1.1, decide_eq_true_eq]
    exact ⟨fun h => ⟨hv, h⟩, fun h => h.2⟩
  · simp only [ge_iff_le, decide_eq_false_iff_not] at hv
    simp only [Bool.false_eq_true, false_iff]
    exact fun h => hv h.1
theorem Sort_spec {k : Int} {Q : Int → Heap → Prop} (q : TT Z h a mp v1 v2 v3 t) (K : Q (if 0 ≤ k ∧ k < (t.S.length : Int) then atI t.S k.toNat else 0) h) : term_Terms_Sort (some a) k h Q := by
  refine there_spec q fun b hb => ⟨fun hn => ?_, fun hy => ?_⟩
  · have : ¬ thereV t k := fun h => by rw [hb.2 h] at hn; simp at hn
    unfold thereV at this
    rw [if_neg this] at K
    exact K
  · have hv : thereV t k := hb.1 (by simpa using hy)
    unfold thereV at hv
    rw [if_pos hv] at K
    exact q.ld2 (RJ.ld q.s2.r (j := k.toNat) (by omega) (by omega) K)
abbrev N6 := Int × Int × Sl × Bool × Sl × Sl
structure ND (h : Heap) (n : N6) (v : Nd) : Prop where
  op : n.1 = v.op
  var : n.2.1 = v.var
  kids : RJ h n.2.2.1 v.kids
  neg : n.2.2.2.1 = v.neg
  x : XR h (n.2.2.2.1, n.2.2.2.2.1, n.2.2.2.2.2) v.xs v.ys
  kl : v.kids.length ≤ 1000
  xl : v.xs.length ≤ 400
  yl : v.ys.length ≤ 400
theorem ND.ext {n : N6} {v : Nd} (p : ND h n v) (e : Ext h h') : ND h' n v := ⟨p.op, p.var, R.ext p.kids e, p.neg, p.x.ext e, p.kl, p.xl, p.yl⟩
theorem shapes_spec {op : Int} {Q : ((Int × Int × Int × Int) × Bool) → Heap → Prop} (K : ∀ h', Ext h h' → Q ((shp op).getD (0, 0, 0, 0), (shp op).isSome) h') : term_shapes op h Q := by
  refine mem_ext fun h0 e0 => ?_
  unfold shp at K
  have two : ∀ {p q : Prop} [Decidable p] [Decidable q] {J : Bool → Heap → Prop}, (J (decide (p ∨ q)) h0) → iteB (decide p) (J true h0) (J (decide q) h0) := by
    intro p q _ _ J HJ
    refine ⟨fun h => ?_, fun h => ?_⟩
    · simp only [decide_eq_true_eq] at h
      have : decide (p ∨ q) = true := by simp [h]
      rwa [this] at HJ
    · simp only [decide_eq_false_iff_not] at h
      have : decide (p ∨ q) = decide q := by simp [h]
      rwa [this] at HJ
  have andd : ∀ {p q : Prop} [Decidable p] [Decidable q] {J : Bool → Heap → Prop}, (J (decide (p ∧ q)) h0) → iteB (decide p) (J (decide q) h0) (J false h0) := by
    intro p q _ _ J HJ
    refine ⟨fun h => ?_, fun h => ?_⟩
    · simp only [decide_eq_true_eq] at h
      have : decide (p ∧ q) = decide q := by simp [h]
      rwa [this] at HJ
    · simp only [decide_eq_false_iff_not] at h
      have : decide (p ∧ q) = false := by simp [h]
      rwa [this] at HJ
  have beqd : ∀ (x y : Int), (x == y) = decide (x = y) := fun x y => by rw [Bool.eq_iff_iff]; simp
  simp only [beqd]
  refine seq.cut (fun (b : Bool) h1 => h1 = h0 ∧ b = decide (op = 1 ∨ op = 2 ∨ op = 3)) ?_ ?_
  · exact two (p := op = 1) (q := op = 2 ∨ op = 3) (J := fun b h1 => h1 = h0 ∧ b = decide (op = 1 ∨ op = 2 ∨ op = 3)) ⟨rfl, rfl⟩ |> fun H => ⟨H.1, fun h => by
      have := H.2 h
      exact two (p := op = 2) (q := op = 3) (J := fun b h1 => h1 = h0 ∧ b = decide (op = 1 ∨ op = 2 ∨ op = 3)) this⟩
  rintro b h1 ⟨rfl, rfl⟩
  refine ⟨fun h => ?_, fun h => ?_⟩
  · simp only [decide_eq_true_eq] at h; rw [if_pos h] at K; exact K h1 e0
  simp only [decide_eq_false_iff_not] at h
  rw [if_neg h] at K
  clear h
  refine seq.cut (fun (b : Bool) h2 => h2 = h1 ∧ b = decide (op = 4 ∨ op = 5)) (two (J := fun b h2 => h2 = h1 ∧ b = decide (op = 4 ∨ op = 5)) ⟨rfl, rfl⟩) ?_
  rintro b h2 ⟨rfl, rfl⟩
  refine ⟨fun h => ?_, fun h => ?_⟩
  · simp only [decide_eq_true_eq] at h; rw [if_pos h] at K; exact K h2 e0
  simp only [decide_eq_false_iff_not] at h
  rw [if_neg h] at K
  clear h
  refine ⟨fun h => ?_, fun h => ?_⟩
  · simp only [decide_eq_true_eq] at h; rw [if_pos h] at K; exact K h2 e0
  simp only [decide_eq_false_iff_not] at h
  rw [if_neg h] at K
  clear h
  refine seq.cut (fun (b : Bool) h3 => h3 = h2 ∧ b = decide (7 ≤ op ∧ op ≤ 10)) (andd (J := fun b h3 => h3 = h2 ∧ b = decide (7 ≤ op ∧ op ≤ 10)) ⟨rfl, rfl⟩) ?_
  rintro b h3 ⟨rfl, rfl⟩
  refine ⟨fun h => ?_, fun h => ?_⟩
  · simp only [decide_eq_true_eq] at h; rw [if_pos h] at K; exact K h3 e0
  simp only [decide_eq_false_iff_not] at h
  rw [if_neg h] at K
  clear h
  refine ⟨fun h => ?_, fun h => ?_⟩
  · simp only [decide_eq_true_eq] at h; rw [if_pos h] at K; exact K h3 e0
  simp only [decide_eq_false_iff_not] at h
  rw [if_neg h] at K
  clear h
  refine seq.cut (fun (b : Bool) h4 => h4 = h3 ∧ b = decide (op = 12 ∨ op = 13)) (two (J := fun b h4 => h4 = h3 ∧ b = decide (op = 12 ∨ op = 13)) ⟨rfl, rfl⟩) ?_
  rintro b h4 ⟨rfl, rfl⟩
  refine ⟨fun h => ?_, fun h => ?_⟩
  · simp only [decide_eq_true_eq] at h; rw [if_pos h] at K; exact K h4 e0
  simp only [decide_eq_false_iff_not] at h
  rw [if_neg h] at K
  clear h
  refine seq.cut (fun (b : Bool) h5 => h5 = h4 ∧ b = decide (14 ≤ op ∧ op ≤ 17)) (andd (J := fun b h5 => h5 = h4 ∧ b = decide (14 ≤ op ∧ op ≤ 17)) ⟨rfl, rfl⟩) ?_
  rintro b h5 ⟨rfl, rfl⟩
  refine ⟨fun h => ?_, fun h => ?_⟩
  · simp only [decide_eq_true_eq] at h; rw [if_pos h] at K; exact K h5 e0
  simp only [decide_eq_false_iff_not] at h
  rw [if_neg h] at K
  clear h
  refine ⟨fun h => ?_, fun h => ?_⟩
  · simp only [decide_eq_true_eq] at h; rw [if_pos h] at K; exact K h5 e0
  simp only [decide_eq_false_iff_not] at h
  rw [if_neg h] at K
  clear h
  refine seq.cut (fun (b : Bool) h6 => h6 = h5 ∧ b = decide (op = 18 ∨ op = 20 ∨ op = 21)) ?_ ?_
  · exact two (p := op = 18) (q := op = 20 ∨ op = 21) (J := fun b h1 => h1 = h5 ∧ b = decide (op = 18 ∨ op = 20 ∨ op = 21)) ⟨rfl, rfl⟩ |> fun H => ⟨H.1, fun h => by
      have := H.2 h
      exact two (p := op = 20) (q := op = 21) (J := fun b h1 => h1 = h5 ∧ b = decide (op = 18 ∨ op = 20 ∨ op = 21)) this⟩
  rintro b h6 ⟨rfl, rfl⟩
  refine ⟨fun h => ?_, fun h => ?_⟩
  · simp only [decide_eq_true_eq] at h; rw [if_pos h] at K; exact K h6 e0
  simp only [decide_eq_false_iff_not] at h
  rw [if_neg h] at K
  exact K h6 e0
end Go.Sh

namespace Go.Sh
open Go Go.Lift
variable {Z : Nat → Prop} {h h' : Heap} {a : Addr} {mp : Nat} {v1 v2 v3 : Sl} {t : Tm} {n : N6} {v : Nd}
theorem keepFresh {o p : Option Nat} {a b c : Heap} (k : Keep o a b) (k2 : Keep p b c) (hp : ∀ n, p = some n → a.size ≤ n) : Keep o a c :=
  ⟨Nat.le_trans k.size k2.size, fun i hi hne => (k2.same i (Nat.lt_of_lt_of_le hi k.size) (fun e => by have := hp i e.symm; omega)).trans (k.same i hi hne)⟩
theorem same_nil (S : List Int) (w : Int) : same S w [] = true := rfl
theorem same_cons (S : List Int) (w k : Int) (l : List Int) : same S w (k :: l) = if atI S k.toNat = (if w = 0 then atI S k.toNat else w) then same S (if w = 0 then atI S k.toNat else w) l else false := rfl
theorem freeV_nil (G : List Bool) (op : Int) (i : Nat) : freeV G op i [] = 0 := rfl
theorem freeV_cons (G : List Bool) (op : Int) (i : Nat) (k : Int) (l : List Int) : freeV G op i (k :: l) = (if atB G k.toNat = false ∧ (op = 20 ∨ op = 21 ∧ 0 < i) then 1 else 0) + freeV G op (i + 1) l := rfl
theorem nil_of_len {kd : IntKind} {s : Sl} {xs : List Nat} (hr : RI kd h s xs) : ((((s.len : Nat) : Int) == 0) = true) ↔ xs = [] := by
  have := hr.len
  simp only [beq_iff_eq]
  constructor
  · intro h; exact List.eq_nil_of_length_eq_zero (by omega)
  · intro h; subst h; simp at this; omega
theorem leaf_spec {Q : Bool → Heap → Prop} (ht : Tab h) (q : TT Z h a mp v1 v2 v3 t) (hn : ND h n v) (K : ∀ b h', (b = true ↔ leafOk t v) → Ext h h' → Q b h') : term_Terms_leaf (some a) n h Q := by
  refine mem_ext fun h1 e1 => MP.new fun h2 m2 e2 s2 => m2.set fun h3 m3 k3 => m3.set fun h4 m4 k4 => ?_
  have e14 : Ext h1 h4 := keepFresh (keepFresh e2 k3 (fun i hi => by cases hi; exact Nat.le_refl _)) k4 (fun i hi => by cases hi; exact Nat.le_refl _)
  have e4 := e1.trans e14
  have q4 := q.ext e4
  rw [hn.op, hn.var]
  refine seq.cut (fun (_ : Unit) h5 => h5 = h4 ∧ (if v.op = 3 then 0 ≤ v.var ∧ v.var < t.nb else if v.op = 4 then 0 ≤ v.var ∧ v.var < t.nr else v.var = 0)) ?_ ?_
  · refine m4.look ?_
    dsimp only
    by_cases o3 : v.op = 3
    · rw [o3]
      simp only [show ¬ ((3 : Int) = 4) by decide, if_false, if_true, Option.getD_some, Option.isSome_some]
      refine ⟨fun _ => ?_, fun hb => by simp at hb⟩
      refine seq.cut (fun (b : Bool) h5 => h5 = h4 ∧ (b = false ↔ 0 ≤ v.var ∧ v.var < t.nb)) ?_ ?_
      · refine ⟨fun hb => ⟨rfl, ?_⟩, fun hb => q4.ld0 (q4.map.look ⟨rfl, ?_⟩)⟩
        · simp only [decide_eq_true_eq] at hb
          exact ⟨fun h => by simp at h, fun h => by omega⟩
        · simp only [decide_eq_false_iff_not] at hb
          have : (unk t 1).getD 0 = t.nb := rfl
          rw [this]
          simp only [ge_iff_le, decide_eq_false_iff_not]; omega
      · rintro b h5 ⟨rfl, hb⟩
        refine ⟨fun hbt => K false h5 ?_ e4, fun hbf => ⟨rfl, hb.1 hbf⟩⟩
        unfold leafOk
        rw [if_pos o3]
        simp only [Bool.false_eq_true, false_iff]
        intro h
        rw [hb.2 h.1] at hbt; cases hbt
    · by_cases o4 : v.op = 4
      · rw [o4]
        simp only [show ¬ ((4 : Int) = 3) by decide, if_false, if_true, Option.getD_some, Option.isSome_some]
        refine ⟨fun _ => ?_, fun hb => by simp at hb⟩
        refine seq.cut (fun (b : Bool) h5 => h5 = h4 ∧ (b = false ↔ 0 ≤ v.var ∧ v.var < t.nr)) ?_ ?_
        · refine ⟨fun hb => ⟨rfl, ?_⟩, fun hb => q4.ld0 (q4.map.look ⟨rfl, ?_⟩)⟩
          · simp only [decide_eq_true_eq] at hb
            exact ⟨fun h => by simp at h, fun h => by omega⟩
          · simp only [decide_eq_false_iff_not] at hb
            have : (unk t 2).getD 0 = t.nr := rfl
            rw [this]
            simp only [ge_iff_le, decide_eq_false_iff_not]; omega
        · rintro b h5 ⟨rfl, hb⟩
          refine ⟨fun hbt => K false h5 ?_ e4, fun hbf => ⟨rfl, hb.1 hbf⟩⟩
          unfold leafOk
          rw [if_neg o3, if_pos o4]
          simp only [Bool.false_eq_true, false_iff]
          intro h
          rw [hb.2 h.1] at hbt; cases hbt
      · rw [if_neg o4, if_neg o3, if_neg o3, if_neg o4]
        refine ⟨fun hb => by simp at hb, fun _ => ⟨fun hne => K false h4 ?_ e4, fun he => ⟨rfl, ?_⟩⟩⟩
        · simp only [bne_iff_ne, ne_eq] at hne
          unfold leafOk
          rw [if_neg o3, if_neg o4]
          simp [hne]
        · simpa using he
  · rintro _ h5 ⟨rfl, hp⟩
    have hx := hn.x.ext e4
    have lx := hn.xl
    have ly := hn.yl
    refine ⟨fun h5' => ?_, fun h5' => ?_⟩
    · simp only [beq_iff_eq] at h5'
      refine RightQ_spec (R.ext ht e4) hx (by omega) (by omega) fun b h6 hb e6 => K b h6 ?_ (e4.trans e6)
      rw [hb, hx.isQ_iff (by omega) (by omega), hn.neg]
      unfold leafOk
      rw [if_pos h5']
      exact ⟨fun h => ⟨hp, h⟩, fun h => h.2⟩
    · simp only [beq_eq_false_iff_ne, ne_eq] at h5'
      have goalIff : ∀ b : Bool, (b = true ↔ v.xs = [] ∧ v.ys = [] ∧ v.neg = false) → (b = true ↔ leafOk t v) := by
        intro b hb
        unfold leafOk
        rw [if_neg h5', hb]
        exact ⟨fun h => ⟨hp, h⟩, fun h => h.2⟩
      refine seq.cut (fun (b : Bool) h6 => Ext h5 h6 ∧ (b = true ↔ v.xs = [] ∧ v.ys = [] ∧ v.neg = false)) ?_ (fun b h6 ⟨e6, hb⟩ => K b h6 (goalIff b hb) (e4.trans e6))
      refine mem_ext fun h6 e6 => ?_
      have hx6 := hx.ext e6
      have z1 := nil_of_len hx6.num
      have z2 := nil_of_len hx6.den
      have fin : ∀ {x : Int}, x ≠ 0 → v.xs ≠ [] → iteB (x == 0) (iteB (((n.2.2.2.2.2.len : Nat) : Int) == 0) (Ext h5 h6 ∧ ((!n.2.2.2.1) = true ↔ v.xs = [] ∧ v.ys = [] ∧ v.neg = false)) (Ext h5 h6 ∧ (false = true ↔ v.xs = [] ∧ v.ys = [] ∧ v.neg = false))) (Ext h5 h6 ∧ (false = true ↔ v.xs = [] ∧ v.ys = [] ∧ v.neg = false)) := by
        intro x hx0 hne
        exact ⟨fun hb => absurd (by simpa using hb) hx0, fun _ => ⟨e6, by simp [hne]⟩⟩
      refine ⟨fun hb => ?_, fun hb => ?_⟩
      · have hxs := z1.1 hb
        refine ⟨fun _ => ⟨fun hd => ⟨e6, ?_⟩, fun hd => ⟨e6, ?_⟩⟩, fun hc => by simp at hc⟩
        · rw [hn.neg]; simp [hxs, z2.1 hd]
        · have : v.ys ≠ [] := fun h => by have := z2.2 h; rw [this] at hd; cases hd
          simp [this]
      · have hxs : v.xs ≠ [] := fun h => by have := z1.2 h; rw [this] at hb; cases hb
        exact ⟨fun _ => fin (by decide) hxs, fun _ => fin (by decide) hxs⟩
theorem lost_spec {p : Addr} {Q : Bool → Heap → Prop} (q : TT Z h a mp v1 v2 v3 t) {s : Sl} {kids : List Int} (hk : RJ h s kids) (hl : kids.length ≤ 1000) (hp : cell? h p = some (Value.pointer (some a)))
    (K : ∀ b, (b = true ↔ ∃ k ∈ kids, ¬ thereV t k) → Q b h) : slices_ContainsFunc_int_int__term_Terms_Add_c1 s p h Q := by
  unfold slices_ContainsFunc_int_int__term_Terms_Add_c1 slices_IndexFunc_int_int__term_Terms_Add_c1
  have hlen := hk.len
  refine loop.inv (fun (s0 : Int) h1 => h1 = h ∧ ∃ i : Nat, s0 = (i : Int) ∧ i ≤ kids.length ∧ ∀ k ∈ kids.take i, thereV t k) (fun s0 _ => kids.length - s0.toNat) ⟨rfl, 0, rfl, Nat.zero_le _, by simp⟩ ?_
  rintro s0 h1 ⟨rfl, i, rfl, hi, hall⟩
  dsimp only
  rw [hlen]
  refine ⟨fun hlt => ?_, fun hge => ?_⟩
  · simp only [decide_eq_true_eq] at hlt
    have hi' : i < kids.length := by omega
    refine RJ.ld hk (j := i) rfl hi' ⟨some a, hp, there_spec q fun b hb => ⟨fun hn => ?_, fun hy => ?_⟩⟩
    · have hb2 : ¬ thereV t (atI kids i) := fun h => by rw [hb.2 h] at hn; simp at hn
      have hd : decide ((i : Int) ≥ 0) = true := by simp
      rw [hd]
      refine K true ⟨fun _ => ⟨_, ?_, hb2⟩, fun _ => rfl⟩
      rw [atI_get hi']; exact List.getElem_mem hi'
    · have hb2 : thereV t (atI kids i) := hb.1 (by simpa using hy)
      rw [w64 (by omega) (by omega)]
      refine ⟨⟨rfl, i + 1, by omega, by omega, fun k hk' => ?_⟩, by simp only [Int.toNat_natCast]; omega⟩
      rw [List.take_succ_eq_append_getElem hi'] at hk'
      rcases List.mem_append.1 hk' with hk' | hk'
      · exact hall k hk'
      · simp only [List.mem_singleton] at hk'
        rw [hk', ← atI_get hi']; exact hb2
  · simp only [decide_eq_false_iff_not] at hge
    have : i = kids.length := by omega
    subst this
    rw [List.take_length] at hall
    refine K false ⟨fun h => by simp at h, ?_⟩
    rintro ⟨k, hk1, hk2⟩
    exact absurd (hall k hk1) hk2
theorem sorted_spec {s : Int × Int × Int × Int} {Q : Int → Heap → Prop} (q : TT Z h a mp v1 v2 v3 t) (hn : ND h n v) (hall : ∀ k ∈ v.kids, thereV t k) (h11 : v.op = 11 → v.kids.length = 3) (K : ∀ h', Ext h h' → Q (sortedV t.S v s) h') : term_Terms_sorted (some a) n s h Q := by
  refine mem_ext fun h1 e1 => ?_
  have q := q.ext e1
  have hk := R.ext hn.kids e1
  have hkl := hn.kl
  rw [hn.op]
  have ld : ∀ {k : Int} {J : Int → Prop}, thereV t k → J (atI t.S k.toNat) → idxS v2 k 1 fun a => Lift.load (Value.int .i64) a h1 J := fun {k J} hk HJ => by
    unfold thereV at hk
    exact RJ.ld q.s2.r (j := k.toNat) (by omega) (by omega) HJ
  have thr : ∀ {j : Nat}, j < v.kids.length → thereV t (atI v.kids j) := fun {j} hj => by rw [atI_get hj]; exact hall _ (List.getElem_mem hj)
  refine seq.cut (fun (x : Sl × Int × Int × Int × Int) h2 => h2 = h1 ∧ ∃ ks : List Int, RJ h1 x.1 ks ∧ (∀ k ∈ ks, thereV t k) ∧ ks.length ≤ 1000 ∧ sortedV t.S v s = (if same t.S x.2.2.2.1 ks then x.2.2.2.2 else 0)) ?_ ?_
  · refine ⟨fun ho => ?_, fun ho => ⟨rfl, v.kids, hk, hall, hkl, ?_⟩⟩
    · simp only [beq_iff_eq] at ho
      have hl3 := h11 ho
      refine q.ld2 (RJ.ld hk (j := 0) rfl (by omega) (ld (thr (by omega)) ⟨fun hne => ?_, fun he => ?_⟩))
      · simp only [bne_iff_ne, ne_eq] at hne
        have : sortedV t.S v s = 0 := by unfold sortedV; rw [if_pos ho, if_neg hne]
        rw [← this]
        exact K h1 e1
      · have he : atI t.S (atI v.kids 0).toNat = 1 := by simpa using he
        refine R.drop hk (j := 1) rfl (by omega) fun s' hs' _ => q.ld2 (RJ.ld hs' (j := 0) rfl (by rw [List.length_drop]; omega) ?_)
        have e0 : atI (v.kids.drop 1) 0 = atI v.kids 1 := by unfold atI; rw [List.getD_eq_getElem?_getD, List.getD_eq_getElem?_getD, List.getElem?_drop]
        rw [e0]
        refine ld (thr (by omega)) ⟨rfl, v.kids.drop 1, hs', fun k hk' => hall k (List.mem_of_mem_drop hk'), by rw [List.length_drop]; omega, ?_⟩
        unfold sortedV
        rw [if_pos ho, if_pos he]
    · simp only [beq_eq_false_iff_ne, ne_eq] at ho
      unfold sortedV
      rw [if_neg ho]
  · rintro ⟨ks, l0, l1, w0, sr⟩ h2 ⟨rfl, kids, hr, ha, hlk, hsv⟩
    dsimp only at hr hsv ⊢
    have hlen := hr.len
    refine loop.inv (fun (s0 : Int × Int) h3 => h3 = h2 ∧ ∃ i : Nat, s0.2 = (i : Int) ∧ i ≤ kids.length ∧ same t.S s0.1 (kids.drop i) = same t.S w0 kids) (fun s0 _ => kids.length - s0.2.toNat) ⟨rfl, 0, rfl, Nat.zero_le _, by simp⟩ ?_
    rintro ⟨w, i⟩ h3 ⟨rfl, i, rfl, hi, hs⟩
    dsimp only at hs ⊢
    rw [hlen]
    refine ⟨fun hlt => ?_, fun hge => ?_⟩
    · simp only [decide_eq_true_eq] at hlt
      have hi' : i < kids.length := by omega
      have hth : thereV t (atI kids i) := by rw [atI_get hi']; exact ha _ (List.getElem_mem hi')
      refine RJ.ld hr (j := i) rfl hi' ?_
      rw [List.drop_eq_getElem_cons hi', ← atI_get hi'] at hs
      rw [same_cons] at hs
      refine seq.cut (fun (u : Int) h4 => h4 = h3 ∧ u = if w = 0 then atI t.S (atI kids i).toNat else w) ?_ ?_
      · refine ⟨fun hw => q.ld2 (ld hth ⟨rfl, ?_⟩), fun hw => ⟨rfl, ?_⟩⟩
        · rw [if_pos (by simpa using hw)]
        · rw [if_neg (by simpa using hw)]
      · rintro u h4 ⟨rfl, rfl⟩
        refine q.ld2 (ld hth ⟨fun hne => ?_, fun he => ?_⟩)
        · simp only [bne_iff_ne, ne_eq] at hne
          rw [if_neg hne] at hs
          rw [← hs] at hsv
          simp only [Bool.false_eq_true, if_false] at hsv
          rw [← hsv]
          exact K h4 e1
        · have he : atI t.S (atI kids i).toNat = if w = 0 then atI t.S (atI kids i).toNat else w := by simpa using he
          rw [if_pos he] at hs
          rw [w64 (by omega) (by omega)]
          exact ⟨⟨rfl, i + 1, by simp, by omega, hs⟩, by simp only [Int.toNat_natCast]; omega⟩
    · simp only [decide_eq_false_iff_not] at hge
      have : i = kids.length := by omega
      subst this
      rw [List.drop_length, same_nil] at hs
      rw [← hs, if_pos rfl] at hsv
      rw [← hsv]
      exact K h3 e1
theorem line_spec {Q : Bool → Heap → Prop} (q : TT Z h a mp v1 v2 v3 t) (hn : ND h n v) (hall : ∀ k ∈ v.kids, thereV t k) (K : ∀ b h', (b = true ↔ freeV t.G v.op 0 v.kids = 0 ∨ freeV t.G v.op 0 v.kids = 1 ∧ v.op = 20) → Ext h h' → Q b h') : term_Terms_line (some a) n h Q := by
  refine mem_ext fun h1 e1 => ?_
  have q := q.ext e1
  have hk := R.ext hn.kids e1
  have hkl := hn.kl
  have hlen := hk.len
  have hgl := q.gl
  refine loop.inv (fun (s0 : Int × Int) h3 => h3 = h1 ∧ ∃ i f : Nat, s0 = ((f : Int), (i : Int)) ∧ i ≤ v.kids.length ∧ f ≤ i ∧ f + freeV t.G v.op i (v.kids.drop i) = freeV t.G v.op 0 v.kids) (fun s0 _ => v.kids.length - s0.2.toNat) ⟨rfl, 0, 0, rfl, Nat.zero_le _, Nat.le_refl _, by simp⟩ ?_
  rintro s0 h3 ⟨rfl, i, f, rfl, hi, hf, hs⟩
  dsimp only
  rw [hlen]
  refine ⟨fun hlt => ?_, fun hge => ?_⟩
  · simp only [decide_eq_true_eq] at hlt
    have hi' : i < v.kids.length := by omega
    have hth : thereV t (atI v.kids i) := by rw [atI_get hi']; exact hall _ (List.getElem_mem hi')
    rw [List.drop_eq_getElem_cons hi', ← atI_get hi'] at hs
    rw [freeV_cons] at hs
    unfold thereV at hth
    refine seq.cut (fun (u : Int) h4 => h4 = h3 ∧ u = ((f + (if atB t.G (atI v.kids i).toNat = false ∧ (v.op = 20 ∨ v.op = 21 ∧ 0 < i) then 1 else 0) : Nat) : Int)) ?_ ?_
    · refine RJ.ld hk (j := i) rfl hi' ?_
      refine seq.cut (fun (b : Bool) h4 => h4 = h3 ∧ (b = true ↔ atB t.G (atI v.kids i).toNat = false ∧ (v.op = 20 ∨ v.op = 21 ∧ 0 < i))) ?_ ?_
      · rw [hn.op]
        refine q.ld3 (RB.ld q.g3.r (j := (atI v.kids i).toNat) (by omega) (by omega) ⟨fun hg => ⟨fun h20 => ⟨rfl, ?_⟩, fun h20 => ⟨fun h21 => ⟨rfl, ?_⟩, fun h21 => ⟨rfl, ?_⟩⟩⟩, fun hg => ⟨rfl, ?_⟩⟩)
        · have hg : atB t.G (atI v.kids i).toNat = false := by simpa using hg
          simp only [beq_iff_eq] at h20
          simp [hg, h20]
        · have hg : atB t.G (atI v.kids i).toNat = false := by simpa using hg
          simp only [beq_iff_eq] at h21
          simp [hg, h21]
        · have hg : atB t.G (atI v.kids i).toNat = false := by simpa using hg
          simp only [beq_eq_false_iff_ne, ne_eq] at h20 h21
          simp [hg, h20, h21]
        · have hg : atB t.G (atI v.kids i).toNat = true := by simpa using hg
          simp [hg]
      · rintro b h4 ⟨rfl, hb⟩
        refine ⟨fun hbt => ?_, fun hbf => ⟨rfl, ?_⟩⟩
        · rw [w64 (by omega) (by omega)]
          rintro fr rfl
          rw [if_pos (hb.1 hbt)]
          exact ⟨rfl, by omega⟩
        · rw [if_neg (fun h => by rw [hb.2 h] at hbf; cases hbf)]; simp
    · rintro u h4 ⟨rfl, rfl⟩
      rw [w64 (by omega) (by omega)]
      refine ⟨⟨rfl, i + 1, _, rfl, by omega, ?_, by rw [Nat.add_assoc]; exact hs⟩, by simp only [Int.toNat_natCast]; omega⟩
      split <;> omega
  · simp only [decide_eq_false_iff_not] at hge
    have : i = v.kids.length := by omega
    subst this
    rw [List.drop_length, freeV_nil, Nat.add_zero] at hs
    rw [← hs] at K
    refine seq.cut (fun (b : Bool) h4 => h4 = h3 ∧ (b = true ↔ f = 0 ∨ f = 1 ∧ v.op = 20)) ?_ (fun b h4 ⟨e, hb⟩ => by subst e; exact K b h4 hb e1)
    rw [hn.op]
    refine ⟨fun h0 => ⟨rfl, ?_⟩, fun h0 => ⟨fun h1 => ⟨rfl, ?_⟩, fun h1 => ⟨rfl, ?_⟩⟩⟩
    · simp only [beq_iff_eq] at h0
      exact ⟨fun _ => .inl (by omega), fun _ => rfl⟩
    · simp only [beq_iff_eq] at h1
      simp only [beq_iff_eq]
      exact ⟨fun h => .inr ⟨by omega, h⟩, fun h => h.elim (fun h => by omega) (fun h => h.2)⟩
    · simp only [beq_eq_false_iff_ne, ne_eq] at h0 h1
      simp only [Bool.false_eq_true, false_iff]
      omega
theorem cloneI_spec {s : Sl} {xs : List Int} {Q : Sl → Heap → Prop} (hr : RJ h s xs) (hl : xs.length ≤ 1000) (K : ∀ r h', RJ h' r xs → Ext h h' → Q r h') : slices_Clone_int_int s h Q := by
  refine ⟨fun hn => ?_, fun hn => ?_⟩
  · have : xs = [] := by
      cases xs with
      | nil => rfl
      | cons x l =>
        obtain ⟨a, ha, _⟩ := hr.get (i := 0) (by simp)
        rw [ha] at hn; simp at hn
    subst this
    exact K Sl.nil h R.nil (Keep.refl _ _)
  · intro T
    have e1 : Ext h (h.push (.cells ([] : List Value).toArray T (0, 0))) := Ext.push _ _
    have ho := Own.new (toV := Value.int .i64) (h := h) (ys := []) (cs := []) (T := T) rfl
    have hs1 : (h.push (.cells ([] : List Value).toArray T (0, 0)) : Heap).size = h.size + 1 := by simp
    generalize (h.push (.cells ([] : List Value).toArray T (0, 0)) : Heap) = h1 at *
    refine Own.append (bytes := 8) (B := h.size) (xs := []) ho (by omega) (R.ext hr e1) (fun _ => rfl) (by simp; omega) fun r h2 o2 k2 b2 => ?_
    have e2 : Ext h h2 := ⟨by have := k2.size; omega, fun b hb _ => (k2.same b (by omega) (fun e => by have := (ho.lt e.symm).1; omega)).trans (e1.same b hb (by simp))⟩
    exact K r h2 (by simpa using o2.r) e2
end Go.Sh

namespace Go.Sh
open Go Go.Lift
structure Prt where
  v : Sl
  sz : Nat
  bytes : Nat
  cs : List Value
  old : Heap → Prop
  fre : Heap → Addr → Prop
  nw : Heap → Sl → Prop
  kold : ∀ {o : Option Nat} {h h' : Heap}, Keep o h h' → (∀ b, v.blk = some b → some b ≠ o) → old h → old h'
  kfre : ∀ {o : Option Nat} {h h' : Heap} {y : Addr}, Keep o h h' → some y.block ≠ o → fre h y → fre h' y
  knw : ∀ {o : Option Nat} {h h' : Heap} {s : Sl}, Keep o h h' → (∀ b, s.blk = some b → some b ≠ o) → nw h s → nw h' s
  lt : ∀ {h : Heap} {s : Sl} {b : Nat}, nw h s → s.blk = some b → b < h.size
  made : ∀ (h : Heap) (T : Nat), fre (h.push (.cells cs.toArray T (0, 0))) ⟨h.size, 0, none⟩
  app : ∀ {h : Heap} {y : Addr} {k : Sl → Heap → Prop}, old h → fre h y → (∀ s' h', nw h' s' → Keep v.blk h h' → (∀ b, s'.blk = some b → v.blk = some b ∨ b = h.size ∧ h'.size = h.size + 1) → k s' h') → appendS sz bytes v (⟨some y, 1, 1⟩ : Sl) h k
def prOwn {α : Type} (toV : α → Value) (hone : ∀ x, one (toV x) = true) (v : Sl) (xs : List α) (x : α) (bytes : Nat) (hb : (xs.length + 1) * bytes ≤ 2 ^ 46) : Prt where
  v := v
  sz := 1
  bytes := bytes
  cs := [toV x]
  old h := Own toV 0 h v xs
  fre h y := R toV h ⟨some y, 1, 1⟩ [x]
  nw h s := Own toV 0 h s (xs ++ [x])
  kold k hne ho := ho.keep k hne
  kfre k hne hr := hr.keep k (fun a ha => by cases ha; exact hne)
  knw k hne ho := ho.keep k hne
  lt ho hb := (ho.lt hb).2
  made h T := (Own.new (toV := toV) (h := h) (ys := [x]) (T := T) rfl).r
  app ho hr K := Own.append ho (Nat.zero_le _) hr hone hb fun s' h' o k b => K s' h' o k (fun i hi => by
    rcases b with g | ⟨g, g2⟩
    · exact .inl (by rw [← g]; exact hi)
    · rw [g] at hi; injection hi with hi; exact .inr ⟨hi.symm, g2⟩)
theorem ones6 {cs : List Value} (hl : cs.length = 6) (ho : oneCells cs = true) : ∃ ys : List One, ys.length = 6 ∧ cs = ys.map Subtype.val := by
  refine ⟨cs.attach.map (fun x => ⟨x.1, ?_⟩), by simpa using hl, ?_⟩
  · simp only [oneCells, List.all_eq_true] at ho
    exact ho x.1 x.2
  · simp
def prNode (v : Sl) (N : Nat) (cs : List Value) (hl : cs.length = 6) (ho : oneCells cs = true) (hN : N ≤ 1000) : Prt where
  v := v
  sz := 6
  bytes := 96
  cs := cs
  old h := NRow h v N
  fre h y := ∃ ys : List One, ys.length = 6 ∧ R (Subtype.val : One → Value) h ⟨some y, 6, 6⟩ ys
  nw h s := NRow h s (N + 1)
  kold k hne ho := ho.keep k hne
  kfre k hne hr := by obtain ⟨ys, h1, h2⟩ := hr; exact ⟨ys, h1, h2.keep k (fun a ha => by cases ha; exact hne)⟩
  knw k hne ho := ho.keep k hne
  lt ho hb := ho.lt hb
  made h T := by
    obtain ⟨ys, h1, h2⟩ := ones6 hl ho
    have := (Own.new (toV := (Subtype.val : One → Value)) (h := h) (ys := ys) (T := T) h2).r
    rw [h1] at this
    exact ⟨ys, h1, this⟩
  app {h y k} hold hfre K := by
    obtain ⟨hlen, xs, ho⟩ := hold
    obtain ⟨ys, h1, h2⟩ := hfre
    have hxl := ho.r.len
    refine appendS_sc (by decide) (by rw [hlen]; show (N + 1) * 96 ≤ 2 ^ 46; omega) ?_
    have hsc : Sl.sc 6 (⟨some y, 1, 1⟩ : Sl) = ⟨some y, 6, 6⟩ := rfl
    rw [hsc]
    refine Own.append (bytes := 0) ho (Nat.zero_le _) h2 (fun x => x.2) (by simp) fun s' h' o' k' b' s'' hs'' => ?_
    subst hs''
    refine K s'' h' ⟨?_, xs ++ ys, o'⟩ k' (fun i hi => ?_)
    · have h3 := o'.r.len
      simp only [Sl.sc, List.length_append, h1] at h3 hxl
      omega
    · rcases b' with g | ⟨g, g2⟩
      · exact .inl (by have : s''.blk = v.blk := g; rw [← this]; exact hi)
      · have : s''.blk = some h.size := g
        rw [this] at hi; injection hi with hi; exact .inr ⟨hi.symm, g2⟩
inductive SG where
  | a
  | b (y : Addr)
  | c (s : Sl)
def Prt.at (P : Prt) (M : Nat) (h : Heap) : SG → Prop
  | .a => P.old h
  | .b y => P.old h ∧ P.fre h y ∧ M ≤ y.block
  | .c s => P.nw h s ∧ ∀ b, s.blk = some b → P.v.blk = some b ∨ M ≤ b
def upd (x : Fin 3 → SG) (i : Fin 3) (s : SG) : Fin 3 → SG := fun j => if j = i then s else x j
structure TS (P : Fin 3 → Prt) (hb : Heap) (p a : Addr) : Prop where
  pl : p.block < hb.size
  al : a.block < hb.size
  vp : ∀ i, (P i).v.blk ≠ some p.block
  va : ∀ i, (P i).v.blk ≠ some a.block
  vl : ∀ i b, (P i).v.blk = some b → b < hb.size
  vv : ∀ i j, i ≠ j → ∀ b, (P i).v.blk = some b → (P j).v.blk ≠ some b
structure TQ (P : Fin 3 → Prt) (hb : Heap) (p a : Addr) (h : Heap) (x : Fin 3 → SG) : Prop where
  cp : cell? h p = some (Value.pointer (some a))
  c1 : cell? h (a.add 1) = some (Sl.toV (P 0).v)
  c2 : cell? h (a.add 2) = some (Sl.toV (P 1).v)
  c3 : cell? h (a.add 3) = some (Sl.toV (P 2).v)
  f1 : frozen? h (a.add 1) = false
  f2 : frozen? h (a.add 2) = false
  f3 : frozen? h (a.add 3) = false
  at' : ∀ i, (P i).at hb.size h (x i)
  size : hb.size ≤ h.size
  same : ∀ b, b < hb.size → (∀ i, (P i).v.blk ≠ some b) → h[b]? = hb[b]?
  dis : ∀ i j, i ≠ j → ∀ s s', x i = .c s → x j = .c s' → ∀ b, s.blk = some b → s'.blk ≠ some b
variable {P : Fin 3 → Prt} {hb : Heap} {p a : Addr} {h h' : Heap} {x : Fin 3 → SG}
theorem TQ.new (ts : TS P hb p a) (i : Fin 3) (q : TQ P hb p a h x) (hx : x i = .a) {k : Addr → Heap → Prop} (K : ∀ y h', TQ P hb p a h' (upd x i (.b y)) → k y h') : Lift.new (P i).cs h k := by
  intro T
  have e := Ext.push h (.cells (P i).cs.toArray T (0, 0))
  have hm := (P i).made h T
  have hsz : (h.push (.cells (P i).cs.toArray T (0, 0)) : Heap).size = h.size + 1 := by simp
  generalize (h.push (.cells (P i).cs.toArray T (0, 0)) : Heap) = h1 at *
  refine K _ h1 ⟨cell_keep e q.cp (by simp), cell_keep e q.c1 (by simp), cell_keep e q.c2 (by simp), cell_keep e q.c3 (by simp), frozen_keep e (cell_lt q.c1) q.f1 (by simp), frozen_keep e (cell_lt q.c2) q.f2 (by simp), frozen_keep e (cell_lt q.c3) q.f3 (by simp), fun j => ?_, Nat.le_trans q.size e.size, fun b hb1 hb2 => (e.same b (Nat.lt_of_lt_of_le hb1 q.size) (by simp)).trans (q.same b hb1 hb2), fun i1 j1 hij s s' h1 h2 => ?_⟩
  · have hq := q.at' j
    unfold upd
    by_cases hj : j = i
    · subst hj
      rw [if_pos rfl]
      rw [hx] at hq
      exact ⟨(P j).kold e (fun _ _ => by simp) hq, hm, q.size⟩
    · rw [if_neg hj]
      cases hxj : x j with
      | a => rw [hxj] at hq; exact (P j).kold e (fun _ _ => by simp) hq
      | b y => rw [hxj] at hq; exact ⟨(P j).kold e (fun _ _ => by simp) hq.1, (P j).kfre e (by simp) hq.2.1, hq.2.2⟩
      | c s => rw [hxj] at hq; exact ⟨(P j).knw e (fun _ _ => by simp) hq.1, hq.2⟩
  · unfold upd at h1 h2
    split at h1
    · cases h1
    · split at h2
      · cases h2
      · exact q.dis i1 j1 hij s s' h1 h2
theorem TQ.app (ts : TS P hb p a) (i : Fin 3) {y : Addr} (q : TQ P hb p a h x) (hx : x i = .b y) {k : Sl → Heap → Prop} (K : ∀ s h', TQ P hb p a h' (upd x i (.c s)) → k s h') : appendS (P i).sz (P i).bytes (P i).v (⟨some y, 1, 1⟩ : Sl) h k := by
  have hqi := q.at' i
  rw [hx] at hqi
  refine (P i).app hqi.1 hqi.2.1 fun s1 h1 hn k1 hb1 => ?_
  have np : some p.block ≠ (P i).v.blk := fun e => ts.vp i e.symm
  have na : some a.block ≠ (P i).v.blk := fun e => ts.va i e.symm
  have na' : ∀ j : Nat, some (a.add j).block ≠ (P i).v.blk := fun j => by rw [addr_add_block]; exact na
  have hold : ∀ b, s1.blk = some b → (P i).v.blk = some b ∨ hb.size ≤ b := fun b hbb => (hb1 b hbb).imp id (fun g => by rw [g.1]; exact q.size)
  have other : ∀ j, j ≠ i → ∀ b, (P j).v.blk = some b → some b ≠ (P i).v.blk := fun j hj b hbj e => ts.vv j i hj b hbj e.symm
  have fresh : ∀ b, hb.size ≤ b → some b ≠ (P i).v.blk := fun b hbb e => by have := ts.vl i b e.symm; omega
  refine K s1 h1 ⟨cell_keep k1 q.cp np, cell_keep k1 q.c1 (na' 1), cell_keep k1 q.c2 (na' 2), cell_keep k1 q.c3 (na' 3), frozen_keep k1 (cell_lt q.c1) q.f1 (na' 1), frozen_keep k1 (cell_lt q.c2) q.f2 (na' 2), frozen_keep k1 (cell_lt q.c3) q.f3 (na' 3), fun j => ?_, Nat.le_trans q.size k1.size, fun b g1 g2 => (k1.same b (Nat.lt_of_lt_of_le g1 q.size) (fun e => g2 i e.symm)).trans (q.same b g1 g2), fun i1 j1 hij s s' g1 g2 b hbs hbs' => ?_⟩
  · have hq := q.at' j
    unfold upd
    by_cases hj : j = i
    · subst hj
      rw [if_pos rfl]
      exact ⟨hn, hold⟩
    · rw [if_neg hj]
      cases hxj : x j with
      | a => rw [hxj] at hq; exact (P j).kold k1 (other j hj) hq
      | b y' => rw [hxj] at hq; exact ⟨(P j).kold k1 (other j hj) hq.1, (P j).kfre k1 (fresh _ hq.2.2) hq.2.1, hq.2.2⟩
      | c s' =>
        rw [hxj] at hq
        exact ⟨(P j).knw k1 (fun b hbs => (hq.2 b hbs).elim (other j hj b) (fresh b)) hq.1, hq.2⟩
  · -- no two of them lie in one block
    have key : ∀ j, j ≠ i → ∀ s', x j = .c s' → ∀ b, s1.blk = some b → s'.blk ≠ some b := by
      intro j hj s' hxj b g3 g4
      have hq := q.at' j
      rw [hxj] at hq
      have hlt := (P j).lt hq.1 g4
      rcases hb1 b g3 with g5 | ⟨g5, _⟩
      · rcases hq.2 b g4 with g6 | g6
        · exact ts.vv j i hj b g6 g5
        · have := ts.vl i b g5; omega
      · omega
    unfold upd at g1 g2
    by_cases e1 : i1 = i
    · rw [if_pos e1] at g1
      injection g1 with g1
      have e2 : j1 ≠ i := fun e => hij (e1.trans e.symm)
      rw [if_neg e2] at g2
      subst g1
      exact key j1 e2 s' g2 b hbs hbs'
    · rw [if_neg e1] at g1
      by_cases e2 : j1 = i
      · rw [if_pos e2] at g2
        injection g2 with g2
        subst g2
        exact key i1 e1 s g1 b hbs' hbs
      · rw [if_neg e2] at g2
        exact q.dis i1 j1 hij s s' g1 g2 b hbs hbs'
end Go.Sh

namespace Go.Sh
open Go Go.Lift
variable {Z : Nat → Prop} {h h' : Heap} {a : Addr} {mp : Nat} {v1 v2 v3 : Sl} {t : Tm} {n : N6} {v : Nd}
def P3 (v1 v2 v3 : Sl) (t : Tm) (cs : List Value) (hl : cs.length = 6) (ho : oneCells cs = true) (hf : t.S.length ≤ 1000) (hg : t.G.length = t.S.length) (s : Int) (g : Bool) : Fin 3 → Prt
  | 0 => prNode v1 t.S.length cs hl ho hf
  | 1 => prOwn (Value.int .i64) (fun _ => rfl) v2 t.S s 8 (by omega)
  | 2 => prOwn Value.bool (fun _ => rfl) v3 t.G g 1 (by omega)
theorem grow_spec {p : Addr} {cs : List Value} (hl : cs.length = 6) (ho : oneCells cs = true) {s : Int} {g : Bool} {t2 : Tm} {J : Unit → Heap → Prop} (q : TT Z h a mp v1 v2 v3 t) (hp : cell? h p = some (Value.pointer (some a))) (hpa : p.block ≠ a.block) (hp1 : v1.blk ≠ some p.block) (hp2 : v2.blk ≠ some p.block) (hp3 : v3.blk ≠ some p.block)
    (hf : t.S.length < 1000) (h2 : t2 = { t with S := t.S ++ [s], G := t.G ++ [g] })
    (K : ∀ w1 w2 w3 h', TT Z h' a mp w1 w2 w3 t2 → Fz Z h h' → cell? h' p = some (Value.pointer (some a)) → J () h') :
    ∀ (P : Fin 3 → Prt), P = P3 v1 v2 v3 t cs hl ho (by omega) q.gl s g →
    (TS P h p a ∧ TQ P h p a h (fun _ => .a)) ∧
    (∀ (h1 : Heap) (x : Fin 3 → SG) (s1 s2 s3 : Sl), TQ P h p a h1 x → x 0 = .c s1 → x 1 = .c s2 → x 2 = .c s3 →
      nilChk (some a) fun a70 => Lift.store (a70.add 1) (Sl.toV s1) h1 fun h2 => (cell? h2 p = some (Value.pointer (some a))) ∧ (cell? h2 p = some (Value.pointer (some a))) ∧
      nilChk (some a) fun a71 => Lift.store (a71.add 2) (Sl.toV s2) h2 fun h3 => (cell? h3 p = some (Value.pointer (some a))) ∧
      nilChk (some a) fun a72 => Lift.store (a72.add 3) (Sl.toV s3) h3 fun h4 => J () h4) := by
  intro P hP
  have hal := q.alt
  have hpl := cell_lt hp
  have ev : ∀ i, (P i).v.blk = (match i with | 0 => v1.blk | 1 => v2.blk | 2 => v3.blk) := by
    intro i; subst hP
    match i with
    | 0 => rfl
    | 1 => rfl
    | 2 => rfl
  have f0 : ∀ i b, (P i).v.blk = some b → v1.blk = some b ∨ v2.blk = some b ∨ v3.blk = some b := by
    intro i b hb
    rw [ev] at hb
    match i, hb with
    | 0, hb => exact .inl hb
    | 1, hb => exact .inr (.inl hb)
    | 2, hb => exact .inr (.inr hb)
  have ts : TS P h p a := by
    refine ⟨hpl, hal, fun i e => ?_, fun i e => ?_, fun i b hb => ?_, fun i j hij b hb hb' => ?_⟩
    · rcases f0 i _ e with e | e | e
      · exact hp1 e
      · exact hp2 e
      · exact hp3 e
    · rcases f0 i _ e with e | e | e
      · exact q.a1 e
      · exact q.a2 e
      · exact q.a3 e
    · rcases f0 i b hb with e | e | e
      · exact q.n1.lt e
      · exact (q.s2.lt e).2
      · exact (q.g3.lt e).2
    · rw [ev] at hb hb'
      match i, j, hij, hb, hb' with
      | 0, 0, hij, _, _ => exact hij rfl
      | 0, 1, _, hb, hb' => exact q.d12 b hb hb'
      | 0, 2, _, hb, hb' => exact q.d13 b hb hb'
      | 1, 0, _, hb, hb' => exact q.d12 b hb' hb
      | 1, 1, hij, _, _ => exact hij rfl
      | 1, 2, _, hb, hb' => exact q.d23 b hb hb'
      | 2, 0, _, hb, hb' => exact q.d13 b hb' hb
      | 2, 1, _, hb, hb' => exact q.d23 b hb' hb
      | 2, 2, hij, _, _ => exact hij rfl
  have tq : TQ P h p a h (fun _ => .a) := by
    refine ⟨hp, ?_, ?_, ?_, q.f1, q.f2, q.f3, fun i => ?_, Nat.le_refl _, fun _ _ _ => rfl, fun i j _ s s' h1 => by cases h1⟩
    · subst hP; exact q.c1
    · subst hP; exact q.c2
    · subst hP; exact q.c3
    · subst hP
      match i with
      | 0 => exact q.n1
      | 1 => exact q.s2
      | 2 => exact q.g3
  refine ⟨⟨ts, tq⟩, fun h1 x s1 s2 s3 Q x0 x1 x2 => ?_⟩
  have at0 := Q.at' 0
  have at1 := Q.at' 1
  have at2 := Q.at' 2
  rw [x0] at at0; rw [x1] at at1; rw [x2] at at2
  obtain ⟨n0, b0⟩ := at0
  obtain ⟨n1, b1⟩ := at1
  obtain ⟨n2, b2⟩ := at2
  rw [ev] at b0 b1 b2
  dsimp only at b0 b1 b2
  have N0 : NRow h1 s1 (t.S.length + 1) := by subst hP; exact n0
  have N1 : Own (Value.int .i64) 0 h1 s2 (t.S ++ [s]) := by subst hP; exact n1
  have N2 : Own Value.bool 0 h1 s3 (t.G ++ [g]) := by subst hP; exact n2
  have fresh : ∀ {sx : Sl} {vx : Sl}, (∀ b, sx.blk = some b → vx.blk = some b ∨ h.size ≤ b) → ∀ c, c < h.size → vx.blk ≠ some c → sx.blk ≠ some c := by
    intro sx vx hb c hc hv e
    exact (hb c e).elim hv (fun g => by omega)
  have A1 := fresh b0 a.block hal q.a1
  have A2 := fresh b1 a.block hal q.a2
  have A3 := fresh b2 a.block hal q.a3
  have ml := q.map.lt
  have M1 := fresh b0 mp ml q.m1
  have M2 := fresh b1 mp ml q.m2
  have M3 := fresh b2 mp ml q.m3
  have kset : ∀ (i : Nat) (u : Value) (hh : Heap), Keep (some a.block) hh (setCell hh (a.add i) u) := by
    intro i u hh
    have := Keep.setCell hh (a.add i) u
    rwa [addr_add_block] at this
  have off : ∀ {i j : Nat}, i ≠ j → (a.add i).off ≠ (a.add j).off := by
    intro i j hij
    rw [addr_add _ _ q.spot, addr_add _ _ q.spot]; simp; exact hij
  have hpn : some p.block ≠ some a.block := fun e => hpa (by injection e)
  refine ⟨a, rfl, ⟨_, Q.c1⟩, Q.f1, ?_⟩
  have k1 := kset 1 (Sl.toV s1) h1
  refine ⟨cell_keep k1 Q.cp hpn, cell_keep k1 Q.cp hpn, a, rfl, ?_⟩
  have c2' : cell? (setCell h1 (a.add 1) (Sl.toV s1)) (a.add 2) = some (Sl.toV (P 1).v) := by rw [cell_set_ne (.inr (.inl (off (by decide))))]; exact Q.c2
  refine ⟨⟨_, c2'⟩, by rw [frozen_set]; exact Q.f2, ?_⟩
  have k2 := kset 2 (Sl.toV s2) (setCell h1 (a.add 1) (Sl.toV s1))
  refine ⟨cell_keep k2 (cell_keep k1 Q.cp hpn) hpn, a, rfl, ?_⟩
  have c3' : cell? (setCell (setCell h1 (a.add 1) (Sl.toV s1)) (a.add 2) (Sl.toV s2)) (a.add 3) = some (Sl.toV (P 2).v) := by
    rw [cell_set_ne (.inr (.inl (off (by decide)))), cell_set_ne (.inr (.inl (off (by decide))))]; exact Q.c3
  refine ⟨⟨_, c3'⟩, by rw [frozen_set, frozen_set]; exact Q.f3, ?_⟩
  have k3 := kset 3 (Sl.toV s3) (setCell (setCell h1 (a.add 1) (Sl.toV s1)) (a.add 2) (Sl.toV s2))
  have kk := (k1.trans k2).trans k3
  have c1f : cell? (setCell (setCell (setCell h1 (a.add 1) (Sl.toV s1)) (a.add 2) (Sl.toV s2)) (a.add 3) (Sl.toV s3)) (a.add 1) = some (Sl.toV s1) := by
    rw [cell_set_ne (.inr (.inl (off (by decide)))), cell_set_ne (.inr (.inl (off (by decide)))), cell_set_same Q.c1]
  have c2f : cell? (setCell (setCell (setCell h1 (a.add 1) (Sl.toV s1)) (a.add 2) (Sl.toV s2)) (a.add 3) (Sl.toV s3)) (a.add 2) = some (Sl.toV s2) := by
    rw [cell_set_ne (.inr (.inl (off (by decide)))), cell_set_same c2']
  have c3f := cell_set_same (v := Sl.toV s3) c3'
  have fr1 : Keep (some a.block) h1 (setCell (setCell (setCell h1 (a.add 1) (Sl.toV s1)) (a.add 2) (Sl.toV s2)) (a.add 3) (Sl.toV s3)) := kk
  have c0f : cell? (setCell (setCell (setCell h1 (a.add 1) (Sl.toV s1)) (a.add 2) (Sl.toV s2)) (a.add 3) (Sl.toV s3)) (a.add 0) = some (Value.map (some mp)) := by
    rw [cell_set_ne (.inr (.inl (off (by decide)))), cell_set_ne (.inr (.inl (off (by decide)))), cell_set_ne (.inr (.inl (off (by decide))))]
    have := Q.same a.block hal (fun i => ts.va i)
    have c0 := q.c0
    unfold cell? at c0 ⊢
    rw [addr_add_block, this]
    rwa [addr_add_block] at c0
  have hS : (t.S ++ [s]).length = t.S.length + 1 := by simp
  have size : h.size ≤ (setCell (setCell (setCell h1 (a.add 1) (Sl.toV s1)) (a.add 2) (Sl.toV s2)) (a.add 3) (Sl.toV s3)).size := by rw [setCell_size, setCell_size, setCell_size]; exact Q.size
  have blkne : ∀ {sx : Sl}, sx.blk ≠ some a.block → ∀ b, sx.blk = some b → some b ≠ some a.block := fun hne b hb e => hne (by rw [hb, e])
  have zblk : ∀ {sx vx : Sl}, (∀ b, sx.blk = some b → vx.blk = some b ∨ h.size ≤ b) → (∀ b, vx.blk = some b → Z b) → ∀ b, sx.blk = some b → Z b := fun hb hz b hbb => (hb b hbb).elim (hz b) (q.zn b)
  refine K s1 s2 s3 _ ?_ ⟨size, fun b hb1 hz => ?_⟩ (cell_keep k3 (cell_keep k2 (cell_keep k1 Q.cp hpn) hpn) hpn)
  · subst h2
    exact
    { spot := q.spot
      c0 := c0f
      c1 := c1f
      c2 := c2f
      c3 := c3f
      f1 := by rw [frozen_set, frozen_set, frozen_set]; exact Q.f1
      f2 := by rw [frozen_set, frozen_set, frozen_set]; exact Q.f2
      f3 := by rw [frozen_set, frozen_set, frozen_set]; exact Q.f3
      map := by
        obtain ⟨f, ⟨es, c, g1, g2⟩, g3⟩ := q.map
        refine ⟨f, ⟨es, c, ?_, g2⟩, g3⟩
        rw [kk.same mp (Nat.lt_of_lt_of_le ml Q.size) (fun e => q.ma (by injection e)), Q.same mp ml (fun i e => ?_)]
        · exact g1
        · rcases f0 i _ e with e | e | e
          · exact q.m1 e
          · exact q.m2 e
          · exact q.m3 e
      n1 := by
        show NRow _ s1 (t.S ++ [s]).length
        rw [hS]; exact N0.keep kk (blkne A1)
      s2 := N1.keep kk (blkne A2)
      g3 := N2.keep kk (blkne A3)
      gl := by simp [q.gl]
      few := by show (t.S ++ [s]).length ≤ 1000; rw [hS]; omega
      ma := q.ma
      m1 := M1
      m2 := M2
      m3 := M3
      a1 := A1
      a2 := A2
      a3 := A3
      d12 := Q.dis 0 1 (by decide) s1 s2 x0 x1
      d13 := Q.dis 0 2 (by decide) s1 s3 x0 x2
      d23 := Q.dis 1 2 (by decide) s2 s3 x1 x2
      za := q.za
      zm := q.zm
      z1 := zblk b0 q.z1
      z2 := zblk b1 q.z2
      z3 := zblk b2 q.z3
      zn := fun b hb => q.zn b (Nat.le_trans size hb) }
  · have hba : some b ≠ some a.block := fun e => hz (by injection e with e; rw [e]; exact q.za)
    rw [kk.same b (Nat.lt_of_lt_of_le hb1 Q.size) hba]
    refine Q.same b hb1 (fun i e => hz ?_)
    rcases f0 i _ e with e | e | e
    · exact q.z1 b e
    · exact q.z2 b e
    · exact q.z3 b e
open Classical in
theorem tAdd_spec {Q : Int × Int → Heap → Prop} (ht : Tab h) (q : TT Z h a mp v1 v2 v3 t) (hn : ND h n v) (hf : t.S.length < 1000)
    (Kbad : addE t v ≠ 0 → ∀ h', Ext h h' → Q (0, addE t v) h')
    (K : addE t v = 0 → ∀ w1 w2 w3 h', TT Z h' a mp w1 w2 w3 (addT t v) → Fz Z h h' → Q ((t.S.length : Int), 0) h') : term_Terms_Add (some a) n h Q := by
  intro T
  have e0 : Ext h (h.push (.cells [Value.pointer (some a)].toArray T (0, 0))) := Ext.push _ _
  have hp0 : cell? (h.push (.cells [Value.pointer (some a)].toArray T (0, 0))) ⟨h.size, 0, none⟩ = some (Value.pointer (some a)) := by unfold cell?; simp
  have hpb : (⟨h.size, 0, none⟩ : Addr).block = h.size := rfl
  generalize (h.push (.cells [Value.pointer (some a)].toArray T (0, 0)) : Heap) = h0 at *
  generalize (⟨h.size, 0, none⟩ : Addr) = p at *
  have hal := q.alt
  have hpa : p.block ≠ a.block := by omega
  have hp1 : v1.blk ≠ some p.block := fun e => by have := q.n1.lt e; omega
  have hp2 : v2.blk ≠ some p.block := fun e => by have := (q.s2.lt e).2; omega
  have hp3 : v3.blk ≠ some p.block := fun e => by have := (q.g3.lt e).2; omega
  refine mem_ext fun h1 e1 => shapes_spec fun h2 e2 => mem_ext fun h3 e3 => ?_
  have e03 : Ext h0 h3 := (e1.trans e2).trans e3
  have eh3 := e0.trans e03
  have q3 := q.ext eh3
  have hn3 := hn.ext eh3
  have hp3' := cell_keep e03 hp0 (by simp)
  have hm3 : ND h3 (v.op, n.2.1, n.2.2.1, n.2.2.2.1, n.2.2.2.2.1, n.2.2.2.2.2) v := ⟨rfl, hn3.var, hn3.kids, hn3.neg, hn3.x, hn3.kl, hn3.xl, hn3.yl⟩
  rw [hn.op]
  refine seq.cut (fun (b : Bool) h4 => Ext h3 h4 ∧ (b = false ↔ (∃ s, shp v.op = some s) ∧ leafOk t v)) ?_ ?_
  · refine ⟨fun hb => ⟨Keep.refl _ _, ?_⟩, fun hb => ⟨some a, hp3', leaf_spec (R.ext ht eh3) q3 hm3 fun b h4 hb4 e4 => ⟨e4, ?_⟩⟩⟩
    · have : shp v.op = none := by cases hs : shp v.op with | none => rfl | some s => rw [hs] at hb; simp at hb
      rw [this]; simp
    · have : ∃ s, shp v.op = some s := by cases hs : shp v.op with | none => rw [hs] at hb; simp at hb | some s => exact ⟨s, rfl⟩
      rw [← hb4]
      cases b <;> simp [this]
  rintro b h4 ⟨e4, hb4⟩
  have eh4 := eh3.trans e4
  refine ⟨fun hbt => ?_, fun hbf => ?_⟩
  · have hno : ¬ ((∃ s, shp v.op = some s) ∧ leafOk t v) := fun h => by rw [hb4.2 h] at hbt; cases hbt
    have e : addE t v = 1 := by
      unfold addE
      cases hs : shp v.op with
      | none => rfl
      | some s => dsimp only; rw [if_pos (fun hl => hno ⟨⟨s, hs⟩, hl⟩)]
    rw [e] at Kbad
    exact Kbad (by decide) h4 eh4
  obtain ⟨⟨s, hs⟩, hleaf⟩ := hb4.1 hbf
  rw [hs]
  dsimp only [Option.getD_some]
  have hE : addE t v = if ∃ k ∈ v.kids, ¬ thereV t k then 2 else if (v.kids.length : Int) < s.1 ∨ (v.kids.length : Int) > s.2.1 then 15 else if sortedV t.S v s = 0 then 14 else if ¬ (freeV t.G v.op 0 v.kids = 0 ∨ freeV t.G v.op 0 v.kids = 1 ∧ v.op = 20) then 16 else 0 := by
    unfold addE
    rw [hs]
    dsimp only
    rw [if_neg (fun h => h hleaf)]
  have q4 := q.ext eh4
  have hn4 := hn.ext eh4
  have hm4 := hm3.ext e4
  have hp4 := cell_keep e4 hp3' (by simp)
  refine lost_spec q4 hn4.kids hn.kl hp4 fun b5 hb5 => ⟨fun hbt => ?_, fun hbf5 => ?_⟩
  · rw [if_pos (hb5.1 hbt)] at hE
    rw [hE] at Kbad
    exact Kbad (by decide) h4 eh4
  have hall : ∀ k ∈ v.kids, thereV t k := fun k hk => Classical.byContradiction fun hc => by rw [hb5.2 ⟨k, hk, hc⟩] at hbf5; cases hbf5
  rw [if_neg (fun ⟨k, hk, hc⟩ => hc (hall k hk))] at hE
  have hkl := hn4.kids.len
  refine seq.cut (fun (b : Bool) h5 => h5 = h4 ∧ (b = true ↔ (v.kids.length : Int) < s.1 ∨ (v.kids.length : Int) > s.2.1)) ?_ ?_
  · rw [hkl]
    refine ⟨fun hc => ⟨rfl, ?_⟩, fun hc => ⟨rfl, ?_⟩⟩
    · simp only [decide_eq_true_eq] at hc
      exact ⟨fun _ => .inl hc, fun _ => rfl⟩
    · simp only [decide_eq_false_iff_not] at hc
      simp only [decide_eq_true_eq]
      exact ⟨.inr, fun h => h.elim (fun h => absurd h hc) id⟩
  rintro b6 h5 ⟨rfl, hb6⟩
  refine ⟨fun hbt => ?_, fun hbf6 => ?_⟩
  · rw [if_pos (hb6.1 hbt)] at hE
    rw [hE] at Kbad
    exact Kbad (by decide) h5 eh4
  have hlen : ¬ ((v.kids.length : Int) < s.1 ∨ (v.kids.length : Int) > s.2.1) := fun h => by rw [hb6.2 h] at hbf6; cases hbf6
  rw [if_neg hlen] at hE
  have h11 : v.op = 11 → v.kids.length = 3 := by
    intro ho
    rw [ho] at hs
    have : s = (3, 3, 0, 0) := by simp [shp] at hs; exact hs.symm
    subst this
    simp at hlen
    omega
  refine ⟨some a, hp4, sorted_spec q4 hm4 hall h11 fun h6 e6 => ?_⟩
  have eh6 := eh4.trans e6
  refine ⟨fun hz => ?_, fun hz => ?_⟩
  · simp only [beq_iff_eq] at hz
    rw [if_pos hz] at hE
    rw [hE] at Kbad
    exact Kbad (by decide) h6 eh6
  simp only [beq_eq_false_iff_ne, ne_eq] at hz
  rw [if_neg hz] at hE
  have hp6 := cell_keep e6 hp4 (by simp)
  refine ⟨some a, hp6, line_spec (q.ext eh6) (hm4.ext e6) hall fun b7 h7 hb7 e7 => ?_⟩
  have eh7 := eh6.trans e7
  have hp7 := cell_keep e7 hp6 (by simp)
  refine ⟨fun hbt => ?_, fun hbf7 => ?_⟩
  · rw [if_pos (fun h => by rw [hb7.2 h] at hbt; cases hbt)] at hE
    rw [hE] at Kbad
    exact Kbad (by decide) h7 eh7
  rw [if_neg (fun h => h (hb7.1 (by simpa using hbf7)))] at hE
  have K := K hE
  have q7 := q.ext eh7
  refine ⟨some a, hp7, q7.ld1 ⟨fun hbig => absurd hbig ?_, fun _ => ?_⟩⟩
  · rw [q7.n1.1]; simp; omega
  refine cloneI_spec (hn.ext eh7).kids hn.kl fun r h8 hr8 e8 => ?_
  have eh8 := eh7.trans e8
  have hp8 := cell_keep e8 hp7 (by simp)
  have hrl := hr8.len
  have hkn := hn.kl
  refine seq.cut (fun (b : Bool) h9 => h9 = h8 ∧ b = decide (v.op = 5 ∨ 18 ≤ v.op)) ?_ ?_
  · refine ⟨fun h5 => ⟨rfl, ?_⟩, fun h5 => ?_⟩
    · simp only [beq_iff_eq] at h5; simp [h5]
    · simp only [beq_eq_false_iff_ne, ne_eq] at h5
      rintro g rfl
      refine ⟨rfl, ?_⟩
      simp [h5]
  rintro b9 h9 ⟨rfl, rfl⟩
  refine loop.inv (fun (s0 : Bool × Int) h10 => h10 = h9 ∧ ∃ i : Nat, s0 = (decide (v.op = 5 ∨ 18 ≤ v.op) && (v.kids.take i).all (fun k => atB t.G k.toNat), (i : Int)) ∧ i ≤ v.kids.length) (fun s0 _ => v.kids.length - s0.2.toNat) ⟨rfl, 0, by simp, Nat.zero_le _⟩ ?_
  rintro s0 h10 ⟨rfl, i, rfl, hi⟩
  have q10 := q.ext eh8
  dsimp only
  rw [hrl]
  refine ⟨fun hlt => ?_, fun hge => ?_⟩
  · simp only [decide_eq_true_eq] at hlt
    have hi' : i < v.kids.length := by omega
    have hth := hall _ (List.getElem_mem hi')
    unfold thereV at hth
    have hgl := q.gl
    refine seq.cut (fun (b : Bool) h11 => h11 = h10 ∧ b = (decide (v.op = 5 ∨ 18 ≤ v.op) && (v.kids.take (i + 1)).all (fun k => atB t.G k.toNat))) ?_ ?_
    · rw [List.take_succ_eq_append_getElem hi', List.all_append]
      refine RJ.ld hr8 (j := i) rfl hi' ⟨fun hg => ⟨some a, hp8, q10.ld3 (RB.ld q10.g3.r (j := (v.kids[i]).toNat) (by rw [atI_get hi']; omega) (by omega) ⟨rfl, ?_⟩)⟩, fun hg => ⟨rfl, ?_⟩⟩
      · simp only [Bool.and_eq_true] at hg
        rw [hg.1, hg.2]; simp
      · rw [← Bool.and_assoc, hg]; simp
    · rintro b11 h11 ⟨rfl, rfl⟩
      rw [w64 (by omega) (by omega)]
      exact ⟨⟨rfl, i + 1, by simp, by omega⟩, by simp only [Int.toNat_natCast]; omega⟩
  · simp only [decide_eq_false_iff_not] at hge
    have : i = v.kids.length := by omega
    subst this
    rw [List.take_length]
    have hgr : (decide (v.op = 5 ∨ 18 ≤ v.op) && v.kids.all (fun k => atB t.G k.toNat)) = groundV t.G v := rfl
    rw [hgr]
    refine seq.cut (fun (_ : Unit) h11 => ∃ w1 w2 w3, TT Z h11 a mp w1 w2 w3 (addT t v) ∧ Fz Z h10 h11 ∧ cell? h11 p = some (Value.pointer (some a))) ?_ ?_
    · refine ⟨some a, hp8, some a, hp8, some a, hp8, some a, hp8, ?_⟩
      dsimp only
      refine ⟨a, rfl, v1, q10.c1, ?_⟩
      refine ⟨some a, hp8, ?_⟩
      dsimp only
      refine ⟨a, rfl, v2, q10.c2, ?_⟩
      refine ⟨some a, hp8, ?_⟩
      dsimp only
      refine ⟨a, rfl, v3, q10.c3, ?_⟩
      have hcs : [Value.int .i64 v.op, Value.int .i64 n.2.1, Sl.toV r, Value.bool n.2.2.2.1, Sl.toV n.2.2.2.2.1, Sl.toV n.2.2.2.2.2].length = 6 := rfl
      have hco : oneCells [Value.int .i64 v.op, Value.int .i64 n.2.1, Sl.toV r, Value.bool n.2.2.2.1, Sl.toV n.2.2.2.2.1, Sl.toV n.2.2.2.2.2] = true := rfl
      obtain ⟨⟨ts, tq⟩, fin⟩ := grow_spec (p := p) hcs hco (s := sortedV t.S v s) (g := groundV t.G v) (t2 := addT t v) (J := fun (_ : Unit) h11 => ∃ w1 w2 w3, TT Z h11 a mp w1 w2 w3 (addT t v) ∧ Fz Z h10 h11 ∧ cell? h11 p = some (Value.pointer (some a))) q10 hp8 hpa hp1 hp2 hp3 hf (by unfold addT; rw [hs]; rfl) (fun w1 w2 w3 h' A B C => ⟨w1, w2, w3, A, B, C⟩) _ rfl
      have N0 := fun h x => @TQ.new _ h10 p a h x ts 0
      have N1 := fun h x => @TQ.new _ h10 p a h x ts 1
      have N2 := fun h x => @TQ.new _ h10 p a h x ts 2
      have A0 := fun h x y => @TQ.app _ h10 p a h x ts 0 y
      have A1 := fun h x y => @TQ.app _ h10 p a h x ts 1 y
      have A2 := fun h x y => @TQ.app _ h10 p a h x ts 2 y
      repeat' first
        | exact TQ.cp (by assumption)
        | exact TQ.c1 (by assumption)
        | exact TQ.c2 (by assumption)
        | exact TQ.c3 (by assumption)
        | exact fin _ _ _ _ _ (by assumption) (by rfl) (by rfl) (by rfl)
        | refine N0 _ _ (by assumption) (by rfl) (fun y h q => ?_)
        | refine N1 _ _ (by assumption) (by rfl) (fun y h q => ?_)
        | refine N2 _ _ (by assumption) (by rfl) (fun y h q => ?_)
        | refine A0 _ _ _ (by assumption) (by rfl) (fun s h q => ?_)
        | refine A1 _ _ _ (by assumption) (by rfl) (fun s h q => ?_)
        | refine A2 _ _ _ (by assumption) (by rfl) (fun s h q => ?_)
        | refine And.intro ?_ ?_
    · rintro _ h11 ⟨w1, w2, w3, A, B, C⟩
      refine ⟨some a, C, A.ld1 ?_⟩
      have hl1 : w1.len = t.S.length + 1 := by
        have := A.n1.1
        unfold addT at this
        simp at this
        exact this
      rw [hl1, w64 (by omega) (by omega)]
      have : ((t.S.length + 1 : Nat) : Int) - 1 = (t.S.length : Int) := by omega
      rw [this]
      exact K w1 w2 w3 h11 A ((Fz.ext eh8).trans B)
end Go.Sh

namespace Go.Sh
open Go Go.Lift
variable {Z : Nat → Prop} {h h' : Heap} {a : Addr} {mp : Nat} {v1 v2 v3 : Sl} {t : Tm} {n : N6} {v : Nd}
theorem TT.z {Z' : Nat → Prop} (q : TT Z h a mp v1 v2 v3 t) (za : Z' a.block) (zm : Z' mp) (z1 : ∀ b, v1.blk = some b → Z' b) (z2 : ∀ b, v2.blk = some b → Z' b) (z3 : ∀ b, v3.blk = some b → Z' b) (zn : ∀ b, h.size ≤ b → Z' b) : TT Z' h a mp v1 v2 v3 t :=
  { q with za := za, zm := zm, z1 := z1, z2 := z2, z3 := z3, zn := zn }
theorem Fz.toExt {h0 : Heap} (f : Fz Z h h') (e : Ext h0 h) (hz : ∀ b, Z b → h0.size ≤ b) : Ext h0 h' :=
  ⟨Nat.le_trans e.size f.size, fun b hb hne => (f.same b (Nat.lt_of_lt_of_le hb e.size) (fun h => by have := hz b h; omega)).trans (e.same b hb hne)⟩
theorem tNew_spec {bools reals : Int} {Q : Option Addr → Heap → Prop} (K : ∀ a mp h', TT (fun b => h.size ≤ b) h' a mp Sl.nil Sl.nil Sl.nil ⟨if 0 > bools then 0 else bools, if 0 > reals then 0 else reals, [], []⟩ → Ext h h' → Q (some a) h') : term_New bools reals h Q := by
  refine MP.new fun h1 m1 e1 s1 => m1.set fun h2 m2 k2 => m2.set fun h3 m3 k3 => ?_
  intro T
  have e2 : Ext h h2 := e1.fresh (Nat.le_refl _) k2
  have e3 : Ext h h3 := e2.fresh (Nat.le_refl _) k3
  have l3 := m3.lt
  have e4 := Ext.push h3 (.cells [Value.map (some h.size), Sl.toV Sl.nil, Sl.toV Sl.nil, Sl.toV Sl.nil].toArray T (0, 0))
  have cell : ∀ i v, [Value.map (some h.size), Sl.toV Sl.nil, Sl.toV Sl.nil, Sl.toV Sl.nil].toArray[i]? = some v → cell? (h3.push (.cells [Value.map (some h.size), Sl.toV Sl.nil, Sl.toV Sl.nil, Sl.toV Sl.nil].toArray T (0, 0))) ((⟨h3.size, 0, none⟩ : Addr).add i) = some v := by
    intro i v hv; rw [cell_push_new_add]; exact hv
  have frz : ∀ i, frozen? (h3.push (.cells [Value.map (some h.size), Sl.toV Sl.nil, Sl.toV Sl.nil, Sl.toV Sl.nil].toArray T (0, 0))) ((⟨h3.size, 0, none⟩ : Addr).add i) = false := by
    intro i; rw [addr_add _ _ rfl]; exact frozen_none (by simp; exact ⟨rfl, rfl⟩)
  refine K ⟨h3.size, 0, none⟩ h.size _ ?_ (e3.trans e4)
  have hl3 := e3.size
  exact
  { spot := rfl
    c0 := cell 0 _ rfl
    c1 := cell 1 _ rfl
    c2 := cell 2 _ rfl
    c3 := cell 3 _ rfl
    f1 := frz 1
    f2 := frz 2
    f3 := frz 3
    map := by
      refine MP.keep (o := none) ?_ e4 (by simp)
      obtain ⟨f, g1, g2⟩ := m3
      refine ⟨f, g1, fun k => ?_⟩
      rw [g2 k]
      unfold unk
      dsimp only
      by_cases e : k = 2
      · subst e; simp
      · by_cases e' : k = 1
        · subst e'; simp
        · simp [e, e']
    n1 := ⟨rfl, [], by rw [show Sl.sc 6 Sl.nil = Sl.nil by simp [Sl.sc, Sl.nil]]; exact Own.nil⟩
    s2 := Own.nil
    g3 := Own.nil
    gl := rfl
    few := Nat.zero_le _
    ma := by show h.size ≠ h3.size; omega
    m1 := nofun
    m2 := nofun
    m3 := nofun
    a1 := nofun
    a2 := nofun
    a3 := nofun
    d12 := nofun
    d13 := nofun
    d23 := nofun
    za := by show h.size ≤ h3.size; omega
    zm := Nat.le_refl _
    z1 := nofun
    z2 := nofun
    z3 := nofun
    zn := fun b hb => by have := e4.size; omega }
theorem XR.none {b : Bool} : XR h (b, Sl.nil, Sl.nil) [] [] := ⟨R.nil, Lim.nil, R.nil, Lim.nil⟩
end Go.Sh
