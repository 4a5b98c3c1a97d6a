/-
  Laws that the proof of this claim's statement leans on, each proved under the conditions that it states.
-/
import Derived.Test.YtmcfhickfcmkkaaGreatDoorFwC
import Derived.Test.YtmcfhickfcmkkaaGreatDoorFwE
import Derived.Test.YtmcfhickfcmkkaaGreatDoorSh
set_option linter.unusedVariables false
set_option linter.unusedSimpArgs false
namespace Go.Sh.Cl
open Go Go.Lift
theorem ak {h : Heap} {k : Heap → Prop} (K : ∀ h', Ext h h' → k h') : mem h k := fun h' e => K h' ⟨e.size, fun b hb _ => e.same b hb⟩
def at0 (l : List Int) (i : Nat) : Int := l.getD i 0
abbrev RJ (h : Heap) (s : Sl) (xs : List Int) : Prop := R (Value.int .i64) h s xs
theorem jV {xs : List Int} {j : Nat} (hj : j < xs.length) : at0 xs j = xs[j] := by
  unfold at0; rw [List.getD_eq_getElem?_getD, List.getElem?_eq_getElem hj]; rfl
theorem RJ.ld {h : Heap} {s : Sl} {xs : List Int} (hr : RJ h s xs) {i : Int} {j : Nat} {k : Int → Prop} (hij : i = (j : Int)) (hj : j < xs.length) (K : k (at0 xs j)) : idxS s i 1 fun a => Lift.load (Value.int .i64) a h k := by
  subst hij
  refine R.load hr (by omega) (by omega) ?_
  rw [jV hj] at K
  exact K
abbrev One := { v : Value // one v = true }
def Sl.sc (sz : Nat) (s : Sl) : Sl := ⟨s.a, s.len * sz, s.cap * sz⟩
def OwnV (h : Heap) (s : Sl) (l : List Value) : Prop := ∃ ys : List One, l = ys.map Subtype.val ∧ Own (Subtype.val : One → Value) 0 h s ys
theorem ad5 {l : List Value} (h : bT l = true) : ∃ ys : List One, l = ys.map Subtype.val := by
  induction l with
  | nil => exact ⟨[], rfl⟩
  | cons v l ih =>
    simp only [bT, List.all_cons, Bool.and_eq_true] at h
    obtain ⟨ys, rfl⟩ := ih h.2
    exact ⟨⟨v, h.1⟩ :: ys, rfl⟩
variable {h h' : Heap} {s : Sl} {l : List Value}
variable {ι : Type}
open Classical in
noncomputable def upd {β : Type} (x : ι → β) (i : ι) (s : β) : ι → β := fun j => if j = i then s else x j
structure NS (sc : ι → Nat) (h : Heap) (x : ι → Sl) (vs : ι → List Value) : Prop where
  own : ∀ i, OwnV h (Sl.sc (sc i) (x i)) (vs i)
  inj : ∀ i j b, (x i).blk = some b → (x j).blk = some b → i = j
variable {sc : ι → Nat} {x x' : ι → Sl} {vs : ι → List Value} {p : Addr} {n : Nat}
structure To (p : Addr) (n : Nat) (h : Heap) (x : ι → Sl) (h' : Heap) (x' : ι → Sl) : Prop where
  size : h.size ≤ h'.size
  same : ∀ b, b < h.size → b ≠ p.block → (∀ i, (x i).blk ≠ some b) → h'[b]? = h[b]?
  foot : ∀ i b, (x' i).blk = some b → (∃ j, (x j).blk = some b) ∨ h.size ≤ b
  root : ∀ a : Addr, a.block = p.block → (a.off < p.off ∨ p.off + n ≤ a.off) → cell? h' a = cell? h a ∧ frozen? h' a = frozen? h a
def Out (p : Addr) (x : ι → Sl) (b : Nat) : Prop := b ≠ p.block ∧ ∀ i, (x i).blk ≠ some b
end Go.Sh.Cl

namespace Go.Cla
def atI (l : List Int) (i : Nat) : Int := l.getD i 0
def tr (l : Int) : Nat := l.natAbs - 1
def sg (l : Int) : Int := if l < 0 then -1 else 1
def There (n : Nat) (l : Int) : Prop := l ≠ 0 ∧ l ≤ (n : Int) ∧ -(n : Int) ≤ l
instance (n : Nat) (l : Int) : Decidable (There n l) := by unfold There; infer_instance
def vl (V : List Int) (l : Int) : Int := if There V.length l then atI V (tr l) * sg l else 0
theorem There.tr {n : Nat} {l : Int} (h : There n l) : tr l < n := by unfold There at h; unfold Cla.tr; omega
theorem al9 (l : Int) : sg l = 1 ∨ sg l = -1 := by unfold sg; split <;> simp
def Tri (V : List Int) : Prop := ∀ x ∈ V, x = -1 ∨ x = 0 ∨ x = 1
theorem afL {V : List Int} {i : Nat} (h : i < V.length) : atI V i ∈ V := by
  unfold atI; rw [List.getD_eq_getElem?_getD, List.getElem?_eq_getElem h]; exact List.getElem_mem h
theorem Tri.at {V : List Int} (h : Tri V) (i : Nat) : atI V i = -1 ∨ atI V i = 0 ∨ atI V i = 1 := by
  by_cases hi : i < V.length
  · exact h _ (afL hi)
  · right; left; unfold atI; rw [List.getD_eq_getElem?_getD, List.getElem?_eq_none (by omega)]; rfl
inductive Der (C : List Int → Prop) (T : Int → Prop) : Int → Prop
  | told {l : Int} : T l → Der C T l
  | unit {c : List Int} {l : Int} : C c → l ∈ c → (∀ m ∈ c, m ≠ l → Der C T (-m)) → Der C T l
def ang (V : List Int) (c : List Int) : Prop := (∃ l ∈ c, vl V l = 1) ∨ ∃ l ∈ c, ∃ m ∈ c, l ≠ m ∧ vl V l = 0 ∧ vl V m = 0
def aml (V : List Int) (c : List Int) : Prop := ∀ l ∈ c, vl V l = -1
end Go.Cla

namespace Go.Sh.Cl
open Go Go.Lift Go.Cla
inductive Nm where
  | cls | wat | val | lev | rea | tra | hea
  | w (i : Nat) | c (i : Nat) | x (i : Nat)
def Nm.sc : Nm → Nat
  | .cls => 3
  | _ => 1
structure Cl where
  lits : List Int
  learned : Bool
  use : Int
structure SS where
  cls : List Cl
  wat : List (List Int)
  val : List Int
  lev : List Int
  rea : List Int
  tra : List Int
  hea : List Int
  nxt : Nat
def SS.cl (S : SS) (i : Nat) : Cl := S.cls.getD i ⟨[], false, 0⟩
def SS.wt (S : SS) (w : Nat) : List Int := S.wat.getD w []
abbrev toI : Int → Value := Value.int .i64
theorem aa7 (l : List Int) (i : Nat) : at0 l i = atI l i := rfl
def amj (x : Nm → Sl) (nxt : Nat) : Nat → Value
  | 0 => Sl.toV (x .cls)
  | 1 => Sl.toV (x .wat)
  | 2 => Sl.toV (x .val)
  | 3 => Sl.toV (x .lev)
  | 4 => Sl.toV (x .rea)
  | 5 => Sl.toV (x .tra)
  | 6 => Sl.toV (x .hea)
  | _ => toI nxt
def alB (h : Heap) (p : Addr) (f : Nat → Value) : Prop := ∀ k, k < 8 → cell? h (p.add k) = some (f k) ∧ frozen? h (p.add k) = false
structure Enc (x : Nm → Sl) (vs : Nm → List Value) (S : SS) : Prop where
  val : vs .val = S.val.map toI
  lev : vs .lev = S.lev.map toI
  rea : vs .rea = S.rea.map toI
  tra : vs .tra = S.tra.map toI
  hea : vs .hea = S.hea.map toI
  wlen : (vs .wat).length = S.wat.length
  wr : ∀ i, i < S.wat.length → (vs .wat)[i]? = some (Sl.toV (x (.w i)))
  w : ∀ i, vs (.w i) = (S.wt i).map toI
  clen : (vs .cls).length = 3 * S.cls.length
  cr : ∀ i, i < S.cls.length → (vs .cls)[3 * i]? = some (Sl.toV (x (.c i))) ∧ (vs .cls)[3 * i + 1]? = some (Value.bool (S.cl i).learned) ∧ (vs .cls)[3 * i + 2]? = some (toI (S.cl i).use)
  c : ∀ i, vs (.c i) = (S.cl i).lits.map toI
structure SM (h : Heap) (p : Addr) (x : Nm → Sl) (vs : Nm → List Value) (S : SS) : Prop where
  ns : NS Nm.sc h x vs
  spot : p.spot = none
  root : alB h p (amj x S.nxt)
  pn : ∀ i, (x i).blk ≠ some p.block
  enc : Enc x vs S
variable {h h' : Heap} {p : Addr} {x : Nm → Sl} {vs : Nm → List Value} {S : SS} {n : Nat}
end Go.Sh.Cl

namespace Go.Sh.Cl
open Go Go.Lift Go.Cla
variable {h h' : Heap} {p : Addr} {x : Nm → Sl} {vs : Nm → List Value} {S : SS} {n : Nat}
def wch (l : Int) : Nat := if l > 0 then 2 * tr l else 2 * tr l + 1
theorem akg {l : Int} (h : There n l) : wch l < 2 * n := by have := h.tr; unfold wch; split <;> omega
theorem aln {l m : Int} (hl : l ≠ 0) (hm : m ≠ 0) (e : wch l = wch m) : l = m := by unfold wch tr at e; split at e <;> split at e <;> omega
theorem eK {l : Int} {Q : Int → Heap → Prop} (hl : There n l) (hn : n ≤ 1048576) (K : Q (tr l : Int) h) : aM l h Q := by
  unfold aM
  unfold There at hl
  rw [w64 (n := 0 - l) (by omega) (by omega)]
  have : (if 0 - l > l then 0 - l else l) - 1 = (tr l : Int) := by unfold tr; split <;> omega
  rw [this, w64 (by unfold tr; omega) (by unfold tr; omega)]
  exact K
theorem oU {l : Int} {Q : Int → Heap → Prop} (hl : l ≠ 0) (K : Q (sg l) h) : gG l h Q := by
  unfold gG
  have : (if (-1 : Int) > (if (1 : Int) < l then 1 else l) then -1 else (if (1 : Int) < l then 1 else l)) = sg l := by
    unfold sg; split <;> split <;> omega
  first | (rw [this]; exact K) | (simpa [this] using K)
theorem ag8 {l : Int} {Q : Int → Heap → Prop} (hl : There n l) (hn : n ≤ 1048576) (K : Q (wch l : Int) h) : fh l h Q := by
  have h1 := hl.tr
  unfold wch at K
  refine ⟨fun hp => eK hl hn ?_, fun hp => eK hl hn ?_⟩
  · simp only [decide_eq_true_eq] at hp
    rw [if_pos hp] at K
    rw [w64 (by omega) (by omega)]
    simpa using K
  · simp only [decide_eq_false_iff_not] at hp
    rw [if_neg hp] at K
    rw [w64 (n := 2 * (tr l : Int)) (by omega) (by omega), w64 (by omega) (by omega)]
    simpa using K
theorem aaX {a : Addr} {v : Sl} {l : Int} {Q : Bool → Heap → Prop} (hc : cell? h (a.add 2) = some (Sl.toV v)) (hl : v.len = n) (hn : n ≤ 1048576) (K : Q (decide (There n l)) h) : eS (some a) l h Q := by
  refine seq.cut (fun (b : Bool) h2 => h2 = h ∧ b = decide (There n l)) ?_ (fun b h2 ⟨e, hb⟩ => by subst e hb; exact K)
  refine ⟨fun h0 => ⟨a, rfl, v, hc, fun h1 => ⟨a, rfl, v, hc, rfl, ?_⟩, fun h1 => ⟨rfl, ?_⟩⟩, fun h0 => ⟨rfl, ?_⟩⟩
  · simp only [decide_eq_true_eq, bne_iff_ne, ne_eq] at h0 h1
    rw [hl, w64 (by omega) (by omega)]
    rw [decide_eq_decide]
    unfold There
    omega
  · simp only [decide_eq_false_iff_not] at h1
    have : ¬ There n l := by unfold There; omega
    simp [this]
  · have h0 : l = 0 := by simpa using h0
    have : ¬ There n l := by unfold There; omega
    simp [this]
abbrev S8 := Sl × Sl × Sl × Sl × Sl × Sl × Sl × Int
theorem agW {s : S8} {V : List Int} {l : Int} {Q : Int → Heap → Prop} (hV : RJ h s.2.2.1 V) (hn : V.length ≤ 1048576) (ht : Tri V) (K : ∀ h', Ext h h' → Q (vl V l) h') : gH s l h Q := by
  intro T
  have e := Ext.push h (.cells [Sl.toV s.1, Sl.toV s.2.1, Sl.toV s.2.2.1, Sl.toV s.2.2.2.1, Sl.toV s.2.2.2.2.1, Sl.toV s.2.2.2.2.2.1, Sl.toV s.2.2.2.2.2.2.1, Value.int .i64 s.2.2.2.2.2.2.2].toArray T (0, 0))
  have hc : cell? (h.push (.cells [Sl.toV s.1, Sl.toV s.2.1, Sl.toV s.2.2.1, Sl.toV s.2.2.2.1, Sl.toV s.2.2.2.2.1, Sl.toV s.2.2.2.2.2.1, Sl.toV s.2.2.2.2.2.2.1, Value.int .i64 s.2.2.2.2.2.2.2].toArray T (0, 0))) ((⟨h.size, 0, none⟩ : Addr).add 2) = some (Sl.toV s.2.2.1) := by
    rw [cO]; rfl
  generalize (h.push (.cells [Sl.toV s.1, Sl.toV s.2.1, Sl.toV s.2.2.1, Sl.toV s.2.2.2.1, Sl.toV s.2.2.2.2.1, Sl.toV s.2.2.2.2.2.1, Sl.toV s.2.2.2.2.2.2.1, Value.int .i64 s.2.2.2.2.2.2.2].toArray T (0, 0)) : Heap) = h1 at *
  have hV1 := R.ext hV e
  refine aaX hc hV1.len hn ⟨fun hno => ?_, fun hy => ?_⟩
  · have : ¬ There V.length l := by simpa using hno
    have K := K h1 e
    unfold vl at K
    rw [if_neg this] at K
    exact K
  · have hth : There V.length l := by simpa using hy
    refine ⟨s.2.2.1, hc, eK hth hn ⟨hc, ?_⟩⟩
    obtain ⟨a, ha, hca⟩ := hV1.get hth.tr
    refine ⟨a, ha, ⟨by omega, by have := hth.tr; have := hV1.len; omega⟩, ?_⟩
    simp only [Int.toNat_natCast, Nat.mul_one]
    refine ⟨_, hca, oU hth.1 ⟨hc, hca, ?_⟩⟩
    have K := K h1 e
    unfold vl at K
    rw [if_pos hth] at K
    have e2 : atI V (tr l) = V[tr l]'hth.tr := jV hth.tr
    rw [← e2]
    have h3 := ht.at (tr l)
    have h4 := al9 l
    rw [w64 (by rcases h3 with g | g | g <;> rcases h4 with k | k <;> rw [g, k] <;> decide) (by rcases h3 with g | g | g <;> rcases h4 with k | k <;> rw [g, k] <;> decide)]
    exact K
structure Mid (h h2 : Heap) (p : Addr) (x : Nm → Sl) (vs : Nm → List Value) (S : SS) (w : Nat) (v : Sl) (y : Int) : Prop where
  ns : NS Nm.sc h2 (upd x (.w w) v) (upd vs (.w w) ((S.wt w ++ [y]).map toI))
  root : alB h2 p (amj x S.nxt)
  to : To p 8 h x h2 (upd x (.w w) v)
  pn : ∀ i, (upd x (.w w) v i).blk ≠ some p.block
def addW (S : SS) (w : Nat) (y : Int) : SS := { S with wat := S.wat.set w (S.wt w ++ [y]) }
def putS (S : SS) (l r : Int) : SS := { S with val := S.val.set (tr l) (sg l), lev := S.lev.set (tr l) S.hea.length, rea := S.rea.set (tr l) r, tra := S.tra ++ [l] }
end Go.Sh.Cl

namespace Go.Sh.Cl
open Go Go.Lift Go.Cla
variable {h h' : Heap} {p : Addr} {x : Nm → Sl} {vs : Nm → List Value} {S : SS} {n : Nat}
def MPg {α : Type} (toV : α → Value) (h : Heap) (mp : Nat) (g : Int → Option α) : Prop := ∃ f : List (Int × α), ajy .i64 h (some mp) (vals toV f) ∧ ∀ k, f.lookup k = g k
section
variable {α : Type} {toV : α → Value} {mp : Nat} {g : Int → Option α}
theorem MPg.keep {o : Option Nat} (p : MPg toV h mp g) (k : Keep o h h') (hne : some mp ≠ o) : MPg toV h' mp g := by
  obtain ⟨f, ⟨es, c, h1, h2⟩, h3⟩ := p
  exact ⟨f, ⟨es, c, by rw [k.same mp (Array.getElem?_eq_some_iff.1 h1).1 hne]; exact h1, h2⟩, h3⟩
theorem MPg.lt (p : MPg toV h mp g) : mp < h.size := by
  obtain ⟨f, ⟨es, c, h1, h2⟩, h3⟩ := p
  exact (Array.getElem?_eq_some_iff.1 h1).1
theorem MPg.look (p : MPg toV h mp g) {key : Int} {zero : α} {k : α × Bool → Prop} (K : k ((g key).getD zero, (g key).isSome)) : adn .i64 toV zero (some mp) key h k := by
  obtain ⟨f, h1, h2⟩ := p
  refine ⟨f, _, h1, rfl, ?_⟩
  rw [h2 key]
  cases hg : g key with
  | none => rw [hg] at K; exact K
  | some v => rw [hg] at K; exact K
theorem MPg.set (p : MPg toV h mp g) {key : Int} {v : α} {k : Heap → Prop} (K : ∀ h', MPg toV h' mp (fun j => if j = key then some v else g j) → Keep (some mp) h h' → h'.size = h.size → k h') : setM .i64 toV (some mp) key v h k := by
  have hlt := p.lt
  obtain ⟨f, h1, h2⟩ := p
  refine ⟨mp, f, rfl, h1, fun es c he => K _ ⟨updM f key v, ⟨es, c, by simp [hlt], he⟩, fun j => ?_⟩ ⟨by simp, fun b hb hne => by rw [Array.getElem?_setIfInBounds_ne (fun e => hne (by rw [e]))]⟩ (by simp)⟩
  rw [yX, h2]
  by_cases e : j = key
  · subst e; simp
  · have : (j == key) = false := by simpa using e
    rw [this]; simp [e]
theorem MPg.new {k : Option Nat → Heap → Prop} (K : ∀ h', MPg toV h' h.size (fun _ => none) → Ext h h' → h'.size = h.size + 1 → k (some h.size) h') : newM h k :=
  K _ ⟨[], ⟨#[], 0, by simp, Ents.nil⟩, fun _ => rfl⟩ (Ext.push _ _) (by simp)
end
def FitsL (n : Nat) (L : List Int) : Prop := (∀ l ∈ L, There n l) ∧ (L.map tr).Nodup ∧ 2 ≤ L.length
def am5 (S : SS) (j : Nat) : SS := addW (addW S (wch (atI (S.cl j).lits 0)) j) (wch (atI (S.cl j).lits 1)) j
def addS (S : SS) (L : List Int) (b : Bool) : SS := am5 { S with cls := S.cls ++ [⟨L, b, 0⟩] } S.cls.length
end Go.Sh.Cl

namespace Go.Sh.Cl
open Go Go.Lift Go.Cla
theorem act {α : Type} [DecidableEq α] (l : List α) (a : α) : l.length = l.count a + (l.filter (fun x => !(x == a))).length := by
  induction l with
  | nil => rfl
  | cons x l ih =>
    rw [List.count_cons, List.filter_cons]
    by_cases e : x = a
    · subst e; simp; omega
    · have h1 : (x == a) = false := by simpa using e
      rw [h1]
      simp; omega
theorem acz {α : Type} [DecidableEq α] (f : Nat → α) : ∀ (N : Nat) (l : List α), (∀ y ∈ l, ∃ j, j < N ∧ y = f j) → (∀ j, j < N → l.count (f j) ≤ 1) → l.length ≤ N := by
  intro N
  induction N with
  | zero =>
    intro l h _
    cases l with
    | nil => simp
    | cons y l => obtain ⟨j, hj, _⟩ := h y (by simp); omega
  | succ N ih =>
    intro l h hc
    have h1 := act l (f N)
    have h2 := hc N (by omega)
    have h3 := ih (l.filter (fun x => !(x == f N))) (fun y hy => by
      obtain ⟨hm, hne⟩ := List.mem_filter.1 hy
      obtain ⟨j, hj, e⟩ := h y hm
      have hne : y ≠ f N := by simpa using hne
      have : j ≠ N := fun h => hne (by rw [e, h])
      exact ⟨j, by omega, e⟩) (fun j hj => by
      have h5 : (l.filter (fun x => !(x == f N))).count (f j) ≤ l.count (f j) := (List.filter_sublist).count_le _
      have := hc j (by omega); omega)
    omega
def lit (S : SS) (j i : Nat) : Int := atI (S.cl j).lits i
def aeK (S : SS) (j w : Nat) : Prop := wch (lit S j 0) = w ∨ wch (lit S j 1) = w
instance (S : SS) (j w : Nat) : Decidable (aeK S j w) := by unfold aeK; infer_instance
structure Wok (n : Nat) (S : SS) (W : Nat → List Int) : Prop where
  rng : ∀ w, w < 2 * n → ∀ y ∈ W w, ∃ j, j < S.cls.length ∧ y = (j : Int)
  cnt : ∀ w, w < 2 * n → ∀ j, j < S.cls.length → (W w).count (j : Int) = if aeK S j w then 1 else 0
structure Tok (n : Nat) (S : SS) : Prop where
  nb : n ≤ 1048576
  vn : S.val.length = n
  ln : S.lev.length = n
  rn : S.rea.length = n
  wn : S.wat.length = 2 * n
  tri : Tri S.val
  cn : S.cls.length ≤ 1073741824
  fit : ∀ j, j < S.cls.length → FitsL n (S.cl j).lits
  tt : ∀ l ∈ S.tra, There n l ∧ atI S.val (tr l) = sg l
  tn : (S.tra.map tr).Nodup
  tv : ∀ v, v < n → atI S.val v ≠ 0 → ∃ l ∈ S.tra, tr l = v
  nx : S.nxt ≤ S.tra.length
  hn : S.hea.length ≤ 1073741824
def ahZ (S : SS) (k : Nat) (l : Int) : Prop := ∃ q, q < S.tra.length ∧ atI S.tra q = l ∧ ∀ hd ∈ S.hea, (k : Int) < hd → (q : Int) < hd
def Proc (S : SS) (m : Nat) (ex : Nat → Nat → Prop) : Prop :=
  ∀ j, j < S.cls.length → ∀ k, k < m → ¬ ex j k → (atI S.tra k = - lit S j 0 → ahZ S k (lit S j 1)) ∧ (atI S.tra k = - lit S j 1 → ahZ S k (lit S j 0))
variable {n : Nat} {S : SS}
theorem ah1 {l : List Int} {y : Int} (h : y ∈ l) : ∃ q, q < l.length ∧ atI l q = y := by
  obtain ⟨i, hi, e⟩ := List.getElem_of_mem h
  exact ⟨i, hi, by rw [← e]; exact jV hi⟩
theorem ajE {l : List Int} (h : (l.map tr).Nodup) {i j : Nat} (hi : i < l.length) (hj : j < l.length) (e : tr (atI l i) = tr (atI l j)) : i = j := by
  have hp := List.pairwise_iff_getElem.1 h
  have g : ∀ k (hk : k < l.length), (l.map tr)[k]'(by simpa using hk) = tr (atI l k) := fun k hk => by
    rw [List.getElem_map]; congr 1; exact (jV hk).symm
  rcases Nat.lt_trichotomy i j with hlt | he | hlt
  · exact absurd ((g i hi).trans (e.trans (g j hj).symm)) (hp i j (by simpa using hi) (by simpa using hj) hlt)
  · exact he
  · exact absurd ((g j hj).trans (e.symm.trans (g i hi).symm)) (hp j i (by simpa using hj) (by simpa using hi) hlt)
theorem FitsL.at {j : Nat} (f : FitsL n (S.cl j).lits) {i : Nat} (hi : i < (S.cl j).lits.length) : There n (lit S j i) := f.1 _ (afL hi)
def amZ (l : List Int) (a b : Nat) : List Int := (l.set a (atI l b)).set b (atI l a)
def setL (S : SS) (j : Nat) (l : List Int) : SS := { S with cls := S.cls.set j { S.cl j with lits := l } }
end Go.Sh.Cl

namespace Go.Sh.Cl
open Go Go.Lift Go.Cla
variable {h h' : Heap} {p : Addr} {x : Nm → Sl} {vs : Nm → List Value} {S : SS} {n : Nat}
def fr (S : SS) (j : Nat) (gone : Int) : List Int := if lit S j 0 = gone then amZ (S.cl j).lits 0 1 else (S.cl j).lits
end Go.Sh.Cl

namespace Go.Sh.Cl
open Go Go.Lift Go.Cla
variable {n : Nat} {S S0 : SS} {j m : Nat} {gone : Int} {left rest : List Int}
def C0 (S0 : SS) (c : List Int) : Prop := ∃ j, j < S0.cls.length ∧ c = (S0.cl j).lits
structure Rsn (S0 : SS) (T R L V : List Int) : Prop where
  rs : ∀ q, S0.tra.length ≤ q → q < T.length → ∃ j, j < S0.cls.length ∧ atI R (tr (atI T q)) = (j : Int) ∧ atI T q ∈ (S0.cl j).lits ∧ ∀ m ∈ (S0.cl j).lits, m ≠ atI T q → ∃ q', q' < q ∧ atI T q' = -m
  rk : ∀ l ∈ S0.tra, atI R (tr l) = atI S0.rea (tr l) ∧ atI L (tr l) = atI S0.lev (tr l)
  lv : ∀ q, S0.tra.length ≤ q → q < T.length → atI L (tr (atI T q)) = (S0.hea.length : Int)
  un : ∀ v, atI V v = 0 → atI R v = atI S0.rea v ∧ atI L v = atI S0.lev v
structure RI (n : Nat) (S0 S : SS) : Prop where
  t : Tok n S
  cl : S.cls.length = S0.cls.length
  sl : ∀ j, j < S0.cls.length → ∀ l, l ∈ (S.cl j).lits ↔ l ∈ (S0.cl j).lits
  lu : ∀ j, (S.cl j).learned = (S0.cl j).learned ∧ (S.cl j).use = (S0.cl j).use
  der : ∀ l ∈ S.tra, Der (C0 S0) (fun l => vl S0.val l = 1) l
  pre : ∃ u, S.tra = S0.tra ++ u
  hea : S.hea = S0.hea
  why : Rsn S0 S.tra S.rea S.lev S.val
structure RIn (n : Nat) (S0 S : SS) (m : Nat) (gone : Int) (left rest : List Int) : Prop where
  ri : RI n S0 S
  nx : S.nxt = m + 1
  mt : m < S.tra.length
  ga : atI S.tra m = -gone
  gth : There n gone
  w : Wok n S (fun w => if w = wch gone then left ++ rest else S.wt w)
  we : S.wt (wch gone) = []
  p : Proc S (m + 1) (fun j k => k = m ∧ (j : Int) ∈ rest)
  hd : ∀ hd ∈ S.hea, hd ≤ (m : Int)
section
variable {rest' : List Int}
end
end Go.Sh.Cl
