/-
  Laws that the proof of this claim's statement leans on, each proved under the conditions that it states.
-/
import Derived.Test.YtggiiigffkohmaaDoorFwD
import Derived.Laws.BitsLemmas
import Derived.WalkKit
import Derived.ProofKit
import Derived.OpenShut
import Derived.ShutString
import Derived.ChangeOld
import Derived.Below
import GoSem.Claim
import Derived.LaidMore
import Derived.LaidHandle
import Derived.MakeChecks
import Derived.Lay
import Derived.Lib.LaidU8
import Derived.Lib.LaidTab
import Derived.Deep.DeepHandedRow
import Derived.Shelf.Vars
set_option linter.unusedVariables false
set_option linter.unusedSimpArgs false
namespace Go.Lift
def val (b : Nat) : List Nat → Nat
  | [] => 0
  | x :: xs => x + b * val b xs
def Lim (b : Nat) (xs : List Nat) : Prop := ∀ x ∈ xs, x < b
def Nrm (xs : List Nat) : Prop := xs.getLast? ≠ some 0
theorem val_nil (b : Nat) : val b [] = 0 := rfl
theorem val_append (b : Nat) : ∀ xs ys : List Nat, val b (xs ++ ys) = val b xs + b ^ xs.length * val b ys := by
  intro xs ys
  induction xs with
  | nil => simp [val]
  | cons x xs ih =>
    simp only [List.cons_append, val, ih, List.length_cons, Nat.pow_succ]
    rw [Nat.mul_add, ← Nat.mul_assoc, Nat.mul_comm b (b ^ xs.length), Nat.add_assoc]
theorem val_snoc (b : Nat) (xs : List Nat) (x : Nat) : val b (xs ++ [x]) = val b xs + b ^ xs.length * x := by
  rw [val_append]; simp [val]
theorem val_lt {b : Nat} {xs : List Nat} (h : Lim b xs) : val b xs < b ^ xs.length := by
  induction xs with
  | nil => simp [val]
  | cons x xs ih =>
    have hx : x < b := h x (by simp)
    have := ih (fun y hy => h y (by simp [hy]))
    simp only [val, List.length_cons, Nat.pow_succ]
    have h2 : b * (val b xs + 1) ≤ b * b ^ xs.length := Nat.mul_le_mul_left _ this
    rw [Nat.mul_add, Nat.mul_one] at h2
    rw [Nat.mul_comm (b ^ xs.length) b]
    omega
theorem Lim.append {b : Nat} {xs ys : List Nat} (h : Lim b xs) (k : Lim b ys) : Lim b (xs ++ ys) := by
  intro x hx
  rcases List.mem_append.1 hx with hx | hx
  · exact h x hx
  · exact k x hx
theorem Lim.snoc {b : Nat} {xs : List Nat} {x : Nat} (h : Lim b xs) (k : x < b) : Lim b (xs ++ [x]) := h.append (by intro y hy; simp at hy; omega)
theorem Lim.take {b : Nat} {xs : List Nat} (h : Lim b xs) (n : Nat) : Lim b (xs.take n) := fun x hx => h x (List.mem_of_mem_take hx)
theorem Lim.get {b : Nat} {xs : List Nat} (h : Lim b xs) {i : Nat} (hi : i < xs.length) : xs[i] < b := h _ (List.getElem_mem hi)
theorem Lim.nil {b : Nat} : Lim b [] := fun x hx => by cases hx
theorem Lim.set {b : Nat} {xs : List Nat} (h : Lim b xs) (i : Nat) {x : Nat} (k : x < b) : Lim b (xs.set i x) := by
  intro y hy
  rcases List.mem_or_eq_of_mem_set hy with hy | rfl
  · exact h y hy
  · exact k
theorem Nrm.nil : Nrm [] := by simp [Nrm]
theorem Nrm.tail {x : Nat} {xs : List Nat} (h : Nrm (x :: xs)) : Nrm xs := by
  unfold Nrm at *
  cases xs with
  | nil => simp
  | cons y ys => simpa [List.getLast?_cons_cons] using h
theorem val_zero {b : Nat} (hb : 0 < b) : ∀ {xs : List Nat}, Nrm xs → val b xs = 0 → xs = [] := by
  intro xs
  induction xs with
  | nil => intro _ _; rfl
  | cons x xs ih =>
    intro hn hv
    simp only [val] at hv
    have hx : x = 0 := by omega
    have hv2 : b * val b xs = 0 := by omega
    have : val b xs = 0 := by
      rcases Nat.mul_eq_zero.1 hv2 with h | h
      · omega
      · exact h
    have hxs := ih hn.tail this
    subst hxs hx
    simp [Nrm] at hn
theorem val_inj {b : Nat} (hb : 0 < b) : ∀ {xs ys : List Nat}, Lim b xs → Lim b ys → Nrm xs → Nrm ys → val b xs = val b ys → xs = ys := by
  intro xs
  induction xs with
  | nil => intro ys _ _ _ hn hv; exact (val_zero hb hn (by rw [← hv]; rfl)).symm
  | cons x xs ih =>
    intro ys hx hy hn hm hv
    cases ys with
    | nil => exact val_zero hb hn (by rw [hv]; rfl)
    | cons y ys =>
      simp only [val] at hv
      have h1 : x < b := hx x (by simp)
      have h2 : y < b := hy y (by simp)
      have h3 : x = y := by
        have := congrArg (· % b) hv
        simp only [Nat.add_mul_mod_self_left, Nat.mod_eq_of_lt h1, Nat.mod_eq_of_lt h2] at this
        exact this
      subst h3
      have h4 : val b xs = val b ys := Nat.eq_of_mul_eq_mul_left hb (by omega)
      rw [ih (fun z hz => hx z (by simp [hz])) (fun z hz => hy z (by simp [hz])) hn.tail hm.tail h4]
theorem val_ge {b : Nat} (hb : 0 < b) : ∀ {xs : List Nat}, Nrm xs → xs ≠ [] → b ^ (xs.length - 1) ≤ val b xs := by
  intro xs
  induction xs with
  | nil => intro _ h; exact absurd rfl h
  | cons x xs ih =>
    intro hn _
    cases xs with
    | nil =>
      have : x ≠ 0 := by intro h; subst h; simp [Nrm] at hn
      simp [val]; omega
    | cons y ys =>
      have := ih hn.tail (by simp)
      simp only [val, List.length_cons, Nat.add_sub_cancel] at this ⊢
      rw [Nat.pow_succ, Nat.mul_comm]
      have := Nat.mul_le_mul_left b this
      omega
theorem len_le_of_val {b : Nat} (hb : 2 ≤ b) {xs : List Nat} (hn : Nrm xs) {n : Nat} (hv : val b xs < b ^ n) : xs.length ≤ n := by
  by_cases hx : xs = []
  · subst hx; simp
  · have := val_ge (b := b) (by omega) hn hx
    have h2 : b ^ (xs.length - 1) < b ^ n := by omega
    have := (Nat.pow_lt_pow_iff_right (by omega)).1 h2
    omega
theorem val_take_add {b : Nat} (xs : List Nat) (i : Nat) : val b xs = val b (xs.take i) + b ^ (min i xs.length) * val b (xs.drop i) := by
  have := val_append b (xs.take i) (xs.drop i)
  rw [List.take_append_drop] at this
  rw [this]
  simp
theorem val_take_succ {b : Nat} (xs : List Nat) (i : Nat) (hi : i < xs.length) : val b (xs.take (i + 1)) = val b (xs.take i) + b ^ i * xs[i] := by
  rw [List.take_succ_eq_append_getElem hi, val_snoc]
  simp [Nat.min_eq_left (Nat.le_of_lt hi)]
theorem val_drop {b : Nat} (xs : List Nat) (i : Nat) (hi : i < xs.length) : val b (xs.drop i) = xs[i] + b * val b (xs.drop (i + 1)) := by
  rw [List.drop_eq_getElem_cons hi]; rfl
theorem take_all_val {b : Nat} (xs : List Nat) (i : Nat) (hi : xs.length ≤ i) : val b (xs.take i) = val b xs := by rw [List.take_of_length_le hi]
theorem val_le_val_of_take {b : Nat} (xs : List Nat) (i : Nat) : val b (xs.take i) ≤ val b xs := by
  rw [val_take_add xs i]; omega
theorem val_replicate_zero (b n : Nat) : val b (List.replicate n 0) = 0 := by
  induction n with
  | zero => rfl
  | succ n ih => simp [List.replicate_succ, val, ih]
theorem val_take_zero {b : Nat} {xs : List Nat} (h : xs ≠ []) (hz : xs.getLast? = some 0) : val b (xs.take (xs.length - 1)) = val b xs := by
  have hl : 0 < xs.length := List.length_pos_iff.2 h
  have h1 := val_take_succ (b := b) xs (xs.length - 1) (by omega)
  rw [show xs.length - 1 + 1 = xs.length from by omega, List.take_length] at h1
  have : xs[xs.length - 1]'(by omega) = 0 := by
    rw [List.getLast?_eq_getElem?, List.getElem?_eq_getElem (by omega)] at hz
    simpa using hz
  rw [h1, this]; simp
theorem val_set {b : Nat} : ∀ (xs : List Nat) (i : Nat) (hi : i < xs.length) (y : Nat), val b (xs.set i y) + b ^ i * xs[i] = val b xs + b ^ i * y := by
  intro xs
  induction xs with
  | nil => intro i hi; simp at hi
  | cons x xs ih =>
    intro i hi y
    cases i with
    | zero => simp [val]; omega
    | succ i =>
      have hi' : i < xs.length := by simpa using hi
      simp only [List.set_cons_succ, val, List.getElem_cons_succ, Nat.pow_succ]
      have := ih i hi' y
      have h2 := congrArg (b * ·) this
      simp only [Nat.mul_add] at h2
      have e1 : b ^ i * b * xs[i] = b * (b ^ i * xs[i]) := by rw [Nat.mul_comm (b ^ i) b, Nat.mul_assoc]
      have e2 : b ^ i * b * y = b * (b ^ i * y) := by rw [Nat.mul_comm (b ^ i) b, Nat.mul_assoc]
      rw [e1, e2]
      omega
end Go.Lift

namespace Go.Lift
open Go
theorem w64 {n : Int} (h1 : -9223372036854775808 ≤ n) (h2 : n < 9223372036854775808) : IntKind.wrap .i64 n = n := by rw [IntKind.wrap_i64]; omega
theorem wu64 {n : Int} (h1 : 0 ≤ n) (h2 : n < 18446744073709551616) : IntKind.wrap .u64 n = n := by
  have : IntKind.wrap .u64 n = n % 18446744073709551616 := rfl
  rw [this]; omega
theorem wu64m (n : Int) : IntKind.wrap .u64 n = n % 18446744073709551616 := rfl
theorem wu32m (n : Int) : IntKind.wrap .u32 n = n % 4294967296 := rfl
theorem wu32 {n : Int} (h1 : 0 ≤ n) (h2 : n < 4294967296) : IntKind.wrap .u32 n = n := by rw [wu32m]; omega
theorem wu8m (n : Int) : IntKind.wrap .u8 n = n % 256 := rfl
theorem wu8 {n : Int} (h1 : 0 ≤ n) (h2 : n < 256) : IntKind.wrap .u8 n = n := by rw [wu8m]; omega
abbrev RI (k : IntKind) (h : Heap) (s : Sl) (xs : List Nat) : Prop := R (fun n : Nat => Value.int k (n : Int)) h s xs
abbrev OwnI (k : IntKind) (B : Nat) (h : Heap) (s : Sl) (xs : List Nat) : Prop := Own (fun n : Nat => Value.int k (n : Int)) B h s xs
theorem RI.ld {kd : IntKind} {h : Heap} {s : Sl} {xs : List Nat} (hr : RI kd h s xs) {i : Int} {j : Nat} {k : Int → Prop} (hij : i = (j : Int)) (h1 : j < xs.length) (K : k (xs[j] : Nat)) : idxS s i 1 fun a => Lift.load (Value.int kd) a h k := by
  subst hij
  obtain ⟨a, ha, hc⟩ := hr.get h1
  have := hr.len
  refine ⟨a, ha, ⟨by omega, by omega⟩, ?_⟩
  refine ⟨_, ?_, K⟩
  simpa using hc
theorem one_int (k : IntKind) (n : Nat) : one (Value.int k (n : Int)) = true := rfl
end Go.Lift

namespace Go.Lift
open Go Go.RowKit
def IsRow (k : IntKind) (w : World) (a : Option Addr) (len cap : Nat) (zs : List Int) : Prop :=
  (a = none ∧ len = 0 ∧ cap = 0 ∧ zs = []) ∨
  ∃ x, a = some x ∧ len ≤ cap ∧ cap ≤ maxLen ∧ zs.length = cap ∧ (∀ i, i < zs.length → w.cell? (x.add i) = some (.int k (zs.getD i 0))) ∧ ∀ n ∈ zs, (Lit.int k n).wf = true
theorem IsRow.r {k : IntKind} {w : World} {a : Option Addr} {len cap : Nat} {zs : List Int} (h : IsRow k w a len cap zs) :
    R (fun n : Int => Value.int k n) w.heap ⟨a, len, cap⟩ (zs.take len) ∧ len = (zs.take len).length ∧ len ≤ maxLen ∧ ∀ n ∈ zs.take len, (Lit.int k n).wf = true := by
  rcases h with ⟨rfl, rfl, rfl, rfl⟩ | ⟨x, rfl, hl, hm, hz, hc, hw⟩
  · exact ⟨R.nil, rfl, Nat.zero_le _, fun n hn => by simp at hn⟩
  · have hlen : len = (zs.take len).length := by simp; omega
    refine ⟨R.mk' hlen hl x rfl (fun i hi => ?_), hlen, Nat.le_trans hl hm, fun n hn => hw n (List.mem_of_mem_take hn)⟩
    have hi' : i < zs.length := by simp at hi; omega
    have := hc i hi'
    rw [cell_w] at this
    rw [this]
    simp [hi']
theorem IsRow.ri {k : IntKind} {w : World} {a : Option Addr} {len cap : Nat} {zs : List Int} {m : Nat} (h : IsRow k w a len cap zs) (h0 : k.min = 0) (hm : k.max = (m : Int)) :
    ∃ xs : List Nat, RI k w.heap ⟨a, len, cap⟩ xs ∧ Lim (m + 1) xs ∧ len = xs.length ∧ len ≤ maxLen := by
  obtain ⟨hr, hl, hle, hw⟩ := h.r
  have hw2 : ∀ n ∈ zs.take len, 0 ≤ n ∧ n ≤ m := by
    intro n hn
    have := hw n hn
    simp only [Lit.wf, Bool.and_eq_true, decide_eq_true_eq] at this
    rw [h0, hm] at this
    exact this
  refine ⟨(zs.take len).map Int.toNat, ⟨by simpa using hr.len, hr.cap, ?_⟩, ?_, by simpa using hl, hle⟩
  · rw [hr.cells, List.map_map]
    simp only [Option.some.injEq]
    apply List.map_congr_left
    intro n hn
    have := hw2 n hn
    simp only [Function.comp]
    congr 1
    omega
  · intro z hz
    simp only [List.mem_map] at hz
    obtain ⟨n, hn, rfl⟩ := hz
    have := hw2 n hn
    omega
theorem post_below {w w' : World} {e : Ending} (h : Post ⟨w, w.heap⟩ Value.bool (fun r h => r = true ∧ Ext w.heap h) e w') : e = .returned (.bool true) ∧ Below w.heap.size w w' := by
  obtain ⟨r, m, rfl, hs, rfl, he⟩ := h
  refine ⟨rfl, ⟨hs.os, hs.tape, hs.out, ?_, fun k hk => ?_⟩⟩
  · have := he.size; have := hs.rel.size; simp only at this; omega
  · have h1 := he.same k hk (by simp)
    rcases hs.rel.same k with h2 | h2
    · simp only at h2
      rw [h1] at h2
      exact (hs.keep k h2).2
    · simp only at h2
      rw [h2, h1]
theorem wf_i64 {n : Int} (h : (Lit.int .i64 n).wf = true) : -9223372036854775808 ≤ n ∧ n ≤ 9223372036854775807 := by
  simp only [Lit.wf, Bool.and_eq_true, decide_eq_true_eq] at h
  exact h
theorem wf_u64 {n : Int} (h : (Lit.int .u64 n).wf = true) : 0 ≤ n ∧ n ≤ 18446744073709551615 := by
  simp only [Lit.wf, Bool.and_eq_true, decide_eq_true_eq] at h
  exact h
end Go.Lift

namespace Go.Lift
open Go Go.RowKit
theorem tab_of_laid {P : Program} {W : World} {name : String} {g : Nat} {t e n : Nat} {kd : IntKind} {ns : List Nat} (hg : P.globalNamed name = some g) (ht : (P.globals[g]?).map (·.type) = some t)
    (hu : P.underlying t = some (.array n e)) (hue : P.underlying e = some (.int kd)) (hce : P.cellsOf e = 1) (hlen : ns.length = n)
    (h : laidMet P [(name, .agg (ns.map fun k : Nat => .lit (.int kd (k : Int))))] W) : RI kd W.heap ⟨some ⟨g, 0, none⟩, n, n⟩ ns := by
  obtain ⟨ps, ⟨g0, t0, cs0, f0, p0, q0, hg0, ht0, hv0, hd0, _, _⟩, _, _⟩ := h
  obtain rfl := Option.some.inj (hg.symm.trans hg0)
  obtain rfl := Option.some.inj (ht.symm.trans ht0)
  obtain ⟨xs, m, rfl, hx, hlen2, hn, hel⟩ := DataW.trod_array hu hd0
  simp only [Prod.mk.injEq, DataW.agg.injEq] at hx
  refine R.mk' hlen.symm (Nat.le_refl _) ⟨g, 0, none⟩ rfl (fun i hi => ?_)
  have hin : i < n := by omega
  have h1 := hel i hin
  rw [hce, Nat.mul_one] at h1
  have hxi : i < xs.length := by omega
  rw [List.getElem?_eq_getElem hxi] at h1
  obtain ⟨k, e1, e2, _⟩ := DataW.trod_int hue h1
  have h2 : xs[i].1 = .lit (.int kd ((ns[i] : Nat) : Int)) := by
    have := congrArg (fun l => l[i]?) hx.1
    simp [hxi, hi] at this
    exact this.symm
  rw [e2] at h2
  simp only [DataW.lit.injEq, Lit.int.injEq, true_and] at h2
  subst h2
  have h3 := World.var?_cell hg hv0 i
  rw [addr_add _ _ rfl, ← cell_w]
  simp only [Nat.zero_add]
  rw [h3]
  have h4 := congrArg (fun l => l[0]?) e1
  simp [List.getElem?_take, List.getElem?_drop] at h4
  exact h4
end Go.Lift

namespace Go.Lift
open Go Go.RowKit
inductive Shape where
  | nil
  | bool
  | int (k : IntKind)
  | str
  | slice (e : Shape)
  | ptr (e : Shape)
  | cat (a b : Shape)
  deriving DecidableEq
def Shape.size : Shape → Nat
  | .nil => 0
  | .cat a b => a.size + b.size
  | _ => 1
structure Rows? (h : Heap) (sz : Nat) (s : Sl) (rows : List (List Value)) : Prop where
  len : s.len = rows.length
  cap : s.len ≤ s.cap
  max : s.cap ≤ maxLen
  cells : ∀ i (hi : i < rows.length), ∃ a, s.a = some a ∧ cells? h (a.add (i * sz)) sz 0 = some rows[i]
def Shape.Is (h : Heap) : Shape → List Value → Prop
  | .nil, cs => cs = []
  | .bool, cs => ∃ b, cs = [.bool b]
  | .int k, cs => ∃ n, cs = [.int k n] ∧ (Lit.int k n).wf = true
  | .str, cs => ∃ s, cs = [.string s] ∧ s.size ≤ maxLen
  | .slice e, cs => ∃ s : Sl, ∃ rows, cs = [Sl.toV s] ∧ Rows? h e.size s rows ∧ ∀ r ∈ rows, e.Is h r
  | .ptr e, cs => ∃ a : Option Addr, cs = [.pointer a] ∧ ∀ x, a = some x → ∃ r, cells? h x e.size 0 = some r ∧ e.Is h r
  | .cat a b, cs => ∃ l r, cs = l ++ r ∧ a.Is h l ∧ b.Is h r
def fieldsOf (P : Program) (g : TypeId → Option Shape) : Nat → List Field → Option Shape
  | _, [] => some .nil
  | off, f :: fs => if f.offset = off then (g f.type).bind fun a => if a.size = P.cellsOf f.type then (fieldsOf P g (off + P.cellsOf f.type) fs).map (.cat a) else none else none
def timesOf (a : Shape) : Nat → Shape
  | 0 => .nil
  | n + 1 => .cat a (timesOf a n)
def shapeOf (P : Program) : Nat → TypeId → Option Shape
  | 0, _ => none
  | n + 1, t =>
    match P.underlying t with
    | some .bool => some .bool
    | some (.int k) => some (.int k)
    | some .string => some .str
    | some (.slice e) => (shapeOf P n e).bind fun s => if s.size = P.cellsOf e then some (.slice s) else none
    | some (.pointer e) => (shapeOf P n e).bind fun s => if s.size = P.cellsOf e then some (.ptr s) else none
    | some (.struct fs) => (fieldsOf P (shapeOf P n) 0 fs.toList).bind fun s => if s.size = P.cellsOf t then some s else none
    | some (.array m e) => (shapeOf P n e).bind fun s => if s.size = P.cellsOf e ∧ m * s.size = P.cellsOf t then some (timesOf s m) else none
    | _ => none
theorem Shape.Is.length {h : Heap} : ∀ {s : Shape} {cs : List Value}, s.Is h cs → cs.length = s.size
  | .nil, cs, H => by rw [show cs = [] from H]; rfl
  | .bool, cs, H => by obtain ⟨b, rfl⟩ := H; rfl
  | .int k, cs, H => by obtain ⟨n, rfl, _⟩ := H; rfl
  | .str, cs, H => by obtain ⟨n, rfl, _⟩ := H; rfl
  | .slice e, cs, H => by obtain ⟨n, _, rfl, _⟩ := H; rfl
  | .ptr e, cs, H => by obtain ⟨n, rfl, _⟩ := H; rfl
  | .cat a b, cs, H => by
    obtain ⟨l, r, rfl, hl, hr⟩ := H
    simp [Shape.size, Shape.Is.length hl, Shape.Is.length hr]
theorem cells_of_world {w : World} {base : Nat} {a : Addr} {n : Nat} {cs : List Value} (h : w.cells? base a n = some cs) : cells? w.heap a n 0 = some cs := by
  have hm := World.cells?_some h
  have : ∀ m i, i + m = n → cells? w.heap a m i = some (cs.drop i) := by
    intro m
    induction m with
    | zero => intro i hi; simp only [cells?]; rw [List.drop_eq_nil_of_le]; have := hm.2.1; omega
    | succ m ih =>
      intro i hi
      have hlt : i < cs.length := by have := hm.2.1; omega
      simp only [cells?, ih (i + 1) (by omega)]
      have hc := hm.2.2 i (by omega)
      rw [cell_w] at hc
      rw [hc, List.getElem?_eq_getElem hlt]
      simp
  simpa using this n 0 (by omega)
section
variable {H : Type} {enc : TypeId × Value → H} {P : Program} {w : World} {base : Nat} {spare : Nat → Bool} {held : Bool}
theorem trod_ptr {fuel : Nat} {t e : TypeId} {cs : List Value} {x : DataW H × List MemPlace} (ht : P.underlying t = some (.pointer e)) (h : DataW.trod enc P w base spare held fuel t cs = some x) :
    cs = [.pointer none] ∨ ∃ a n l y, cs = [.pointer (some a)] ∧ w.cells? base a (P.cellsOf e) = some l ∧ DataW.trod enc P w base spare held n e l = some y := by
  cases fuel with
  | zero => simp [DataW.trod] at h
  | succ n =>
    unfold DataW.trod at h
    rw [ht] at h
    split at h
    case h_5 => exact .inl rfl
    case h_6 =>
      rename_i e' a h1
      cases h1
      obtain ⟨y, h1, h2⟩ := Option.map_eq_some_iff.1 h
      obtain ⟨l, h3, h4⟩ := Option.bind_eq_some_iff.1 h1
      exact .inr ⟨a, n, l, y, rfl, h3, h4⟩
    all_goals simp_all
theorem fields_is {g : TypeId → Option Shape} {n : Nat} {cs : List Value} {xs : List (DataW H × List MemPlace)}
    (hg : ∀ t s cs x, g t = some s → DataW.trod enc P w base spare held n t cs = some x → s.Is w.heap cs) :
    ∀ (fs : List Field) (k off : Nat) (s : Shape), fieldsOf P g off fs = some s → (∀ (i : Nat) (f : Field), fs[i]? = some f → DataW.trod enc P w base spare held n f.type ((cs.drop f.offset).take (P.cellsOf f.type)) = xs[k + i]?) →
      k + fs.length ≤ xs.length → cs.length = off + s.size → s.Is w.heap (cs.drop off) := by
  intro fs
  induction fs with
  | nil =>
    intro k off s hs _ _ hc
    simp only [fieldsOf, Option.some.injEq] at hs
    subst hs
    simp only [Shape.size] at hc
    exact List.drop_eq_nil_of_le (by omega)
  | cons f fs ih =>
    intro k off s hs hx hk hc
    unfold fieldsOf at hs
    by_cases ho : f.offset = off
    case neg => rw [if_neg ho] at hs; cases hs
    rw [if_pos ho] at hs
    obtain ⟨a, ha, h1⟩ := Option.bind_eq_some_iff.1 hs
    by_cases h2 : a.size = P.cellsOf f.type
    case neg => rw [if_neg h2] at h1; cases h1
    rw [if_pos h2] at h1
    obtain ⟨b, hb, rfl⟩ := Option.map_eq_some_iff.1 h1
    simp only [Shape.size] at hc
    have h0 := hx 0 f rfl
    simp only [List.length_cons] at hk
    rw [Nat.add_zero, List.getElem?_eq_getElem (by omega), ho] at h0
    refine ⟨(cs.drop off).take (P.cellsOf f.type), cs.drop (off + P.cellsOf f.type), ?_, hg _ _ _ _ ha h0, ?_⟩
    · rw [← List.drop_drop, List.take_append_drop]
    · refine ih (k + 1) _ b hb (fun i f' hf' => ?_) (by omega) (by omega)
      have := hx (i + 1) f' (by simpa using hf')
      rw [this]; congr 1; omega
theorem times_is {s : Shape} {n : Nat} {e : TypeId} {cs : List Value} {xs : List (DataW H × List MemPlace)} (hs : s.size = P.cellsOf e)
    (hg : ∀ cs x, DataW.trod enc P w base spare held n e cs = some x → s.Is w.heap cs) :
    ∀ (m k : Nat), (∀ i, i < m → DataW.trod enc P w base spare held n e ((cs.drop ((k + i) * P.cellsOf e)).take (P.cellsOf e)) = xs[k + i]?) →
      k + m ≤ xs.length → cs.length = (k + m) * s.size → (timesOf s m).Is w.heap (cs.drop (k * s.size)) := by
  intro m
  induction m with
  | zero => intro k _ _ hc; exact List.drop_eq_nil_of_le (by rw [hc]; simp)
  | succ m ih =>
    intro k hx hk hc
    have h0 := hx 0 (by omega)
    rw [Nat.add_zero, List.getElem?_eq_getElem (by omega)] at h0
    refine ⟨(cs.drop (k * s.size)).take s.size, cs.drop ((k + 1) * s.size), ?_, ?_, ?_⟩
    · rw [Nat.add_mul, Nat.one_mul, ← List.drop_drop, List.take_append_drop]
    · rw [hs]; exact hg _ _ h0
    · refine ih (k + 1) (fun i hi => ?_) (by omega) (by rw [hc]; congr 1; omega)
      have := hx (i + 1) (by omega)
      rw [show k + 1 + i = k + (i + 1) by omega]
      exact this
theorem shape_is : ∀ (n : Nat) {t : TypeId} {s : Shape} {fuel : Nat} {cs : List Value} {x : DataW H × List MemPlace}, shapeOf P n t = some s → DataW.trod enc P w base spare held fuel t cs = some x → s.Is w.heap cs := by
  intro n
  induction n with
  | zero => intro t s fuel cs x hs; simp [shapeOf] at hs
  | succ n ih =>
    intro t s fuel cs x hs h
    unfold shapeOf at hs
    split at hs
    · rename_i ht
      simp only [Option.some.injEq] at hs
      subst hs
      cases fuel with
      | zero => simp [DataW.trod] at h
      | succ m => unfold DataW.trod at h; rw [ht] at h; split at h <;> simp_all [Shape.Is]
    · rename_i k ht
      simp only [Option.some.injEq] at hs
      subst hs
      obtain ⟨m, h1, _, h3⟩ := DataW.trod_int ht h
      exact ⟨m, h1, h3⟩
    · rename_i ht
      simp only [Option.some.injEq] at hs
      subst hs
      cases fuel with
      | zero => simp [DataW.trod] at h
      | succ m => unfold DataW.trod at h; rw [ht] at h; split at h <;> simp_all [Shape.Is]
    · rename_i e ht
      simp only [Option.bind_eq_some_iff] at hs
      obtain ⟨a, ha, h2⟩ := hs
      split at h2 <;> simp at h2
      rename_i hsz
      subst h2
      rcases DataW.trod_slice ht h with ⟨rfl, _⟩ | ⟨b, len, cap, elems, rest, m, _, rfl, _, hb, hl, hm, hlen, hel, _⟩
      · exact ⟨⟨none, 0, 0⟩, [], rfl, ⟨rfl, Nat.le_refl _, Nat.zero_le _, fun i hi => by simp at hi⟩, fun r hr => by simp at hr⟩
      have hc : ∀ i, i < len → ∃ l y, w.cells? base (b.add (i * P.cellsOf e)) (P.cellsOf e) = some l ∧ DataW.trod enc P w base spare held m e l = some y := by
        intro i hi
        have := hel i hi
        rw [List.getElem?_eq_getElem (by omega)] at this
        obtain ⟨l, h3, h4⟩ := Option.bind_eq_some_iff.1 this
        exact ⟨l, _, h3, h4⟩
      refine ⟨⟨some b, len, cap⟩, (List.range len).map fun i => ((w.cells? base (b.add (i * P.cellsOf e)) (P.cellsOf e)).getD []), rfl, ⟨by simp, hl, hm, fun i hi => ?_⟩, fun r hr => ?_⟩
      · simp at hi
        obtain ⟨l, y, h3, h4⟩ := hc i hi
        refine ⟨b, rfl, ?_⟩
        simp only [List.getElem_map, List.getElem_range, h3, Option.getD_some]
        rw [hsz]
        exact cells_of_world h3
      · simp only [List.mem_map, List.mem_range] at hr
        obtain ⟨i, hi, rfl⟩ := hr
        obtain ⟨l, y, h3, h4⟩ := hc i hi
        rw [h3]
        exact ih ha h4
    · rename_i e ht
      simp only [Option.bind_eq_some_iff] at hs
      obtain ⟨a, ha, h2⟩ := hs
      split at h2 <;> simp at h2
      rename_i hsz
      subst h2
      rcases trod_ptr ht h with rfl | ⟨b, m, l, y, rfl, h3, h4⟩
      · exact ⟨none, rfl, fun x hx => by simp at hx⟩
      · exact ⟨some b, rfl, fun x hx => by cases hx; exact ⟨l, by rw [hsz]; exact cells_of_world h3, ih ha h4⟩⟩
    · rename_i fs ht
      simp only [Option.bind_eq_some_iff] at hs
      obtain ⟨a, ha, h2⟩ := hs
      split at h2 <;> simp at h2
      rename_i hsz
      subst h2
      obtain ⟨xs, m, rfl, _, hl, hn, hf⟩ := DataW.trod_struct ht h
      have := fields_is (n := m) (xs := xs) (cs := cs) (fun t s cs x h1 h2 => ih h1 h2) fs.toList 0 0 a ha (fun i f hf' => by simpa using hf i f (by simpa using hf')) (by simp; omega) (by omega)
      simpa using this
    · rename_i m e ht
      simp only [Option.bind_eq_some_iff] at hs
      obtain ⟨a, ha, h2⟩ := hs
      split at h2 <;> simp at h2
      rename_i hsz
      subst h2
      obtain ⟨xs, k, rfl, _, hl, hn, hf⟩ := DataW.trod_array ht h
      have := times_is (n := k) (e := e) (xs := xs) (cs := cs) hsz.1 (fun cs x h2 => ih ha h2) m 0 (fun i hi => by simpa using hf i hi) (by omega) (by rw [hl]; simp [hsz.2])
      simpa using this
    · simp at hs
theorem open_shape {n : Nat} {t : TypeId} {s : Shape} {v : Value} {d : DataW H} {ps : List MemPlace} (hs : shapeOf P n t = some s) (h : DataW.Trod enc P w base spare held t v d ps) : s.Is w.heap v.cells.toList := by
  obtain ⟨fuel, hf⟩ := h
  exact shape_is n hs hf
theorem okWide_struct {r : Reach} {b0 : Nat} {t : TypeId} {v : Value} {fs : Array Field} (ht : P.underlying t = some (.struct fs)) (hval : Value.okWide P w r b0 t v) : ∃ cs, v = .agg cs := by
  unfold Value.okWide at hval
  rw [ht] at hval
  obtain ⟨cs, h, _⟩ := hval
  exact ⟨cs, h⟩
theorem okWide_array {r : Reach} {b0 : Nat} {t : TypeId} {v : Value} {m : Nat} {e : TypeId} (ht : P.underlying t = some (.array m e)) (hval : Value.okWide P w r b0 t v) : ∃ cs, v = .agg cs := by
  unfold Value.okWide at hval
  rw [ht] at hval
  obtain ⟨cs, h, _⟩ := hval
  exact ⟨cs, h⟩
end
theorem is_ints {h : Heap} {k : IntKind} {cs : List Value} {m : Nat} (H : (Shape.slice (.int k)).Is h cs) (h0 : k.min = 0) (hm : k.max = (m : Int)) : ∃ s : Sl, ∃ xs : List Nat, cs = [Sl.toV s] ∧ RI k h s xs ∧ Lim (m + 1) xs ∧ s.cap ≤ maxLen := by
  obtain ⟨s, rows, rfl, hr, he⟩ := H
  have each : ∀ r ∈ rows, ∃ n : Nat, r = [.int k (n : Int)] ∧ n < m + 1 := by
    intro r hr
    obtain ⟨n, h1, h2⟩ := he r hr
    simp only [Lit.wf, Bool.and_eq_true, decide_eq_true_eq] at h2
    rw [h0, hm] at h2
    exact ⟨n.toNat, by rw [h1, Int.toNat_of_nonneg h2.1], by omega⟩
  refine ⟨s, rows.map fun r => match r with | [.int _ n] => n.toNat | _ => 0, rfl, ?_, ?_, hr.max⟩
  · rcases s with ⟨a, len, cap⟩
    cases a with
    | none =>
      have : rows = [] := by
        rcases rows with _ | ⟨r, l⟩
        · rfl
        · obtain ⟨a, ha, _⟩ := hr.cells 0 (by simp)
          simp at ha
      subst this
      have h1 := hr.len
      simp only [List.length_nil] at h1
      subst h1
      exact ⟨rfl, hr.cap, rfl⟩
    | some a =>
      refine R.mk' (by simpa using hr.len) hr.cap a rfl (fun i hi => ?_)
      simp at hi
      obtain ⟨a', ha, hc⟩ := hr.cells i hi
      simp only [Option.some.injEq] at ha
      subst ha
      obtain ⟨n, h1, _⟩ := each _ (List.getElem_mem hi)
      simp only [List.getElem_map, h1]
      rw [h1] at hc
      simp only [Shape.size, Nat.mul_one, cells?] at hc
      split at hc <;> simp at hc
      rename_i v r h3 h4
      obtain ⟨rfl, _⟩ := hc
      simpa [Addr.add] using h3
  · intro z hz
    simp only [List.mem_map] at hz
    obtain ⟨r, hr', rfl⟩ := hz
    obtain ⟨n, h1, h2⟩ := each r hr'
    rw [h1]
    simpa using h2
theorem is_u32 {h : Heap} {cs : List Value} (H : (Shape.slice (.int .u32)).Is h cs) : ∃ s : Sl, ∃ xs : List Nat, cs = [Sl.toV s] ∧ RI .u32 h s xs ∧ Lim 4294967296 xs := by
  obtain ⟨s, xs, h1, h2, h3, _⟩ := is_ints (m := 4294967295) H rfl rfl
  exact ⟨s, xs, h1, h2, h3⟩
end Go.Lift

namespace Go.Lift
open Go Go.RowKit Go.Sh
theorem pow10uof_laid {P : Program} {W : World} {name : String} {t e n : Nat} {l : List (String × DataW Unit)} (hg : P.globalNamed name = some 0) (ht : (P.globals[0]?).map (·.type) = some t)
    (hu : P.underlying t = some (.array n e)) (hue : P.underlying e = some (.int .u64)) (hce : P.cellsOf e = 1) (hct : P.cellsOf t = n) (h : laidMet P l W) (hm : (name, Lib.tabData .u64 Lib.pow10Tab) ∈ l) : pow10H 0 W.heap := by
  obtain ⟨g0, t0, cs, fuel, p, hg0, ht0, hv, hd⟩ := Lib.laidMet.reads h hm
  obtain rfl := Option.some.inj (hg.symm.trans hg0)
  obtain rfl := Option.some.inj (ht.symm.trans ht0)
  have hc := Lib.cells_of_tab hu hue hce hct hd
  unfold World.var? at hv
  rw [hg, Option.bind_some] at hv
  split at hv
  · rename_i c T fr hh
    obtain rfl := Option.some.inj hv
    exact ⟨T, fr, by rw [hh, ← hc]⟩
  · cases hv
theorem err_of_laid {P : Program} {W : World} {name : String} {g t : Nat} {d : DataW Unit} {ms} {l : List (String × DataW Unit)} (hg : P.globalNamed name = some g) (ht : (P.globals[g]?).map (·.type) = some t)
    (hu : P.underlying t = some (.interface ms)) (h : laidMet P l W) (hm : (name, d) ∈ l) : errH g W.heap := by
  obtain ⟨g0, t0, cs, fuel, p, hg0, ht0, hv, hd⟩ := Lib.laidMet.reads h hm
  obtain rfl := Option.some.inj (hg.symm.trans hg0)
  obtain rfl := Option.some.inj (ht.symm.trans ht0)
  have hc := World.var?_cell hg hv 0
  have hx : cs.toList = [.nilIface] ∨ ∃ u v, cs.toList = [.iface u v] := by
    cases fuel with
    | zero => simp [DataW.trod] at hd
    | succ fuel =>
      simp only [DataW.trod, hu] at hd
      split at hd <;> first | cases hd | skip
      all_goals simp_all
  refine ⟨cs.toList[0]?.getD .nilIface, ?_, ?_⟩
  · show World.cell? W ⟨g, 0, none⟩ = _
    rw [hc]
    rcases hx with hx | ⟨u, v, hx⟩ <;> simp [← Array.getElem?_toList, hx]
  · rcases hx with hx | ⟨u, v, hx⟩
    · rw [hx]; exact .inl rfl
    · rw [hx]; exact .inr ⟨u, v, rfl⟩
theorem witness_zip {H : Type} {enc : TypeId × Value → H} {C : Checked} {os : Os} {f : FuncId} {fn : Func} {s : OpenSpec} {conds : List PathCond} {apart : Bool} {laid : List (String × DataW Unit)} (w0 : World) (args : Array Value) (hos : w0.os = os)
    (hv : (w0.forCall (fun _ _ => 0) ⟨#[], args, []⟩).Shaped C.prog)
    (hok : Input.okWideB C.prog (w0.forCall (fun _ _ => 0) ⟨#[], args, []⟩) f ⟨#[], args, []⟩ = true)
    (hrow : s.preRow enc C.prog fn conds apart laid (w0.forCall (fun _ _ => 0) ⟨#[], args, []⟩).memory args) :
    ∃ (w : World) (tape : Tape) (i : Input), w.os = os ∧ (w.forCall tape i).Shaped C.prog ∧ i.vars = [] ∧ Input.okWide C.prog (w.forCall tape i) .any w.heap.size f i ∧
      s.preRow enc C.prog fn conds apart laid (w.forCall tape i).memory i.args ∧ ({} : Assume).holds C.prog (lone (Frame.enter C.prog f i.args .normal) [] (w.forCall tape i)) :=
  ⟨w0, fun _ _ => 0, ⟨#[], args, []⟩, hos, hv, (Input.okWide_of_okWideB (base := 0) hok).1, (Input.okWide_of_okWideB hok).2, hrow, by
    simp only [Assume.holds]
    exact ⟨by simp, by simp, by simp, by simp, by simp⟩⟩
end Go.Lift
