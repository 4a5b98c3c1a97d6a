/-
  Laws that the proof of this claim's statement leans on, each proved under the conditions that it states.
-/
import Derived.Test.YtkjcocjkcjmafaaFwD
import Derived.WalkKit
import Derived.ProofKit
import Derived.OpenShut
import Derived.ShutString
import Derived.ChangeOld
import Derived.Below
import GoSem.Claim
import Derived.LaidMore
import Derived.LaidHandle
import Derived.MakeChecks
set_option linter.unusedVariables false
set_option linter.unusedSimpArgs false
namespace Go.Lift
open Go Go.RowKit
def IsRow (k : IntKind) (w : World) (a : Option Addr) (len cap : Nat) (zs : List Int) : Prop :=
  (a = none ∧ len = 0 ∧ cap = 0 ∧ zs = []) ∨
  ∃ x, a = some x ∧ len ≤ cap ∧ cap ≤ maxLen ∧ zs.length = cap ∧ (∀ i, i < zs.length → w.cell? (x.add i) = some (.int k (zs.getD i 0))) ∧ ∀ n ∈ zs, (Lit.int k n).wf = true
theorem IsRow.r {k : IntKind} {w : World} {a : Option Addr} {len cap : Nat} {zs : List Int} (h : IsRow k w a len cap zs) :
    R (fun n : Int => Value.int k n) w.heap ⟨a, len, cap⟩ (zs.take len) ∧ len = (zs.take len).length ∧ len ≤ maxLen ∧ ∀ n ∈ zs.take len, (Lit.int k n).wf = true := by
  rcases h with ⟨rfl, rfl, rfl, rfl⟩ | ⟨x, rfl, hl, hm, hz, hc, hw⟩
  · exact ⟨R.nil, rfl, Nat.zero_le _, fun n hn => by simp at hn⟩
  · have hlen : len = (zs.take len).length := by simp; omega
    refine ⟨R.mk' hlen hl x rfl (fun i hi => ?_), hlen, Nat.le_trans hl hm, fun n hn => hw n (List.mem_of_mem_take hn)⟩
    have hi' : i < zs.length := by simp at hi; omega
    have := hc i hi'
    rw [cell_w] at this
    rw [this]
    simp [hi']
theorem IsRow.ri {k : IntKind} {w : World} {a : Option Addr} {len cap : Nat} {zs : List Int} {m : Nat} (h : IsRow k w a len cap zs) (h0 : k.min = 0) (hm : k.max = (m : Int)) :
    ∃ xs : List Nat, RI k w.heap ⟨a, len, cap⟩ xs ∧ Lim (m + 1) xs ∧ len = xs.length ∧ len ≤ maxLen := by
  obtain ⟨hr, hl, hle, hw⟩ := h.r
  have hw2 : ∀ n ∈ zs.take len, 0 ≤ n ∧ n ≤ m := by
    intro n hn
    have := hw n hn
    simp only [Lit.wf, Bool.and_eq_true, decide_eq_true_eq] at this
    rw [h0, hm] at this
    exact this
  refine ⟨(zs.take len).map Int.toNat, ⟨by simpa using hr.len, hr.cap, ?_⟩, ?_, by simpa using hl, hle⟩
  · rw [hr.cells, List.map_map]
    simp only [Option.some.injEq]
    apply List.map_congr_left
    intro n hn
    have := hw2 n hn
    simp only [Function.comp]
    congr 1
    omega
  · intro z hz
    simp only [List.mem_map] at hz
    obtain ⟨n, hn, rfl⟩ := hz
    have := hw2 n hn
    omega
theorem post_below {w w' : World} {e : Ending} (h : Post ⟨w, w.heap⟩ Value.bool (fun r h => r = true ∧ Ext w.heap h) e w') : e = .returned (.bool true) ∧ Below w.heap.size w w' := by
  obtain ⟨r, m, rfl, hs, rfl, he⟩ := h
  refine ⟨rfl, ⟨hs.os, hs.tape.1, hs.out, ?_, fun k hk => ?_⟩⟩
  · have := he.size; have := hs.rel.size; simp only at this; omega
  · have h1 := he.same k hk (by simp)
    rcases hs.rel.same k with h2 | h2
    · simp only at h2
      rw [h1] at h2
      exact (hs.keep k h2).2
    · simp only at h2
      rw [h2, h1]
end Go.Lift

namespace Go.Lift
open Go Go.RowKit
end Go.Lift

namespace Go.Lift
open Go Go.RowKit
inductive Shape where
  | nil
  | bool
  | int (k : IntKind)
  | str
  | slice (e : Shape)
  | ptr (e : Shape)
  | cat (a b : Shape)
  deriving DecidableEq
def Shape.size : Shape → Nat
  | .nil => 0
  | .cat a b => a.size + b.size
  | _ => 1
structure Rows? (h : Heap) (sz : Nat) (s : Sl) (rows : List (List Value)) : Prop where
  len : s.len = rows.length
  cap : s.len ≤ s.cap
  max : s.cap ≤ maxLen
  cells : ∀ i (hi : i < rows.length), ∃ a, s.a = some a ∧ cells? h (a.add (i * sz)) sz 0 = some rows[i]
def Shape.Is (h : Heap) : Shape → List Value → Prop
  | .nil, cs => cs = []
  | .bool, cs => ∃ b, cs = [.bool b]
  | .int k, cs => ∃ n, cs = [.int k n] ∧ (Lit.int k n).wf = true
  | .str, cs => ∃ s, cs = [.string s] ∧ s.size ≤ maxLen
  | .slice e, cs => ∃ s : Sl, ∃ rows, cs = [Sl.toV s] ∧ Rows? h e.size s rows ∧ ∀ r ∈ rows, e.Is h r
  | .ptr e, cs => ∃ a : Option Addr, cs = [.pointer a] ∧ ∀ x, a = some x → ∃ r, cells? h x e.size 0 = some r ∧ e.Is h r
  | .cat a b, cs => ∃ l r, cs = l ++ r ∧ a.Is h l ∧ b.Is h r
def fieldsOf (P : Program) (g : TypeId → Option Shape) : Nat → List Field → Option Shape
  | _, [] => some .nil
  | off, f :: fs => if f.offset = off then (g f.type).bind fun a => if a.size = P.cellsOf f.type then (fieldsOf P g (off + P.cellsOf f.type) fs).map (.cat a) else none else none
def timesOf (a : Shape) : Nat → Shape
  | 0 => .nil
  | n + 1 => .cat a (timesOf a n)
def shapeOf (P : Program) : Nat → TypeId → Option Shape
  | 0, _ => none
  | n + 1, t =>
    match P.underlying t with
    | some .bool => some .bool
    | some (.int k) => some (.int k)
    | some .string => some .str
    | some (.slice e) => (shapeOf P n e).bind fun s => if s.size = P.cellsOf e then some (.slice s) else none
    | some (.pointer e) => (shapeOf P n e).bind fun s => if s.size = P.cellsOf e then some (.ptr s) else none
    | some (.struct fs) => (fieldsOf P (shapeOf P n) 0 fs.toList).bind fun s => if s.size = P.cellsOf t then some s else none
    | some (.array m e) => (shapeOf P n e).bind fun s => if s.size = P.cellsOf e ∧ m * s.size = P.cellsOf t then some (timesOf s m) else none
    | _ => none
theorem Shape.Is.length {h : Heap} : ∀ {s : Shape} {cs : List Value}, s.Is h cs → cs.length = s.size
  | .nil, cs, H => by rw [show cs = [] from H]; rfl
  | .bool, cs, H => by obtain ⟨b, rfl⟩ := H; rfl
  | .int k, cs, H => by obtain ⟨n, rfl, _⟩ := H; rfl
  | .str, cs, H => by obtain ⟨n, rfl, _⟩ := H; rfl
  | .slice e, cs, H => by obtain ⟨n, _, rfl, _⟩ := H; rfl
  | .ptr e, cs, H => by obtain ⟨n, rfl, _⟩ := H; rfl
  | .cat a b, cs, H => by
    obtain ⟨l, r, rfl, hl, hr⟩ := H
    simp [Shape.size, Shape.Is.length hl, Shape.Is.length hr]
theorem cells_of_world {w : World} {base : Nat} {a : Addr} {n : Nat} {cs : List Value} (h : w.cells? base a n = some cs) : cells? w.heap a n 0 = some cs := by
  have hm := World.cells?_some h
  have : ∀ m i, i + m = n → cells? w.heap a m i = some (cs.drop i) := by
    intro m
    induction m with
    | zero => intro i hi; simp only [cells?]; rw [List.drop_eq_nil_of_le]; have := hm.2.1; omega
    | succ m ih =>
      intro i hi
      have hlt : i < cs.length := by have := hm.2.1; omega
      simp only [cells?, ih (i + 1) (by omega)]
      have hc := hm.2.2 i (by omega)
      rw [cell_w] at hc
      rw [hc, List.getElem?_eq_getElem hlt]
      simp
  simpa using this n 0 (by omega)
section
variable {H : Type} {enc : TypeId × Value → H} {P : Program} {w : World} {base : Nat} {spare : Nat → Bool} {held : Bool}
theorem trod_ptr {fuel : Nat} {t e : TypeId} {cs : List Value} {x : DataW H × List MemPlace} (ht : P.underlying t = some (.pointer e)) (h : DataW.trod enc P w base spare held fuel t cs = some x) :
    cs = [.pointer none] ∨ ∃ a n l y, cs = [.pointer (some a)] ∧ w.cells? base a (P.cellsOf e) = some l ∧ DataW.trod enc P w base spare held n e l = some y := by
  cases fuel with
  | zero => simp [DataW.trod] at h
  | succ n =>
    unfold DataW.trod at h
    rw [ht] at h
    split at h
    case h_5 => exact .inl rfl
    case h_6 =>
      rename_i e' a h1
      cases h1
      obtain ⟨y, h1, h2⟩ := Option.map_eq_some_iff.1 h
      obtain ⟨l, h3, h4⟩ := Option.bind_eq_some_iff.1 h1
      exact .inr ⟨a, n, l, y, rfl, h3, h4⟩
    all_goals simp_all
theorem fields_is {g : TypeId → Option Shape} {n : Nat} {cs : List Value} {xs : List (DataW H × List MemPlace)}
    (hg : ∀ t s cs x, g t = some s → DataW.trod enc P w base spare held n t cs = some x → s.Is w.heap cs) :
    ∀ (fs : List Field) (k off : Nat) (s : Shape), fieldsOf P g off fs = some s → (∀ (i : Nat) (f : Field), fs[i]? = some f → DataW.trod enc P w base spare held n f.type ((cs.drop f.offset).take (P.cellsOf f.type)) = xs[k + i]?) →
      k + fs.length ≤ xs.length → cs.length = off + s.size → s.Is w.heap (cs.drop off) := by
  intro fs
  induction fs with
  | nil =>
    intro k off s hs _ _ hc
    simp only [fieldsOf, Option.some.injEq] at hs
    subst hs
    simp only [Shape.size] at hc
    exact List.drop_eq_nil_of_le (by omega)
  | cons f fs ih =>
    intro k off s hs hx hk hc
    unfold fieldsOf at hs
    by_cases ho : f.offset = off
    case neg => rw [if_neg ho] at hs; cases hs
    rw [if_pos ho] at hs
    obtain ⟨a, ha, h1⟩ := Option.bind_eq_some_iff.1 hs
    by_cases h2 : a.size = P.cellsOf f.type
    case neg => rw [if_neg h2] at h1; cases h1
    rw [if_pos h2] at h1
    obtain ⟨b, hb, rfl⟩ := Option.map_eq_some_iff.1 h1
    simp only [Shape.size] at hc
    have h0 := hx 0 f rfl
    simp only [List.length_cons] at hk
    rw [Nat.add_zero, List.getElem?_eq_getElem (by omega), ho] at h0
    refine ⟨(cs.drop off).take (P.cellsOf f.type), cs.drop (off + P.cellsOf f.type), ?_, hg _ _ _ _ ha h0, ?_⟩
    · rw [← List.drop_drop, List.take_append_drop]
    · refine ih (k + 1) _ b hb (fun i f' hf' => ?_) (by omega) (by omega)
      have := hx (i + 1) f' (by simpa using hf')
      rw [this]; congr 1; omega
theorem times_is {s : Shape} {n : Nat} {e : TypeId} {cs : List Value} {xs : List (DataW H × List MemPlace)} (hs : s.size = P.cellsOf e)
    (hg : ∀ cs x, DataW.trod enc P w base spare held n e cs = some x → s.Is w.heap cs) :
    ∀ (m k : Nat), (∀ i, i < m → DataW.trod enc P w base spare held n e ((cs.drop ((k + i) * P.cellsOf e)).take (P.cellsOf e)) = xs[k + i]?) →
      k + m ≤ xs.length → cs.length = (k + m) * s.size → (timesOf s m).Is w.heap (cs.drop (k * s.size)) := by
  intro m
  induction m with
  | zero => intro k _ _ hc; exact List.drop_eq_nil_of_le (by rw [hc]; simp)
  | succ m ih =>
    intro k hx hk hc
    have h0 := hx 0 (by omega)
    rw [Nat.add_zero, List.getElem?_eq_getElem (by omega)] at h0
    refine ⟨(cs.drop (k * s.size)).take s.size, cs.drop ((k + 1) * s.size), ?_, ?_, ?_⟩
    · rw [Nat.add_mul, Nat.one_mul, ← List.drop_drop, List.take_append_drop]
    · rw [hs]; exact hg _ _ h0
    · refine ih (k + 1) (fun i hi => ?_) (by omega) (by rw [hc]; congr 1; omega)
      have := hx (i + 1) (by omega)
      rw [show k + 1 + i = k + (i + 1) by omega]
      exact this
theorem shape_is : ∀ (n : Nat) {t : TypeId} {s : Shape} {fuel : Nat} {cs : List Value} {x : DataW H × List MemPlace}, shapeOf P n t = some s → DataW.trod enc P w base spare held fuel t cs = some x → s.Is w.heap cs := by
  intro n
  induction n with
  | zero => intro t s fuel cs x hs; simp [shapeOf] at hs
  | succ n ih =>
    intro t s fuel cs x hs h
    unfold shapeOf at hs
    split at hs
    · rename_i ht
      simp only [Option.some.injEq] at hs
      subst hs
      cases fuel with
      | zero => simp [DataW.trod] at h
      | succ m => unfold DataW.trod at h; rw [ht] at h; split at h <;> simp_all [Shape.Is]
    · rename_i k ht
      simp only [Option.some.injEq] at hs
      subst hs
      obtain ⟨m, h1, _, h3⟩ := DataW.trod_int ht h
      exact ⟨m, h1, h3⟩
    · rename_i ht
      simp only [Option.some.injEq] at hs
      subst hs
      cases fuel with
      | zero => simp [DataW.trod] at h
      | succ m => unfold DataW.trod at h; rw [ht] at h; split at h <;> simp_all [Shape.Is]
    · rename_i e ht
      simp only [Option.bind_eq_some_iff] at hs
      obtain ⟨a, ha, h2⟩ := hs
      split at h2 <;> simp at h2
      rename_i hsz
      subst h2
      rcases DataW.trod_slice ht h with ⟨rfl, _⟩ | ⟨b, len, cap, elems, rest, m, _, rfl, _, hb, hl, hm, hlen, hel, _⟩
      · exact ⟨⟨none, 0, 0⟩, [], rfl, ⟨rfl, Nat.le_refl _, Nat.zero_le _, fun i hi => by simp at hi⟩, fun r hr => by simp at hr⟩
      have hc : ∀ i, i < len → ∃ l y, w.cells? base (b.add (i * P.cellsOf e)) (P.cellsOf e) = some l ∧ DataW.trod enc P w base spare held m e l = some y := by
        intro i hi
        have := hel i hi
        rw [List.getElem?_eq_getElem (by omega)] at this
        obtain ⟨l, h3, h4⟩ := Option.bind_eq_some_iff.1 this
        exact ⟨l, _, h3, h4⟩
      refine ⟨⟨some b, len, cap⟩, (List.range len).map fun i => ((w.cells? base (b.add (i * P.cellsOf e)) (P.cellsOf e)).getD []), rfl, ⟨by simp, hl, hm, fun i hi => ?_⟩, fun r hr => ?_⟩
      · simp at hi
        obtain ⟨l, y, h3, h4⟩ := hc i hi
        refine ⟨b, rfl, ?_⟩
        simp only [List.getElem_map, List.getElem_range, h3, Option.getD_some]
        rw [hsz]
        exact cells_of_world h3
      · simp only [List.mem_map, List.mem_range] at hr
        obtain ⟨i, hi, rfl⟩ := hr
        obtain ⟨l, y, h3, h4⟩ := hc i hi
        rw [h3]
        exact ih ha h4
    · rename_i e ht
      simp only [Option.bind_eq_some_iff] at hs
      obtain ⟨a, ha, h2⟩ := hs
      split at h2 <;> simp at h2
      rename_i hsz
      subst h2
      rcases trod_ptr ht h with rfl | ⟨b, m, l, y, rfl, h3, h4⟩
      · exact ⟨none, rfl, fun x hx => by simp at hx⟩
      · exact ⟨some b, rfl, fun x hx => by cases hx; exact ⟨l, by rw [hsz]; exact cells_of_world h3, ih ha h4⟩⟩
    · rename_i fs ht
      simp only [Option.bind_eq_some_iff] at hs
      obtain ⟨a, ha, h2⟩ := hs
      split at h2 <;> simp at h2
      rename_i hsz
      subst h2
      obtain ⟨xs, m, rfl, _, hl, hn, hf⟩ := DataW.trod_struct ht h
      have := fields_is (n := m) (xs := xs) (cs := cs) (fun t s cs x h1 h2 => ih h1 h2) fs.toList 0 0 a ha (fun i f hf' => by simpa using hf i f (by simpa using hf')) (by simp; omega) (by omega)
      simpa using this
    · rename_i m e ht
      simp only [Option.bind_eq_some_iff] at hs
      obtain ⟨a, ha, h2⟩ := hs
      split at h2 <;> simp at h2
      rename_i hsz
      subst h2
      obtain ⟨xs, k, rfl, _, hl, hn, hf⟩ := DataW.trod_array ht h
      have := times_is (n := k) (e := e) (xs := xs) (cs := cs) hsz.1 (fun cs x h2 => ih ha h2) m 0 (fun i hi => by simpa using hf i hi) (by omega) (by rw [hl]; simp [hsz.2])
      simpa using this
    · simp at hs
theorem open_shape {n : Nat} {t : TypeId} {s : Shape} {v : Value} {d : DataW H} {ps : List MemPlace} (hs : shapeOf P n t = some s) (h : DataW.Trod enc P w base spare held t v d ps) : s.Is w.heap v.cells.toList := by
  obtain ⟨fuel, hf⟩ := h
  exact shape_is n hs hf
end
end Go.Lift
