/- Laws that the proof of this claim's statement leans on, each proved under the conditions that it states. -/
import Derived.Test.YtdcdidecehbplaaDoorLiftOps
set_option linter.unusedVariables false
set_option linter.unusedSimpArgs false
namespace Go.Lift
open Go

/-! ### Heaps -/
def cell? (h : Heap) (a : Addr) : Option Value :=
  match h[a.block]? with
  | some (.cells c _ _) => if a.spot.isSome then none else c[a.off]?
  | _ => none
def frozen? (h : Heap) (a : Addr) : Bool :=
  match h[a.block]? with
  | some (.cells _ _ (lo, hi)) => lo ≤ a.off && a.off < hi
  | _ => false
def setCell (h : Heap) (a : Addr) (v : Value) : Heap :=
  h.modify a.block fun
    | .cells c elem frozen => .cells (if a.spot.isSome then c else c.setIfInBounds a.off v) elem frozen
    | o => o
theorem cell_w (w : World) (a : Addr) : w.cell? a = cell? w.heap a := rfl
theorem frozen_w (w : World) (a : Addr) : w.frozen? a = frozen? w.heap a := rfl
theorem set_w (w : World) (a : Addr) (v : Value) : (w.setCell a v).heap = setCell w.heap a v := rfl

def one : Value → Bool
  | .agg _ | .tuple _ => false
  | _ => true
/-- n cells from an address on. -/
def cells? (h : Heap) (a : Addr) : Nat → Nat → Option (List Value)
  | 0, _ => some []
  | n + 1, i => match cell? h (a.add i), cells? h a n (i + 1) with
    | some v, some r => some (v :: r)
    | _, _ => none
def cellsO? (h : Heap) (a : Option Addr) (n : Nat) : Option (List Value) :=
  match a with
  | none => some []
  | some a => cells? h a n 0
/-- Cells may be written from an address on. -/
def canSet (h : Heap) (a : Addr) : Nat → Nat → Prop
  | 0, _ => True
  | n + 1, i => (∃ v, cell? h (a.add i) = some v) ∧ frozen? h (a.add i) = false ∧ canSet h a n (i + 1)
def setCells (h : Heap) (a : Addr) : List Value → Nat → Heap
  | [], _ => h
  | v :: r, i => setCells (setCell h (a.add i) v) a r (i + 1)
def oneCells (l : List Value) : Bool := l.all one

theorem run_load_at {P : Program} {w : World} {a : Addr} {v : Value} (hc : cell? w.heap a = some v) : (Go.load a).run P w = .ok v w := by
  simp [Go.load, Sem.run, cell_w, hc]

theorem run_loadCellsFrom {P : Program} {w : World} {a : Addr} : ∀ (n i : Nat) (l : List Value) (acc : Array Value), cells? w.heap a n i = some l →
    (loadCellsFrom a i n acc).run P w = .ok (acc ++ l.toArray) w := by
  intro n
  induction n with
  | zero => intro i l acc h; simp [cells?] at h; subst h; simp [loadCellsFrom]
  | succ n ih =>
    intro i l acc h
    simp only [cells?] at h
    split at h
    · rename_i v r h1 h2
      simp only [Option.some.injEq] at h; subst h
      simp [loadCellsFrom, run_load_at h1, Result.andThen, ih _ _ _ h2]
    · cases h
theorem run_loadCells {P : Program} {w : World} {a : Addr} {n : Nat} {l : List Value} (h : cells? w.heap a n 0 = some l) : (loadCells a n).run P w = .ok l.toArray w := by
  simp [loadCells, run_loadCellsFrom n 0 l #[] h]

theorem cell_set_ne {h : Heap} {a b : Addr} {v : Value} (hne : a.block ≠ b.block ∨ a.off ≠ b.off ∨ a.spot.isSome) : cell? (setCell h a v) b = cell? h b := by
  unfold cell? setCell
  by_cases hb : a.block = b.block
  · rw [← hb]
    simp only [Array.getElem?_modify, if_true]
    cases hx : h[a.block]? with
    | none => simp
    | some o =>
      cases o <;> simp
      by_cases hs : a.spot.isSome
      · simp [hs]
      · rcases hne with h1 | h1 | h1
        · exact absurd hb h1
        · simp [hs, Array.getElem?_setIfInBounds_ne h1]
        · exact absurd h1 hs
  · simp [Array.getElem?_modify, hb]
theorem cell_set_same {h : Heap} {a : Addr} {v u : Value} (hc : cell? h a = some u) : cell? (setCell h a v) a = some v := by
  unfold cell? at hc
  unfold cell? setCell
  simp only [Array.getElem?_modify, if_true]
  cases hx : h[a.block]? with
  | none => simp [hx] at hc
  | some o =>
    cases o <;> simp [hx] at hc ⊢
    obtain ⟨hs, hc⟩ := hc
    obtain ⟨hlt, _⟩ := Array.getElem?_eq_some_iff.1 hc
    simp [hs, hlt]
theorem frozen_set {h : Heap} {a b : Addr} {v : Value} : frozen? (setCell h a v) b = frozen? h b := by
  unfold frozen? setCell
  by_cases hb : a.block = b.block
  · rw [← hb]
    simp only [Array.getElem?_modify, if_true]
    cases hx : h[a.block]? with
    | none => simp
    | some o => cases o <;> simp
  · simp [Array.getElem?_modify, hb]
theorem size_set {h : Heap} {a : Addr} {v : Value} : (setCell h a v).size = h.size := by simp [setCell]

theorem canSet_set {h : Heap} {a b : Addr} {v : Value} : ∀ (n i : Nat), canSet h a n i → (∃ u, cell? h b = some u) → canSet (setCell h b v) a n i := by
  intro n
  induction n with
  | zero => intro i _ _; trivial
  | succ n ih =>
    intro i hc hb
    obtain ⟨⟨u, h1⟩, h2, h3⟩ := hc
    refine ⟨?_, by rw [frozen_set]; exact h2, ih _ h3 hb⟩
    by_cases e : b = a.add i
    · subst e
      obtain ⟨u', hu⟩ := hb
      exact ⟨v, cell_set_same hu⟩
    · refine ⟨u, ?_⟩
      obtain ⟨u', hu⟩ := hb
      rw [cell_set_ne]
      · exact h1
      · by_cases hs : b.spot.isSome
        · exact .inr (.inr hs)
        · have hs1 : b.spot = none := by cases h : b.spot <;> simp_all
          by_cases hs2 : (a.add i).spot.isSome
          · unfold cell? at h1
            split at h1
            · rw [if_pos hs2] at h1; cases h1
            · cases h1
          · have hs2 : (a.add i).spot = none := by cases h : (a.add i).spot <;> simp_all
            by_cases e1 : b.block = (a.add i).block
            · by_cases e2 : b.off = (a.add i).off
              · exfalso; apply e
                cases hb2 : a.add i with
                | mk x y z => cases b; simp_all
              · exact .inr (.inl e2)
            · exact .inl e1

theorem run_store_at {P : Program} {w : World} {a : Addr} {u v : Value} (hc : cell? w.heap a = some u) (hf : frozen? w.heap a = false) (ho : one v = true) :
    (Go.store a v).run P w = .ok () (w.setCell a v) := by
  cases v <;> first
    | (simp [one] at ho; done)
    | simp [Go.store, Sem.run, cell_w, frozen_w, hc, hf]

theorem run_storeCells {P : Program} {a : Addr} : ∀ (l : List Value) (i : Nat) (w : World), canSet w.heap a l.length i → oneCells l = true →
    ∃ w', (storeCells a l i).run P w = .ok () w' ∧ Same w w' ∧ w'.heap = setCells w.heap a l i := by
  intro l
  induction l with
  | nil => intro i w _ _; exact ⟨w, by simp [storeCells], Same.refl w, rfl⟩
  | cons v r ih =>
    intro i w hc ho
    obtain ⟨⟨u, h1⟩, h2, h3⟩ := hc
    simp only [oneCells, List.all_cons, Bool.and_eq_true] at ho
    have hs := run_store_at (P := P) (v := v) h1 h2 ho.1
    obtain ⟨w', hr, hsame, hh⟩ := ih (i + 1) (w.setCell (a.add i) v) (by rw [set_w]; exact canSet_set _ _ h3 ⟨u, h1⟩) ho.2
    refine ⟨w', ?_, Same.trans (b := w.setCell (a.add i) v) ⟨rfl, rfl, rfl⟩ hsame, by rw [hh, set_w]; rfl⟩
    simp [storeCells, hs, Result.andThen, hr]

/-! ### What a function does to memory, on the shallow side -/
structure Sl where
  a : Option Addr
  len : Nat
  cap : Nat
def Sl.toV (s : Sl) : Value := .slice s.a s.len s.cap
def Sl.nil : Sl := ⟨none, 0, 0⟩

def load {α : Type} (toV : α → Value) (a : Addr) (h : Heap) (k : α → Prop) : Prop := ∃ x, cell? h a = some (toV x) ∧ k x
def loadS {α : Type} (toC : α → List Value) (n : Nat) (a : Addr) (h : Heap) (k : α → Prop) : Prop := ∃ x, cells? h a n 0 = some (toC x) ∧ k x
def store (a : Addr) (v : Value) (h : Heap) (k : Heap → Prop) : Prop := (∃ u, cell? h a = some u) ∧ frozen? h a = false ∧ k (setCell h a v)
def storeS (a : Addr) (vs : List Value) (h : Heap) (k : Heap → Prop) : Prop := canSet h a vs.length 0 ∧ k (setCells h a vs 0)
def new (cs : List Value) (h : Heap) (k : Addr → Heap → Prop) : Prop := ∀ T, k ⟨h.size, 0, none⟩ (h.push (.cells cs.toArray T (0, 0)))
def nilChk (p : Option Addr) (k : Addr → Prop) : Prop := ∃ a, p = some a ∧ k a
def idxS (s : Sl) (i : Int) (sz : Nat) (k : Addr → Prop) : Prop := ∃ a, s.a = some a ∧ (0 ≤ i ∧ i < s.len) ∧ k (a.add (i.toNat * sz))
def idxA (a : Addr) (len : Nat) (i : Int) (sz : Nat) (k : Addr → Prop) : Prop := (0 ≤ i ∧ i < len) ∧ k (a.add (i.toNat * sz))
/-- An element of a value that is an array. -/
def idxV {α : Type} (toV : α → Value) (cs : List Value) (len : Nat) (i : Int) (sz : Nat) (k : α → Prop) : Prop := (0 ≤ i ∧ i < len) ∧ ∃ x, cs[i.toNat * sz]? = some (toV x) ∧ k x
def idxStr (s : ByteArray) (i : Int) (k : Int → Prop) : Prop := 0 ≤ i ∧ ∃ b, s.data[i.toNat]? = some b ∧ k (b.toNat : Int)
def sliceOf (s : Sl) (lo hi mx : Option Int) (sz : Nat) (k : Sl → Prop) : Prop :=
  let m : Int := mx.getD s.cap
  let e : Int := hi.getD s.len
  let b : Int := lo.getD 0
  (0 ≤ m ∧ m ≤ s.cap) ∧ (0 ≤ e ∧ (hi = none ∨ e ≤ m)) ∧ (0 ≤ b ∧ b ≤ e) ∧ k ⟨if m = b then s.a else s.a.map (·.add (b.toNat * sz)), e.toNat - b.toNat, m.toNat - b.toNat⟩
def sliceStr (s : ByteArray) (lo hi : Option Int) (k : ByteArray → Prop) : Prop :=
  let e : Int := hi.getD s.size
  let b : Int := lo.getD 0
  (0 ≤ e ∧ e ≤ s.size) ∧ (0 ≤ b ∧ b ≤ e) ∧ k (s.extract b.toNat e.toNat)
def mkS (z : List Value) (bytes : Nat) (len cap : Int) (h : Heap) (k : Sl → Heap → Prop) : Prop :=
  (0 ≤ len ∧ len ≤ cap ∧ cap * bytes ≤ 2 ^ 46) ∧ ∀ T, k ⟨some ⟨h.size, 0, none⟩, len.toNat, cap.toNat⟩ (h.push (.cells (List.flatten (List.replicate cap.toNat z)).toArray T (0, 0)))
def appendS (sz bytes : Nat) (s x : Sl) (h : Heap) (k : Sl → Heap → Prop) : Prop :=
  ∃ vs, cellsO? h x.a (x.len * sz) = some vs ∧ oneCells vs = true ∧ (s.len + x.len) * bytes ≤ 2 ^ 46 ∧
    (s.len + x.len ≤ s.cap → match s.a with
      | none => k ⟨s.a, s.len + x.len, s.cap⟩ h
      | some a => canSet h (a.add (s.len * sz)) vs.length 0 ∧ k ⟨s.a, s.len + x.len, s.cap⟩ (setCells h (a.add (s.len * sz)) vs 0)) ∧
    (s.cap < s.len + x.len → ∃ old, cellsO? h s.a (s.len * sz) = some old ∧
      ∀ (cap : Nat) T (rest : List Value), s.len + x.len ≤ cap → rest.length = (cap - (s.len + x.len)) * sz →
        k ⟨some ⟨h.size, 0, none⟩, s.len + x.len, cap⟩ (h.push (.cells (old ++ vs ++ rest).toArray T (0, 0))))

section
variable {P : Program} {T : TTab} {n : Nat} {L : Frm} {h : Heap} {o : Oper}

def nonAgg (T : TTab) (t : Nat) : Bool := match T.desc t with
  | some (.struct _) | some (.array _ _) => false
  | some _ => true
  | none => false
def yesAgg (T : TTab) (t : Nat) : Bool := match T.desc t with
  | some (.struct _) | some (.array _ _) => true
  | _ => false
theorem nonAgg_run (hT : TTab.Ok P T) {t : Nat} (h : nonAgg T t = true) (w : World) : (isAgg t).run P w = .ok false w := by
  unfold nonAgg at h
  cases hd : T.desc t with
  | none => simp [hd] at h
  | some d => rw [TTab.isAgg_run hT hd]; cases d <;> simp_all
theorem yesAgg_run (hT : TTab.Ok P T) {t : Nat} (h : yesAgg T t = true) (w : World) : (isAgg t).run P w = .ok true w := by
  unfold yesAgg at h
  cases hd : T.desc t with
  | none => simp [hd] at h
  | some d => rw [TTab.isAgg_run hT hd]; cases d <;> simp_all

theorem Quiet1.load {t : Nat} {x : Operand} {a : Addr} {v : Value} (hT : TTab.Ok P T) (hop : o.op = .load t x) (ht : nonAgg T t = true) (hx : L.ev x = some (.pointer (some a))) (hc : cell? h a = some v) : Quiet1 P n L h o v := by
  intro ac w ha hw
  subst hw
  simp [execOp, hop, ha.eval hx, Instr.loadAt, Instr.sureAddr, loadVar, nonAgg_run hT ht, Result.andThen, run_load_at hc]
theorem Quiet1.loadS {t s : Nat} {x : Operand} {a : Addr} {l : List Value} (hT : TTab.Ok P T) (hop : o.op = .load t x) (ht : yesAgg T t = true) (hs : T.size t = some s) (hx : L.ev x = some (.pointer (some a))) (hc : cells? h a s 0 = some l) : Quiet1 P n L h o (.agg l.toArray) := by
  intro ac w ha hw
  subst hw
  simp [execOp, hop, ha.eval hx, Instr.loadAt, Instr.sureAddr, loadVar, yesAgg_run hT ht, Result.andThen, TTab.size_run hT hs, run_loadCells hc]
theorem Quiet1.nilChk {x : Operand} {p : Option Addr} {a : Addr} (hop : o.op = .nilCheck x) (hx : L.ev x = some (.pointer p)) (hp : p = some a) : Quiet1 P n L h o (.pointer (some a)) := by
  intro ac w ha hw
  subst hp
  simp [execOp, hop, ha.eval hx]
theorem Quiet1.idxS {t e sz : Nat} {x i : Operand} {s : Sl} {a : Addr} {k : IntKind} {j : Int} (hT : TTab.Ok P T) (hop : o.op = .indexAddr t x i) (ht : T.desc t = some (.slice e)) (hs : T.size e = some sz)
    (hx : L.ev x = some (.slice s.a s.len s.cap)) (hi : L.ev i = some (.int k j)) (h1 : s.a = some a) (h2 : 0 ≤ j ∧ j < s.len) : Quiet1 P n L h o (.pointer (some (a.add (j.toNat * sz)))) := by
  intro ac w ha hw
  simp [execOp, hop, ha.eval hx, ha.eval hi, Instr.indexAt, asIntOf, Result.andThen, TTab.desc_run hT ht, h1, h2, TTab.size_run hT hs]
theorem Quiet1.idxV {t e sz len : Nat} {x i : Operand} {cs : List Value} {k : IntKind} {j : Int} {v : Value} (hT : TTab.Ok P T) (hop : o.op = .index t x i) (ht : T.desc t = some (.array len e)) (hs : T.size e = some sz) (he : nonAgg T e = true)
    (hx : L.ev x = some (.agg cs.toArray)) (hi : L.ev i = some (.int k j)) (h2 : 0 ≤ j ∧ j < len) (hv : cs[j.toNat * sz]? = some v) : Quiet1 P n L h o v := by
  intro ac w ha hw
  simp [execOp, hop, ha.eval hx, ha.eval hi, Instr.index, asIntOf, Result.andThen, TTab.desc_run hT ht, h2, TTab.size_run hT hs, part, nonAgg_run hT he, hv]
theorem Quiet1.idxStr {t : Nat} {x i : Operand} {s : ByteArray} {k : IntKind} {j : Int} {b : UInt8} (hT : TTab.Ok P T) (hop : o.op = .index t x i) (ht : T.desc t = some .string)
    (hx : L.ev x = some (.string s)) (hi : L.ev i = some (.int k j)) (h2 : 0 ≤ j) (hv : s.data[j.toNat]? = some b) : Quiet1 P n L h o (.int .u8 (b.toNat : Int)) := by
  intro ac w ha hw
  have : s[j.toNat]? = some b := by
    obtain ⟨hlt, he⟩ := Array.getElem?_eq_some_iff.1 hv
    rw [getElem?_pos s j.toNat hlt]
    exact congrArg some he
  simp [execOp, hop, ha.eval hx, ha.eval hi, Instr.index, asIntOf, Result.andThen, TTab.desc_run hT ht, h2, this]

theorem Eff.store {t : Nat} {x y : Operand} {a : Addr} {v : Value} {k : Heap → Prop} (hT : TTab.Ok P T) (hop : o.op = .store t x y) (hs : T.size t = some 1) (hx : L.ev x = some (.pointer (some a))) (hy : L.ev y = some v) (ho : one v = true) (H : Lift.store a v h k) :
    Eff P n L h o (fun _ h' => k h') := by
  intro ac w ha hw next Q hn
  subst hw
  obtain ⟨⟨u, h1⟩, h2, h3⟩ := H
  have hcs : v.cells = #[v] := by cases v <;> first | rfl | (simp [one] at ho)
  have ha0 : a.add 0 = a := by simp [Addr.add]
  have : (execOp ac.eval o).run P w = .ok .skip (w.setCell a v) := by
    simp [execOp, hop, ha.eval hx, ha.eval hy, Instr.storeAt, Instr.sureAddr, storeVar, Result.andThen, TTab.size_run hT hs, hcs, storeCells, ha0, run_store_at h1 h2 ho]
  unfold Oper.wp
  rw [this]
  exact hn _ _ ⟨rfl, rfl, rfl⟩ h3
theorem Eff.storeS {t s : Nat} {x y : Operand} {a : Addr} {vs : List Value} {k : Heap → Prop} (hT : TTab.Ok P T) (hop : o.op = .store t x y) (hs : T.size t = some s) (hx : L.ev x = some (.pointer (some a))) (hy : L.ev y = some (.agg vs.toArray)) (hl : vs.length = s) (ho : oneCells vs = true) (H : Lift.storeS a vs h k) :
    Eff P n L h o (fun _ h' => k h') := by
  intro ac w ha hw next Q hn
  subst hw
  obtain ⟨h1, h2⟩ := H
  obtain ⟨w', hr, hsame, hh⟩ := run_storeCells (P := P) vs 0 w h1 ho
  have : (execOp ac.eval o).run P w = .ok .skip w' := by
    simp [execOp, hop, ha.eval hx, ha.eval hy, Instr.storeAt, Instr.sureAddr, storeVar, Result.andThen, TTab.size_run hT hs, Value.cells, hl, hr]
  unfold Oper.wp
  rw [this]
  exact hn _ _ hsame (by rw [hh]; exact h2)
theorem Eff.box {t : Nat} {x : Operand} {v : Value} {cs : List Value} {k : Addr → Heap → Prop} (hop : o.op = .box t x) (hx : L.ev x = some v) (hcs : v.cells = cs.toArray) (H : Lift.new cs h k) :
    Eff P n L h o (fun u h' => ∃ a, u = .pointer (some a) ∧ k a h') := by
  intro ac w ha hw next Q hn
  subst hw
  have : (execOp ac.eval o).run P w = .ok (.value (.pointer (some ⟨w.heap.size, 0, none⟩))) { w with heap := w.heap.push (.cells cs.toArray t) } := by
    simp [execOp, hop, ha.eval hx, Instr.box, newVar, newRow, newObj, Sem.run, Result.andThen, hcs]
  unfold Oper.wp
  rw [this]
  exact hn _ _ ⟨rfl, rfl, rfl⟩ ⟨_, rfl, H t⟩
theorem Eff.alloc {t : Nat} {cs : List Value} {k : Addr → Heap → Prop} (hT : TTab.Ok P T) (hop : o.op = .alloc t) (hz : T.zero t = some cs) (H : Lift.new cs h k) :
    Eff P n L h o (fun u h' => ∃ a, u = .pointer (some a) ∧ k a h') := by
  intro ac w ha hw next Q hn
  subst hw
  obtain ⟨v, hv, hvc⟩ := TTab.zero_run hT hz w
  have hcs : v.cells = cs.toArray := by rw [← hvc]
  have : (execOp ac.eval o).run P w = .ok (.value (.pointer (some ⟨w.heap.size, 0, none⟩))) { w with heap := w.heap.push (.cells cs.toArray t) } := by
    simp [execOp, hop, Instr.alloc, newVar, newRow, newObj, Sem.run, Result.andThen, hv, hcs]
  unfold Oper.wp
  rw [this]
  exact hn _ _ ⟨rfl, rfl, rfl⟩ ⟨_, rfl, H t⟩

theorem Quiet1.sliceOf {t e sz : Nat} {x : Operand} {lo hi mx : Option Operand} {s : Sl} {lo' hi' mx' : Option Int} {k : Sl → Prop} (hT : TTab.Ok P T) (hop : o.op = .slice t x lo hi mx) (ht : T.desc t = some (.slice e)) (hs : T.size e = some sz)
    (hx : L.ev x = some (.slice s.a s.len s.cap)) (hlo : lo.map L.ev = lo'.map (fun j => some (.int .i64 j))) (hhi : hi.map L.ev = hi'.map (fun j => some (.int .i64 j))) (hmx : mx.map L.ev = mx'.map (fun j => some (.int .i64 j)))
    (hhm : hi = none → mx = none) (H : Lift.sliceOf s lo' hi' mx' sz k) : ∃ r, Quiet1 P n L h o (Sl.toV r) ∧ k r := by
  obtain ⟨⟨m0, m1⟩, ⟨e0, e1⟩, ⟨b0, b1⟩, hk⟩ := H
  refine ⟨_, ?_, hk⟩
  intro ac w ha hw
  have ev : ∀ {x : Operand} {u : Value}, L.ev x = some u → ac.eval x = u := fun hx => ha.eval hx
  have conv : ∀ (p : Option Operand) (q : Option Int), p.map L.ev = q.map (fun j => some (.int .i64 j)) → p.map ac.eval = q.map (fun j => Value.int .i64 j) := by
    intro p q hpq
    cases p <;> cases q <;> simp at hpq ⊢
    exact ev hpq
  have bnd : ∀ (j : Int) (y : Nat) (c : BoundsCode), 0 ≤ j → j ≤ y → (Instr.sliceBound (.int .i64 j) y c).run P w = .ok j.toNat w := by
    intro j y c h1 h2
    simp [Instr.sliceBound, asIntOf, h1, h2]
  simp only [execOp, hop, ev hx, conv _ _ hlo, conv _ _ hhi, conv _ _ hmx]
  have key : (Instr.sliceBounds true s.len s.cap (lo'.map (fun j => Value.int .i64 j)) (hi'.map (fun j => Value.int .i64 j)) (mx'.map (fun j => Value.int .i64 j))).run P w = .ok ((lo'.getD 0).toNat, (hi'.getD s.len).toNat, (mx'.getD s.cap).toNat) w := by
    cases mx' with
    | none =>
      cases hi' with
      | none =>
        cases lo' with
        | none => simp [Instr.sliceBounds]
        | some b =>
          simp only [Option.getD_some, Option.getD_none] at b0 b1
          simp [Instr.sliceBounds, Result.andThen, bnd b s.len _ b0 b1]
      | some e =>
        simp only [Option.getD_some, Option.getD_none, reduceCtorEq, false_or] at e0 e1 b1 b0
        have he := bnd e s.cap .sliceAcap e0 e1
        cases lo' with
        | none => simp [Instr.sliceBounds, Result.andThen, he]
        | some b =>
          simp only [Option.getD_some] at b0 b1
          simp [Instr.sliceBounds, Result.andThen, he, bnd b e.toNat _ b0 (by omega)]
    | some m =>
      simp only [Option.getD_some] at m0 m1 e1
      have hm := bnd m s.cap .slice3Acap m0 m1
      cases hi' with
      | none =>
        exfalso
        have hmn : hi = none := by cases hi <;> simp_all
        have := hhm hmn
        subst this
        simp at hmx
      | some e =>
        simp only [Option.getD_some, reduceCtorEq, false_or] at e0 e1 b1 b0
        have he := bnd e m.toNat .slice3B e0 (by omega)
        cases lo' with
        | none => simp [Instr.sliceBounds, Result.andThen, he, hm]
        | some b =>
          simp only [Option.getD_some] at b0 b1
          simp [Instr.sliceBounds, Result.andThen, he, hm, bnd b e.toNat _ b0 (by omega)]
  have hcond : ((mx'.getD (s.cap : Int)).toNat = (lo'.getD 0).toNat) ↔ (mx'.getD (s.cap : Int) = lo'.getD 0) := by omega
  simp [Instr.sliceAt, Instr.slice, Result.andThen, TTab.desc_run hT ht, TTab.size_run hT hs, key, Sl.toV, hcond]

theorem Quiet1.sliceStr {t : Nat} {x : Operand} {lo hi : Option Operand} {s : ByteArray} {lo' hi' : Option Int} {k : ByteArray → Prop} (hT : TTab.Ok P T) (hop : o.op = .slice t x lo hi none) (ht : T.desc t = some .string)
    (hx : L.ev x = some (.string s)) (hlo : lo.map L.ev = lo'.map (fun j => some (.int .i64 j))) (hhi : hi.map L.ev = hi'.map (fun j => some (.int .i64 j)))
    (H : Lift.sliceStr s lo' hi' k) : ∃ r, Quiet1 P n L h o (.string r) ∧ k r := by
  obtain ⟨⟨e0, e1⟩, ⟨b0, b1⟩, hk⟩ := H
  refine ⟨_, ?_, hk⟩
  intro ac w ha hw
  have ev : ∀ {x : Operand} {u : Value}, L.ev x = some u → ac.eval x = u := fun hx => ha.eval hx
  have conv : ∀ (p : Option Operand) (q : Option Int), p.map L.ev = q.map (fun j => some (.int .i64 j)) → p.map ac.eval = q.map (fun j => Value.int .i64 j) := by
    intro p q hpq
    cases p <;> cases q <;> simp at hpq ⊢
    exact ev hpq
  have bnd : ∀ (j : Int) (y : Nat) (c : BoundsCode), 0 ≤ j → j ≤ y → (Instr.sliceBound (.int .i64 j) y c).run P w = .ok j.toNat w := by
    intro j y c h1 h2
    simp [Instr.sliceBound, asIntOf, h1, h2]
  simp only [execOp, hop, ev hx, conv _ _ hlo, conv _ _ hhi]
  have key : (Instr.sliceBounds false s.size s.size (lo'.map (fun j => Value.int .i64 j)) (hi'.map (fun j => Value.int .i64 j)) none).run P w = .ok ((lo'.getD 0).toNat, (hi'.getD s.size).toNat, s.size) w := by
    cases hi' with
    | none =>
      cases lo' with
      | none => simp [Instr.sliceBounds]
      | some b =>
        simp only [Option.getD_some, Option.getD_none] at b0 b1
        simp [Instr.sliceBounds, Result.andThen, bnd b s.size _ b0 b1]
    | some e =>
      simp only [Option.getD_some] at e0 e1 b1 b0
      have he := bnd e s.size .sliceAlen e0 e1
      cases lo' with
      | none => simp [Instr.sliceBounds, Result.andThen, he]
      | some b =>
        simp only [Option.getD_some] at b0 b1
        simp [Instr.sliceBounds, Result.andThen, he, bnd b e.toNat _ b0 (by omega)]
  simp [Instr.sliceAt, Instr.slice, Result.andThen, TTab.desc_run hT ht, key]

/-! ### Rows that are made -/
theorem fill_ok_none : Instr.fill (fun _ => none) #[] [] = some #[] := rfl

theorem run_choose_cap {w : World} (need old : Nat) (e : TypeId) : ∃ c, (need : Nat) ≤ c ∧ (choose (.appendCap need old e)).run P w = .ok c { w with drawn := w.drawn + 1 } := by
  refine ⟨need + (w.tape w.drawn (.appendCap need old e)) % (2 ^ 63 - need), by omega, ?_⟩
  simp [choose, Sem.run, Question.forced, Question.cut]
theorem run_askRoom {w : World} (b : Nat) : (askRoom b).run P w = .ok () w := by
  unfold askRoom
  split <;> simp [mark, Sem.run]
theorem mapRange (z : List Value) : ∀ c : Nat, (Array.range (c * z.length)).map (fun i => z.toArray[i % z.toArray.size]!) = (List.flatten (List.replicate c z)).toArray := by
  intro c
  apply Array.ext'
  simp only [Array.toList_map, Array.toList_range]
  induction c with
  | zero => simp
  | succ c ih =>
    have hz : ∀ i, i < z.length → z.toArray[i % z.toArray.size]! = z[i]! := by
      intro i hi; simp [Nat.mod_eq_of_lt hi]
    rw [Nat.add_mul, Nat.one_mul, Nat.add_comm, List.range_add]
    simp only [List.map_append, List.map_map, List.replicate_succ, List.flatten_cons]
    congr 1
    · apply List.ext_getElem
      · simp
      · intro i h1 h2
        simp only [List.length_map, List.length_range] at h1
        simp only [List.getElem_map, List.getElem_range]
        rw [hz i h1, getElem!_pos z i h1]
    · rw [← ih]
      apply List.map_congr_left
      intro i _
      simp [Function.comp]
theorem zeroCells_eq (z : List Value) (c : Nat) : Builtin.zeroCells z.toArray c = (List.flatten (List.replicate c z)).toArray := by
  unfold Builtin.zeroCells
  have := mapRange z c
  simpa using this
theorem flat_len (z : List Value) (c : Nat) : (List.flatten (List.replicate c z)).length = c * z.length := by
  induction c with
  | zero => simp
  | succ c ih => simp [List.replicate_succ, ih, Nat.add_mul, Nat.add_comm]

theorem Eff.mkS {t e sz b : Nat} {x y : Operand} {k1 k2 : IntKind} {z : List Value} {len cap : Int} {k : Sl → Heap → Prop} (hT : TTab.Ok P T) (hop : o.op = .makeSlice t x y) (ht : T.desc t = some (.slice e)) (hs : T.size e = some sz) (hb : T.bytes e = some b) (hz : T.zero e = some z) (hzl : z.length = sz)
    (hx : L.ev x = some (.int k1 len)) (hy : L.ev y = some (.int k2 cap)) (hb1 : 1 ≤ b) (H : Lift.mkS z b len cap h k) :
    Eff P n L h o (fun u h' => ∃ r, u = Sl.toV r ∧ k r h') := by
  intro ac w ha hw next Q hn
  subst hw
  obtain ⟨⟨h1, h2, h3⟩, hk⟩ := H
  obtain ⟨i, hi, hib⟩ := TTab.bytes_run hT hb w
  obtain ⟨v, hv, hvc⟩ := TTab.zero_run hT hz w
  have hvc' : v.cells = z.toArray := by rw [← hvc]
  have hcap : cap ≤ 2 ^ 46 := by
    have : cap * 1 ≤ cap * b := Int.mul_le_mul_of_nonneg_left (by omega) (by omega)
    omega
  have w1 : IntKind.i64.wrap cap = cap := by rw [IntKind.wrap_i64]; omega
  have w2 : IntKind.i64.wrap len = len := by rw [IntKind.wrap_i64]; omega
  have : (execOp ac.eval o).run P w = .ok (.value (Sl.toV ⟨some ⟨w.heap.size, 0, none⟩, len.toNat, cap.toNat⟩)) { w with heap := w.heap.push (.cells (List.flatten (List.replicate cap.toNat z)).toArray e (0, 0)) } := by
    have hm : (Int.ofNat b) * cap ≤ 2 ^ 48 := by
      have : (b : Int) * cap = cap * b := Int.mul_comm _ _
      simp only [Int.ofNat_eq_natCast]; omega
    have c1 : ¬ cap < 0 := by omega
    have c2 : ¬ (281474976710656 : Int) < (b : Int) * cap := by simp only [Int.ofNat_eq_natCast] at hm; omega
    have c3 : ¬ len < 0 := by omega
    have c4 : ¬ len > cap := by omega
    by_cases h0 : cap.toNat * sz = 0
    · have hfl : List.flatten (List.replicate cap.toNat z) = [] := by
        apply List.eq_nil_of_length_eq_zero
        rw [flat_len, hzl, h0]
      simp [execOp, hop, ha.eval hx, ha.eval hy, Instr.makeSlice, asInt, asIntOf, Result.andThen, TTab.desc_run hT ht, hi, hib, w1, w2, c1, c2, c3, c4, TTab.size_run hT hs, h0, hfl, newRow, newObj, Sem.run, Sl.toV]
      simp [show Array.range 0 = #[] from rfl]
    · have hmr := mapRange z cap.toNat
      rw [hzl] at hmr
      simp [execOp, hop, ha.eval hx, ha.eval hy, Instr.makeSlice, asInt, asIntOf, Result.andThen, TTab.desc_run hT ht, hi, hib, w1, w2, c1, c2, c3, c4, TTab.size_run hT hs, h0, hv, hvc', newRow, newObj, Sem.run, Sl.toV]
      simp at hmr
      rw [hmr]
  unfold Oper.wp
  rw [this]
  exact hn _ _ ⟨rfl, rfl, rfl⟩ ⟨_, rfl, hk e⟩

theorem growBy_le (newLen : Nat) : ∀ (r c B : Nat), c ≤ B → newLen + (newLen + 768) / 4 ≤ B → Builtin.growBy newLen r c ≤ B := by
  intro r
  induction r with
  | zero => intro c B h1 _; exact h1
  | succ r ih =>
    intro c B h1 h2
    unfold Builtin.growBy
    split
    · exact h1
    · apply ih _ _ _ h2
      omega
theorem nextcap_le (newLen oldCap : Nat) (h : oldCap < newLen) : Builtin.nextslicecap newLen oldCap ≤ 2 * newLen + 768 := by
  unfold Builtin.nextslicecap
  split
  · omega
  · split
    · omega
    · apply growBy_le <;> omega

theorem run_firstCells {w : World} {s : Sl} {size m : Nat} {l : List Value} (h : cellsO? w.heap s.a (m * size) = some l) : (Builtin.firstCells size m (Sl.toV s)).run P w = .ok l.toArray w := by
  unfold Sl.toV
  cases hs : s.a with
  | none => simp [hs, cellsO?] at h; subst h; simp [Builtin.firstCells]
  | some a => simp [hs, cellsO?] at h; simp [Builtin.firstCells, run_loadCells h]

theorem cells?_length {h : Heap} {a : Addr} : ∀ (n i : Nat) (l : List Value), cells? h a n i = some l → l.length = n := by
  intro n
  induction n with
  | zero => intro i l h; simp [cells?] at h; subst h; rfl
  | succ n ih =>
    intro i l hc
    simp only [cells?] at hc
    split at hc
    · rename_i v r h1 h2
      simp only [Option.some.injEq] at hc; subst hc
      simp [ih _ _ h2]
    · cases hc

theorem Eff.appendS {t e sz b : Nat} {tys : Array TypeId} {x y : Operand} {args : Array Operand} {z : List Value} {s u : Sl} {k : Sl → Heap → Prop} (hT : TTab.Ok P T) (hop : o.op = .call ⟨.builtin .append, args, tys⟩) (hargs : args.toList = [x, y]) (htys : tys.toList = [t, t])
    (ht : T.desc t = some (.slice e)) (hs : T.size e = some sz) (hb : T.bytes e = some b) (hz : T.zero e = some z) (hzl : z.length = sz)
    (hx : L.ev x = some (.slice s.a s.len s.cap)) (hy : L.ev y = some (.slice u.a u.len u.cap)) (hb1 : 1 ≤ b ∧ b ≤ 1024) (H : Lift.appendS sz b s u h k) :
    Eff P n L h o (fun v h' => ∃ r, v = Sl.toV r ∧ k r h') := by
  intro ac w ha hw next Q hn
  subst hw
  have e1 := congrArg List.toArray hargs
  have e2 := congrArg List.toArray htys
  simp only [Array.toArray_toList] at e1 e2
  subst e1 e2
  obtain ⟨vs, hvs, hone, hlen, hfit, hgrow⟩ := H
  obtain ⟨i, hi, hib⟩ := TTab.bytes_run hT hb w
  have hx' : ac.eval x = Sl.toV s := ha.eval hx
  have hy' : ac.eval y = Sl.toV u := ha.eval hy
  have hnew := run_firstCells (P := P) (w := w) hvs
  have hneed : s.len + u.len ≤ 2 ^ 46 := by
    have : (s.len + u.len) * 1 ≤ (s.len + u.len) * b := Nat.mul_le_mul_left _ hb1.1
    omega
  by_cases hf : s.len + u.len ≤ s.cap
  · have hk := hfit hf
    cases hsa : s.a with
    | none =>
      rw [hsa] at hk
      have : (execOp ac.eval o).run P w = .ok (.value (Sl.toV ⟨s.a, s.len + u.len, s.cap⟩)) w := by
        simp [execOp, hop, hx', hy', resolve, invoke, builtin, Builtin.append_, Result.andThen, TTab.desc_run hT ht, TTab.size_run hT hs, Sl.toV, Builtin.lenOf, hf, hsa]
        simp [Sl.toV] at hnew
        simp [hnew]
      unfold Oper.wp
      rw [this]
      exact hn _ _ (Same.refl w) ⟨_, rfl, by rw [hsa]; exact hk⟩
    | some a =>
      rw [hsa] at hk
      obtain ⟨hcan, hk⟩ := hk
      obtain ⟨w', hr, hsame, hh⟩ := run_storeCells (P := P) vs 0 w hcan hone
      have : (execOp ac.eval o).run P w = .ok (.value (Sl.toV ⟨s.a, s.len + u.len, s.cap⟩)) w' := by
        simp [execOp, hop, hx', hy', resolve, invoke, builtin, Builtin.append_, Result.andThen, TTab.desc_run hT ht, TTab.size_run hT hs, Sl.toV, Builtin.lenOf, hf, hsa]
        simp [Sl.toV] at hnew
        simp [hnew, hr]
      unfold Oper.wp
      rw [this]
      exact hn _ _ hsame ⟨_, rfl, by rw [hh, hsa]; exact hk⟩
  · have hk := hgrow (by omega)
    obtain ⟨old, hold, hk⟩ := hk
    have hcaps := nextcap_le (s.len + u.len) s.cap (by omega)
    have hbig : ¬ Builtin.nextslicecap (s.len + u.len) s.cap * b > 2 ^ 48 := by
      have h1 : Builtin.nextslicecap (s.len + u.len) s.cap * b ≤ (2 * (s.len + u.len) + 768) * b := Nat.mul_le_mul_right _ hcaps
      have h2 : (2 * (s.len + u.len) + 768) * b = 2 * ((s.len + u.len) * b) + 768 * b := by rw [Nat.add_mul, Nat.mul_assoc]
      omega
    obtain ⟨c, hceq⟩ : ∃ c, (Question.appendCap (s.len + u.len) s.cap e).cut (w.tape w.drawn (Question.appendCap (s.len + u.len) s.cap e)) = c := ⟨_, rfl⟩
    have hc : s.len + u.len ≤ c := by rw [← hceq]; simp [Question.cut]
    have hforced : (Question.appendCap (s.len + u.len) s.cap e).forced = false := rfl
    have hold' := run_firstCells (P := P) (w := w.drew) (s := s) (size := sz) (m := s.len) hold
    have hnew' := run_firstCells (P := P) (w := w.drew) (s := u) (size := sz) (m := u.len) hvs
    obtain ⟨i', hi', hib'⟩ := TTab.bytes_run hT hb w.drew
    obtain ⟨v', hv', hvc'⟩ := TTab.zero_run hT hz w.drew
    have hvc'' : v'.cells = z.toArray := by rw [← hvc']
    have hz0 := zeroCells_eq z (c - (s.len + u.len))
    have hb0 : b ≠ 0 := by omega
    have : (execOp ac.eval o).run P w = .ok (.value (Sl.toV ⟨some ⟨w.heap.size, 0, none⟩, s.len + u.len, c⟩))
        (w.drew.alloc (.cells (old ++ vs ++ List.flatten (List.replicate (c - (s.len + u.len)) z)).toArray e (0, 0))) := by
      simp [Sl.toV] at hold' hnew'
      have hbig' : ¬ 281474976710656 < Builtin.nextslicecap (s.len + u.len) s.cap * b := hbig
      simp [execOp, hop, hx', hy', resolve, invoke, builtin, Builtin.append_, Result.andThen, TTab.desc_run hT ht, TTab.size_run hT hs, Sl.toV, Builtin.lenOf, hf, hi, hib, hbig', hb0, hforced, hceq, hi', hold', hnew', hv', hvc'', hz0, newRow, newObj, Sem.run]
      rfl
    unfold Oper.wp
    rw [this]
    exact hn _ _ ⟨rfl, rfl, rfl⟩ ⟨_, rfl, hk c e _ hc (by rw [flat_len, hzl])⟩
end
end Go.Lift
