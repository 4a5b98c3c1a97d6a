/-
  Laws that the proof of this claim's statement leans on, each proved under the conditions that it states.
-/
import Derived.Test.YtmcfhickfcmkkaaGreatDoorFwA
import Derived.Laws.BytesString
set_option linter.unusedVariables false
set_option linter.unusedSimpArgs false
namespace Go.Lift
open Go
def one : Value → Bool
  | .agg _ | .tuple _ => false
  | _ => true
def cells? (h : Heap) (a : Addr) : Nat → Nat → Option (List Value)
  | 0, _ => some []
  | n + 1, i => match cell? h (a.add i), cells? h a n (i + 1) with
    | some v, some r => some (v :: r)
    | _, _ => none
def cellsO? (h : Heap) (a : Option Addr) (n : Nat) : Option (List Value) :=
  match a with
  | none => some []
  | some a => cells? h a n 0
def lX (h : Heap) (a : Addr) : Nat → Nat → Prop
  | 0, _ => True
  | n + 1, i => (∃ v, cell? h (a.add i) = some v) ∧ frozen? h (a.add i) = false ∧ lX h a n (i + 1)
def ip (h : Heap) (a : Addr) : List Value → Nat → Heap
  | [], _ => h
  | v :: r, i => ip (aS h (a.add i) v) a r (i + 1)
def bT (l : List Value) : Bool := l.all one
theorem kU {P : Program} {w : World} {a : Addr} {v : Value} (hc : cell? w.heap a = some v) : (Go.load a).run P w = .ok v w := by
  simp [Go.load, Sem.run, afN, hc]
theorem uc {P : Program} {w : World} {a : Addr} : ∀ (n i : Nat) (l : List Value) (acc : Array Value), cells? w.heap a n i = some l →
    (loadCellsFrom a i n acc).run P w = .ok (acc ++ l.toArray) w := by
  intro n
  induction n with
  | zero => intro i l acc h; simp [cells?] at h; subst h; simp [loadCellsFrom]
  | succ n ih =>
    intro i l acc h
    simp only [cells?] at h
    split at h
    · rename_i v r h1 h2
      simp only [Option.some.injEq] at h; subst h
      simp [loadCellsFrom, kU h1, Result.andThen, ih _ _ _ h2]
    · cases h
theorem gU {P : Program} {w : World} {a : Addr} {n : Nat} {l : List Value} (h : cells? w.heap a n 0 = some l) : (loadCells a n).run P w = .ok l.toArray w := by
  simp [loadCells, uc n 0 l #[] h]
theorem iI {h : Heap} {a b : Addr} {v : Value} (hne : a.block ≠ b.block ∨ a.off ≠ b.off ∨ a.spot.isSome) : cell? (aS h a v) b = cell? h b := by
  unfold cell? aS
  by_cases hb : a.block = b.block
  · rw [← hb]
    simp only [Array.getElem?_modify, if_true]
    cases hx : h[a.block]? with
    | none => simp
    | some o =>
      cases o <;> simp
      by_cases hs : a.spot.isSome
      · simp [hs]
      · rcases hne with h1 | h1 | h1
        · exact absurd hb h1
        · simp [hs, Array.getElem?_setIfInBounds_ne h1]
        · exact absurd h1 hs
  · simp [Array.getElem?_modify, hb]
theorem bK {h : Heap} {a : Addr} {v u : Value} (hc : cell? h a = some u) : cell? (aS h a v) a = some v := by
  unfold cell? at hc
  unfold cell? aS
  simp only [Array.getElem?_modify, if_true]
  cases hx : h[a.block]? with
  | none => simp [hx] at hc
  | some o =>
    cases o <;> simp [hx] at hc ⊢
    obtain ⟨hs, hc⟩ := hc
    obtain ⟨hlt, _⟩ := Array.getElem?_eq_some_iff.1 hc
    simp [hs, hlt]
theorem fv {h : Heap} {a b : Addr} {v : Value} : frozen? (aS h a v) b = frozen? h b := by
  unfold frozen? aS
  by_cases hb : a.block = b.block
  · rw [← hb]
    simp only [Array.getElem?_modify, if_true]
    cases hx : h[a.block]? with
    | none => simp
    | some o => cases o <;> simp
  · simp [Array.getElem?_modify, hb]
theorem agy {h : Heap} {a b : Addr} {v : Value} : ∀ (n i : Nat), lX h a n i → (∃ u, cell? h b = some u) → lX (aS h b v) a n i := by
  intro n
  induction n with
  | zero => intro i _ _; trivial
  | succ n ih =>
    intro i hc hb
    obtain ⟨⟨u, h1⟩, h2, h3⟩ := hc
    refine ⟨?_, by rw [fv]; exact h2, ih _ h3 hb⟩
    by_cases e : b = a.add i
    · subst e
      obtain ⟨u', hu⟩ := hb
      exact ⟨v, bK hu⟩
    · refine ⟨u, ?_⟩
      obtain ⟨u', hu⟩ := hb
      rw [iI]
      · exact h1
      · by_cases hs : b.spot.isSome
        · exact .inr (.inr hs)
        · have hs1 : b.spot = none := by cases h : b.spot <;> simp_all
          by_cases hs2 : (a.add i).spot.isSome
          · unfold cell? at h1
            split at h1
            · rw [if_pos hs2] at h1; cases h1
            · cases h1
          · have hs2 : (a.add i).spot = none := by cases h : (a.add i).spot <;> simp_all
            by_cases e1 : b.block = (a.add i).block
            · by_cases e2 : b.off = (a.add i).off
              · exfalso; apply e
                cases hb2 : a.add i with
                | mk x y z => cases b; simp_all
              · exact .inr (.inl e2)
            · exact .inl e1
theorem lS {P : Program} {w : World} {a : Addr} {u v : Value} (hc : cell? w.heap a = some u) (hf : frozen? w.heap a = false) (ho : one v = true) :
    (Go.store a v).run P w = .ok () (w.setCell a v) := by
  cases v <;> first
    | (simp [one] at ho; done)
    | simp [Go.store, Sem.run, afN, ajF, hc, hf]
theorem mh {P : Program} {a : Addr} {B : Base} : ∀ (l : List Value) (i : Nat) (h : Hp) (w : World), InW B h w → lX h.m a l.length i → bT l = true →
    ∃ w', (storeCells a l i).run P w = .ok () w' ∧ InW B ⟨ip h.m a l i, h.pv⟩ w' := by
  intro l
  induction l with
  | nil => intro i h w hi _ _; exact ⟨w, by simp [storeCells], hi⟩
  | cons v r ih =>
    intro i h w hi hc ho
    obtain ⟨⟨u, h1⟩, h2, h3⟩ := hc
    simp only [bT, List.all_cons, Bool.and_eq_true] at ho
    have hs := lS (P := P) (v := v) (hi.rel.cell h1) (hi.rel.frozen h1 h2) ho.1
    obtain ⟨w', hr, hh⟩ := ih (i + 1) ⟨aS h.m (a.add i) v, h.pv⟩ (w.setCell (a.add i) v) (hi.setCell h1) (agy _ _ h3 ⟨u, h1⟩) ho.2
    exact ⟨w', by simp [storeCells, hs, Result.andThen, hr], hh⟩
theorem Rel.cells {h : Hp} {H : Heap} (hr : Rel h H) {a : Addr} : ∀ {n i : Nat} {l : List Value}, cells? h.m a n i = some l → cells? H a n i = some l := by
  intro n
  induction n with
  | zero => intro i l h; simpa [cells?] using h
  | succ n ih =>
    intro i l h
    simp only [cells?] at h ⊢
    split at h
    · rename_i v r h1 h2
      simp only [Option.some.injEq] at h; subst h
      rw [hr.cell h1, ih h2]
    · cases h
theorem MExt.cells {h h' : Heap} (e : MExt h h') {a : Addr} : ∀ {n i : Nat} {l : List Value}, cells? h a n i = some l → cells? h' a n i = some l := by
  intro n
  induction n with
  | zero => intro i l h; simpa [cells?] using h
  | succ n ih =>
    intro i l h
    simp only [cells?] at h ⊢
    split at h
    · rename_i v r h1 h2
      simp only [Option.some.injEq] at h; subst h
      rw [e.cell h1, ih h2]
    · cases h
theorem Rel.cellsO {h : Hp} {H : Heap} (hr : Rel h H) {a : Option Addr} {n : Nat} {l : List Value} (hc : cellsO? h.m a n = some l) : cellsO? H a n = some l := by
  cases a with
  | none => exact hc
  | some a => exact hr.cells hc
theorem afI {a : Addr} (hs : a.spot = none) (i : Nat) : (a.add i).block = a.block ∧ (a.add i).off = a.off + i ∧ (a.add i).spot = none := by
  unfold Addr.add
  split
  · rename_i h; subst h; exact ⟨rfl, rfl, hs⟩
  · exact ⟨rfl, rfl, rfl⟩
theorem Rel.pcells {h : Hp} {H : Heap} (hr : Rel h H) {k : Nat} {a : Addr} {cs : List Value} (hp : h.pv[k]? = some (a.block, cs)) (hs : a.spot = none) : ∀ {n i : Nat} {l : List Value}, (cs.drop (a.off + i)).take n = l → l.length = n → cells? H a n i = some l := by
  intro n
  induction n with
  | zero => intro i l h hl; simp at h; subst h; rfl
  | succ n ih =>
    intro i l h hl
    obtain ⟨e1, e2, e3⟩ := afI hs i
    cases l with
    | nil => simp at hl
    | cons v r =>
      have hlt : a.off + i < cs.length := by
        rcases Nat.lt_or_ge (a.off + i) cs.length with h' | h'
        · exact h'
        · rw [List.drop_eq_nil_of_le h'] at h; simp at h
      rw [List.drop_eq_getElem_cons hlt, List.take_succ_cons] at h
      injection h with h1 h2
      have hc : cell? H (a.add i) = some v := hr.pcell (i := k) (by rw [e1]; exact hp) e3 (by rw [e2, List.getElem?_eq_getElem hlt, h1])
      have hr' := ih (i := i + 1) (l := r) (by rw [← h2]; rfl) (by simpa using hl)
      simp only [cells?, hc, hr']
def jq (cs : List Value) (off : Nat) : List Value → List Value
  | [] => cs
  | v :: r => jq (cs.set off v) (off + 1) r
theorem zj {P : Program} {a : Addr} {B : Base} {k : Nat} (hs : a.spot = none) : ∀ (l : List Value) (i : Nat) (h : Hp) (w : World) (cs : List Value), InW B h w → h.pv[k]? = some (a.block, cs) → a.off + i + l.length ≤ cs.length → bT l = true →
    ∃ w', (storeCells a l i).run P w = .ok () w' ∧ InW B ⟨h.m, h.pv.set k (a.block, jq cs (a.off + i) l)⟩ w' := by
  intro l
  induction l with
  | nil =>
    intro i h w cs hi hp _ _
    refine ⟨w, by simp [storeCells], ?_⟩
    have : h.pv.set k (a.block, jq cs (a.off + i) []) = h.pv := by
      apply List.ext_getElem?
      intro j
      rw [List.getElem?_set]
      by_cases e : k = j
      · subst e; rw [if_pos rfl, hp]; simp [(List.getElem?_eq_some_iff.1 hp).1, jq]
      · rw [if_neg e]
    rw [this]; exact hi
  | cons v r ih =>
    intro i h w cs hi hp hle ho
    simp only [List.length_cons] at hle
    obtain ⟨e1, e2, e3⟩ := afI hs i
    simp only [bT, List.all_cons, Bool.and_eq_true] at ho
    have hp' : h.pv[k]? = some ((a.add i).block, cs) := by rw [e1]; exact hp
    have hc : cell? w.heap (a.add i) = some (cs[a.off + i]'(by omega)) := hi.rel.pcell hp' e3 (by rw [e2]; exact List.getElem?_eq_getElem (by omega))
    have hst := lS (P := P) (v := v) hc (hi.rel.pfrozen hp') ho.1
    have hi2 := hi.setP (v := v) hp' e3
    rw [e1, e2] at hi2
    have hlen : k < h.pv.length := (List.getElem?_eq_some_iff.1 hp).1
    obtain ⟨w', hr, hh⟩ := ih (i + 1) ⟨h.m, h.pv.set k (a.block, cs.set (a.off + i) v)⟩ (w.setCell (a.add i) v) (cs.set (a.off + i) v) hi2 (by simp [hlen]) (by simp; omega) ho.2
    refine ⟨w', by simp [storeCells, hst, Result.andThen, hr], ?_⟩
    simp only [List.set_set] at hh
    exact hh
structure Sl where
  a : Option Addr
  len : Nat
  cap : Nat
def Sl.toV (s : Sl) : Value := .slice s.a s.len s.cap
def Sl.nil : Sl := ⟨none, 0, 0⟩
def load {α : Type} (toV : α → Value) (a : Addr) (h : Heap) (k : α → Prop) : Prop := ∃ x, cell? h a = some (toV x) ∧ k x
def cg {α : Type} (toC : α → List Value) (n : Nat) (a : Addr) (h : Heap) (k : α → Prop) : Prop := ∃ x, cells? h a n 0 = some (toC x) ∧ k x
def amL (a : Addr) (v : Value) (h : Heap) (k : Heap → Prop) : Prop := (∃ u, cell? h a = some u) ∧ frozen? h a = false ∧ k (aS h a v)
def dk (a : Addr) (vs : List Value) (h : Heap) (k : Heap → Prop) : Prop := lX h a vs.length 0 ∧ k (ip h a vs 0)
def new (cs : List Value) (h : Heap) (k : Addr → Heap → Prop) : Prop := ∀ T, k ⟨h.size, 0, none⟩ (h.push (.cells cs.toArray T (0, 0)))
def ah (p : Option Addr) (k : Addr → Prop) : Prop := ∃ a, p = some a ∧ k a
def idxS (s : Sl) (i : Int) (sz : Nat) (k : Addr → Prop) : Prop := ∃ a, s.a = some a ∧ (0 ≤ i ∧ i < s.len) ∧ k (a.add (i.toNat * sz))
def idxA (a : Addr) (len : Nat) (i : Int) (sz : Nat) (k : Addr → Prop) : Prop := (0 ≤ i ∧ i < len) ∧ k (a.add (i.toNat * sz))
def idxV {α : Type} (toV : α → Value) (cs : List Value) (len : Nat) (i : Int) (sz : Nat) (k : α → Prop) : Prop := (0 ≤ i ∧ i < len) ∧ ∃ x, cs[i.toNat * sz]? = some (toV x) ∧ k x
def am8 (s : ByteArray) (i : Int) (k : Int → Prop) : Prop := 0 ≤ i ∧ ∃ b, s.data[i.toNat]? = some b ∧ k (b.toNat : Int)
def ki (s : Sl) (lo hi mx : Option Int) (sz : Nat) (k : Sl → Prop) : Prop :=
  let m : Int := mx.getD s.cap
  let e : Int := hi.getD s.len
  let b : Int := lo.getD 0
  (0 ≤ m ∧ m ≤ s.cap) ∧ (0 ≤ e ∧ (hi = none ∨ e ≤ m)) ∧ (0 ≤ b ∧ b ≤ e) ∧ k ⟨if m = b then s.a else s.a.map (·.add (b.toNat * sz)), e.toNat - b.toNat, m.toNat - b.toNat⟩
def amA (s : ByteArray) (lo hi : Option Int) (k : ByteArray → Prop) : Prop :=
  let e : Int := hi.getD s.size
  let b : Int := lo.getD 0
  (0 ≤ e ∧ e ≤ s.size) ∧ (0 ≤ b ∧ b ≤ e) ∧ k (s.extract b.toNat e.toNat)
def mkS (z : List Value) (bytes : Nat) (len cap : Int) (h : Heap) (k : Sl → Heap → Prop) : Prop :=
  (0 ≤ len ∧ len ≤ cap ∧ cap * bytes ≤ 2 ^ 46) ∧ ∀ T, k ⟨some ⟨h.size, 0, none⟩, len.toNat, cap.toNat⟩ (h.push (.cells (List.flatten (List.replicate cap.toNat z)).toArray T (0, 0)))
def aP (sz bytes : Nat) (s x : Sl) (h : Heap) (k : Sl → Heap → Prop) : Prop :=
  ∃ vs, cellsO? h x.a (x.len * sz) = some vs ∧ bT vs = true ∧ (s.len + x.len) * bytes ≤ 2 ^ 46 ∧
    (s.len + x.len ≤ s.cap → match s.a with
      | none => k ⟨s.a, s.len + x.len, s.cap⟩ h
      | some a => lX h (a.add (s.len * sz)) vs.length 0 ∧ k ⟨s.a, s.len + x.len, s.cap⟩ (ip h (a.add (s.len * sz)) vs 0)) ∧
    (s.cap < s.len + x.len → ∃ old, cellsO? h s.a (s.len * sz) = some old ∧
      ∀ (cap : Nat) T (rest : List Value), s.len + x.len ≤ cap → rest.length = (cap - (s.len + x.len)) * sz →
        k ⟨some ⟨h.size, 0, none⟩, s.len + x.len, cap⟩ (h.push (.cells (old ++ vs ++ rest).toArray T (0, 0))))
section
variable {P : Program} {T : TTab} {n : Nat} {L : Frm} {h : Hp} {o : Oper} {B : Base}
def lN (T : TTab) (t : Nat) : Bool := match T.desc t with
  | some (.struct _) | some (.array _ _) => false
  | some _ => true
  | none => false
def oL (T : TTab) (t : Nat) : Bool := match T.desc t with
  | some (.struct _) | some (.array _ _) => true
  | _ => false
theorem jC (hT : TTab.Ok P T) {t : Nat} (h : lN T t = true) (w : World) : (isAgg t).run P w = .ok false w := by
  unfold lN at h
  cases hd : T.desc t with
  | none => simp [hd] at h
  | some d => rw [TTab.isAgg_run hT hd]; cases d <;> simp_all
theorem mH (hT : TTab.Ok P T) {t : Nat} (h : oL T t = true) (w : World) : (isAgg t).run P w = .ok true w := by
  unfold oL at h
  cases hd : T.desc t with
  | none => simp [hd] at h
  | some d => rw [TTab.isAgg_run hT hd]; cases d <;> simp_all
theorem Quiet1.load {t : Nat} {x : Operand} {a : Addr} {v : Value} (hT : TTab.Ok P T) (hop : o.op = .load t x) (ht : lN T t = true) (hx : L.ev x = some (.pointer (some a))) (hc : cell? h.m a = some v) : Quiet1 P n L h o v := by
  intro ac w ha hw
  simp [execOp, hop, ha.eval hx, Instr.loadAt, Instr.sureAddr, loadVar, jC hT ht, Result.andThen, kU (hw.cell hc)]
theorem Quiet1.loadS {t s : Nat} {x : Operand} {a : Addr} {l : List Value} (hT : TTab.Ok P T) (hop : o.op = .load t x) (ht : oL T t = true) (hs : T.size t = some s) (hx : L.ev x = some (.pointer (some a))) (hc : cells? h.m a s 0 = some l) : Quiet1 P n L h o (.agg l.toArray) := by
  intro ac w ha hw
  simp [execOp, hop, ha.eval hx, Instr.loadAt, Instr.sureAddr, loadVar, mH hT ht, Result.andThen, TTab.size_run hT hs, gU (hw.cells hc)]
theorem Quiet1.nilChk {x : Operand} {p : Option Addr} {a : Addr} (hop : o.op = .nilCheck x) (hx : L.ev x = some (.pointer p)) (hp : p = some a) : Quiet1 P n L h o (.pointer (some a)) := by
  intro ac w ha hw
  subst hp
  simp [execOp, hop, ha.eval hx]
theorem Quiet1.idxS {t e sz : Nat} {x i : Operand} {s : Sl} {a : Addr} {k : IntKind} {j : Int} (hT : TTab.Ok P T) (hop : o.op = .indexAddr t x i) (ht : T.desc t = some (.slice e)) (hs : T.size e = some sz)
    (hx : L.ev x = some (.slice s.a s.len s.cap)) (hi : L.ev i = some (.int k j)) (h1 : s.a = some a) (h2 : 0 ≤ j ∧ j < s.len) : Quiet1 P n L h o (.pointer (some (a.add (j.toNat * sz)))) := by
  intro ac w ha hw
  simp [execOp, hop, ha.eval hx, ha.eval hi, Instr.indexAt, asIntOf, Result.andThen, TTab.desc_run hT ht, h1, h2, TTab.size_run hT hs]
theorem Quiet1.idxV {t e sz len : Nat} {x i : Operand} {cs : List Value} {k : IntKind} {j : Int} {v : Value} (hT : TTab.Ok P T) (hop : o.op = .index t x i) (ht : T.desc t = some (.array len e)) (hs : T.size e = some sz) (he : lN T e = true)
    (hx : L.ev x = some (.agg cs.toArray)) (hi : L.ev i = some (.int k j)) (h2 : 0 ≤ j ∧ j < len) (hv : cs[j.toNat * sz]? = some v) : Quiet1 P n L h o v := by
  intro ac w ha hw
  simp [execOp, hop, ha.eval hx, ha.eval hi, Instr.index, asIntOf, Result.andThen, TTab.desc_run hT ht, h2, TTab.size_run hT hs, part, jC hT he, hv]
theorem Quiet1.idxStr {t : Nat} {x i : Operand} {s : ByteArray} {k : IntKind} {j : Int} {b : UInt8} (hT : TTab.Ok P T) (hop : o.op = .index t x i) (ht : T.desc t = some .string)
    (hx : L.ev x = some (.string s)) (hi : L.ev i = some (.int k j)) (h2 : 0 ≤ j) (hv : s.data[j.toNat]? = some b) : Quiet1 P n L h o (.int .u8 (b.toNat : Int)) := by
  intro ac w ha hw
  have : s[j.toNat]? = some b := by
    obtain ⟨hlt, he⟩ := Array.getElem?_eq_some_iff.1 hv
    rw [getElem?_pos s j.toNat hlt]
    exact congrArg some he
  simp [execOp, hop, ha.eval hx, ha.eval hi, Instr.index, asIntOf, Result.andThen, TTab.desc_run hT ht, h2, this]
theorem Eff.store {t : Nat} {x y : Operand} {a : Addr} {v : Value} {k : Heap → Prop} (hT : TTab.Ok P T) (hop : o.op = .store t x y) (hs : T.size t = some 1) (hx : L.ev x = some (.pointer (some a))) (hy : L.ev y = some v) (ho : one v = true) (H : Lift.amL a v h.m k) :
    Eff P n B L h o (fun _ h' => ∃ m, h' = ⟨m, h.pv⟩ ∧ k m) := by
  intro ac w ha hw next Q hn
  obtain ⟨⟨u, h1⟩, h2, h3⟩ := H
  have hcs : v.cells = #[v] := by cases v <;> first | rfl | (simp [one] at ho)
  have ha0 : a.add 0 = a := by simp [Addr.add]
  have : (execOp ac.eval o).run P w = .ok .skip (w.setCell a v) := by
    simp [execOp, hop, ha.eval hx, ha.eval hy, Instr.storeAt, Instr.sureAddr, storeVar, Result.andThen, TTab.size_run hT hs, hcs, storeCells, ha0, lS (hw.rel.cell h1) (hw.rel.frozen h1 h2) ho]
  unfold Oper.wp
  rw [this]
  exact hn _ _ _ (hw.setCell h1) ⟨_, rfl, h3⟩
theorem Eff.storeS {t s : Nat} {x y : Operand} {a : Addr} {vs : List Value} {k : Heap → Prop} (hT : TTab.Ok P T) (hop : o.op = .store t x y) (hs : T.size t = some s) (hx : L.ev x = some (.pointer (some a))) (hy : L.ev y = some (.agg vs.toArray)) (hl : vs.length = s) (ho : bT vs = true) (H : Lift.dk a vs h.m k) :
    Eff P n B L h o (fun _ h' => ∃ m, h' = ⟨m, h.pv⟩ ∧ k m) := by
  intro ac w ha hw next Q hn
  obtain ⟨h1, h2⟩ := H
  obtain ⟨w', hr, hh⟩ := mh (P := P) vs 0 h w hw h1 ho
  have : (execOp ac.eval o).run P w = .ok .skip w' := by
    simp [execOp, hop, ha.eval hx, ha.eval hy, Instr.storeAt, Instr.sureAddr, storeVar, Result.andThen, TTab.size_run hT hs, Value.cells, hl, hr]
  unfold Oper.wp
  rw [this]
  exact hn _ _ _ hh ⟨_, rfl, h2⟩
theorem Eff.box {t : Nat} {x : Operand} {v : Value} {cs : List Value} {k : Addr → Heap → Prop} (hop : o.op = .box t x) (hx : L.ev x = some v) (hcs : v.cells = cs.toArray) (H : Lift.new cs h.m k) :
    Eff P n B L h o (fun u h' => ∃ a m, u = .pointer (some a) ∧ h' = ⟨m, h.pv⟩ ∧ k a m) := by
  intro ac w ha hw next Q hn
  have : (execOp ac.eval o).run P w = .ok (.value (.pointer (some ⟨h.m.size, 0, none⟩))) { w with heap := w.heap.push (.cells cs.toArray t) } := by
    simp [execOp, hop, ha.eval hx, Instr.box, newVar, newRow, newObj, Sem.run, Result.andThen, hcs, hw.rel.size]
  unfold Oper.wp
  rw [this]
  exact hn _ _ _ (hw.push ⟨rfl, rfl, rfl, (by first | exact Nat.le_refl _ | exact Nat.le_succ _ | (simp [World.drew]; done))⟩ rfl) ⟨_, _, rfl, rfl, H t⟩
theorem Eff.boxP {t : Nat} {x : Operand} {v : Value} {cs : List Value} {k : Heap → Prop} (hop : o.op = .box t x) (hx : L.ev x = some v) (hcs : v.cells = cs.toArray) (H : Lift.mem h.m k) :
    Eff P n B L h o (fun u h' => ∃ b m, u = .pointer (some ⟨b, 0, none⟩) ∧ h' = ⟨m, (b, cs) :: h.pv⟩ ∧ MExt h.m m ∧ Lift.mem m k) := by
  intro ac w ha hw next Q hn
  have : (execOp ac.eval o).run P w = .ok (.value (.pointer (some ⟨h.m.size, 0, none⟩))) { w with heap := w.heap.push (.cells cs.toArray t) } := by
    simp [execOp, hop, ha.eval hx, Instr.box, newVar, newRow, newObj, Sem.run, Result.andThen, hcs, hw.rel.size]
  unfold Oper.wp
  rw [this]
  exact hn _ _ _ (hw.pushP ⟨rfl, rfl, rfl, (by first | exact Nat.le_refl _ | exact Nat.le_succ _ | (simp [World.drew]; done))⟩ rfl) ⟨_, _, rfl, rfl, MExt.push _ _, H.push _⟩
theorem Eff.alloc {t : Nat} {cs : List Value} {k : Addr → Heap → Prop} (hT : TTab.Ok P T) (hop : o.op = .alloc t) (hz : T.zero t = some cs) (H : Lift.new cs h.m k) :
    Eff P n B L h o (fun u h' => ∃ a m, u = .pointer (some a) ∧ h' = ⟨m, h.pv⟩ ∧ k a m) := by
  intro ac w ha hw next Q hn
  obtain ⟨v, hv, hvc⟩ := TTab.zero_run hT hz w
  have hcs : v.cells = cs.toArray := by rw [← hvc]
  have : (execOp ac.eval o).run P w = .ok (.value (.pointer (some ⟨h.m.size, 0, none⟩))) { w with heap := w.heap.push (.cells cs.toArray t) } := by
    simp [execOp, hop, Instr.alloc, newVar, newRow, newObj, Sem.run, Result.andThen, hv, hcs, hw.rel.size]
  unfold Oper.wp
  rw [this]
  exact hn _ _ _ (hw.push ⟨rfl, rfl, rfl, (by first | exact Nat.le_refl _ | exact Nat.le_succ _ | (simp [World.drew]; done))⟩ rfl) ⟨_, _, rfl, rfl, H t⟩
theorem Eff.allocP {t : Nat} {cs : List Value} {k : Heap → Prop} (hT : TTab.Ok P T) (hop : o.op = .alloc t) (hz : T.zero t = some cs) (H : Lift.mem h.m k) :
    Eff P n B L h o (fun u h' => ∃ b m, u = .pointer (some ⟨b, 0, none⟩) ∧ h' = ⟨m, (b, cs) :: h.pv⟩ ∧ MExt h.m m ∧ Lift.mem m k) := by
  intro ac w ha hw next Q hn
  obtain ⟨v, hv, hvc⟩ := TTab.zero_run hT hz w
  have hcs : v.cells = cs.toArray := by rw [← hvc]
  have : (execOp ac.eval o).run P w = .ok (.value (.pointer (some ⟨h.m.size, 0, none⟩))) { w with heap := w.heap.push (.cells cs.toArray t) } := by
    simp [execOp, hop, Instr.alloc, newVar, newRow, newObj, Sem.run, Result.andThen, hv, hcs, hw.rel.size]
  unfold Oper.wp
  rw [this]
  exact hn _ _ _ (hw.pushP ⟨rfl, rfl, rfl, (by first | exact Nat.le_refl _ | exact Nat.le_succ _ | (simp [World.drew]; done))⟩ rfl) ⟨_, _, rfl, rfl, MExt.push _ _, H.push _⟩
theorem Quiet1.loadP {t i : Nat} {x : Operand} {a : Addr} {cs : List Value} {v : Value} (hT : TTab.Ok P T) (hop : o.op = .load t x) (ht : lN T t = true) (hx : L.ev x = some (.pointer (some a))) (hp : h.pv[i]? = some (a.block, cs)) (hs : a.spot = none) (hv : cs[a.off]? = some v) : Quiet1 P n L h o v := by
  intro ac w ha hw
  simp [execOp, hop, ha.eval hx, Instr.loadAt, Instr.sureAddr, loadVar, jC hT ht, Result.andThen, kU (hw.pcell hp hs hv)]
theorem Quiet1.loadSP {t s i : Nat} {x : Operand} {a : Addr} {l cs : List Value} (hT : TTab.Ok P T) (hop : o.op = .load t x) (ht : oL T t = true) (hs : T.size t = some s) (hx : L.ev x = some (.pointer (some a))) (hp : h.pv[i]? = some (a.block, cs)) (hsp : a.spot = none) (hv : (cs.drop a.off).take s = l) (hl : l.length = s) : Quiet1 P n L h o (.agg l.toArray) := by
  intro ac w ha hw
  simp [execOp, hop, ha.eval hx, Instr.loadAt, Instr.sureAddr, loadVar, mH hT ht, Result.andThen, TTab.size_run hT hs, gU (hw.pcells (i := 0) hp hsp hv hl)]
theorem Eff.storeP {t i : Nat} {x y : Operand} {a : Addr} {v : Value} {cs : List Value} {qv : List (Nat × List Value)} (hT : TTab.Ok P T) (hop : o.op = .store t x y) (hs : T.size t = some 1) (hx : L.ev x = some (.pointer (some a))) (hy : L.ev y = some v) (ho : one v = true) (hp : h.pv[i]? = some (a.block, cs)) (hsp : a.spot = none) (hle : Nat.blt a.off cs.length = true) (hq : h.pv.set i (a.block, cs.set a.off v) = qv) :
    Eff P n B L h o (fun _ h' => h' = ⟨h.m, qv⟩) := by
  intro ac w ha hw next Q hn
  have hcs : v.cells = #[v] := by cases v <;> first | rfl | (simp [one] at ho)
  have ha0 : a.add 0 = a := by simp [Addr.add]
  have hlt : a.off < cs.length := by simpa [Nat.blt_eq] using hle
  have : (execOp ac.eval o).run P w = .ok .skip (w.setCell a v) := by
    simp [execOp, hop, ha.eval hx, ha.eval hy, Instr.storeAt, Instr.sureAddr, storeVar, Result.andThen, TTab.size_run hT hs, hcs, storeCells, ha0, lS (hw.rel.pcell hp hsp (List.getElem?_eq_getElem hlt)) (hw.rel.pfrozen hp) ho]
  unfold Oper.wp
  rw [this]
  have h2 := hw.setP (v := v) hp hsp
  rw [hq] at h2
  exact hn _ _ _ h2 rfl
theorem Eff.storeSP {t s i : Nat} {x y : Operand} {a : Addr} {vs cs : List Value} {qv : List (Nat × List Value)} (hT : TTab.Ok P T) (hop : o.op = .store t x y) (hs : T.size t = some s) (hx : L.ev x = some (.pointer (some a))) (hy : L.ev y = some (.agg vs.toArray)) (hl : vs.length = s) (ho : bT vs = true) (hp : h.pv[i]? = some (a.block, cs)) (hsp : a.spot = none) (hle : Nat.ble (a.off + s) cs.length = true) (hq : h.pv.set i (a.block, jq cs a.off vs) = qv) :
    Eff P n B L h o (fun _ h' => h' = ⟨h.m, qv⟩) := by
  intro ac w ha hw next Q hn
  have hle' : a.off + 0 + vs.length ≤ cs.length := by have := Nat.le_of_ble_eq_true hle; omega
  obtain ⟨w', hr, hh⟩ := zj (P := P) (k := i) hsp vs 0 h w cs hw hp hle' ho
  have : (execOp ac.eval o).run P w = .ok .skip w' := by
    simp [execOp, hop, ha.eval hx, ha.eval hy, Instr.storeAt, Instr.sureAddr, storeVar, Result.andThen, TTab.size_run hT hs, Value.cells, hl, hr]
  unfold Oper.wp
  rw [this]
  rw [Nat.add_zero, hq] at hh
  exact hn _ _ _ hh rfl
theorem Quiet1.sliceOf {t e sz : Nat} {x : Operand} {lo hi mx : Option Operand} {s : Sl} {lo' hi' mx' : Option Int} {k : Sl → Prop} (hT : TTab.Ok P T) (hop : o.op = .slice t x lo hi mx) (ht : T.desc t = some (.slice e)) (hs : T.size e = some sz)
    (hx : L.ev x = some (.slice s.a s.len s.cap)) (hlo : lo.map L.ev = lo'.map (fun j => some (.int .i64 j))) (hhi : hi.map L.ev = hi'.map (fun j => some (.int .i64 j))) (hmx : mx.map L.ev = mx'.map (fun j => some (.int .i64 j)))
    (hhm : hi = none → mx = none) (H : Lift.ki s lo' hi' mx' sz k) : ∃ r, Quiet1 P n L h o (Sl.toV r) ∧ k r := by
  obtain ⟨⟨m0, m1⟩, ⟨e0, e1⟩, ⟨b0, b1⟩, hk⟩ := H
  refine ⟨_, ?_, hk⟩
  intro ac w ha hw
  have ev : ∀ {x : Operand} {u : Value}, L.ev x = some u → ac.eval x = u := fun hx => ha.eval hx
  have conv : ∀ (p : Option Operand) (q : Option Int), p.map L.ev = q.map (fun j => some (.int .i64 j)) → p.map ac.eval = q.map (fun j => Value.int .i64 j) := by
    intro p q hpq
    cases p <;> cases q <;> simp at hpq ⊢
    exact ev hpq
  have bnd : ∀ (j : Int) (y : Nat) (c : BoundsCode), 0 ≤ j → j ≤ y → (Instr.sliceBound (.int .i64 j) y c).run P w = .ok j.toNat w := by
    intro j y c h1 h2
    simp [Instr.sliceBound, asIntOf, h1, h2]
  simp only [execOp, hop, ev hx, conv _ _ hlo, conv _ _ hhi, conv _ _ hmx]
  have key : (Instr.sliceBounds true s.len s.cap (lo'.map (fun j => Value.int .i64 j)) (hi'.map (fun j => Value.int .i64 j)) (mx'.map (fun j => Value.int .i64 j))).run P w = .ok ((lo'.getD 0).toNat, (hi'.getD s.len).toNat, (mx'.getD s.cap).toNat) w := by
    cases mx' with
    | none =>
      cases hi' with
      | none =>
        cases lo' with
        | none => simp [Instr.sliceBounds]
        | some b =>
          simp only [Option.getD_some, Option.getD_none] at b0 b1
          simp [Instr.sliceBounds, Result.andThen, bnd b s.len _ b0 b1]
      | some e =>
        simp only [Option.getD_some, Option.getD_none, reduceCtorEq, false_or] at e0 e1 b1 b0
        have he := bnd e s.cap .sliceAcap e0 e1
        cases lo' with
        | none => simp [Instr.sliceBounds, Result.andThen, he]
        | some b =>
          simp only [Option.getD_some] at b0 b1
          simp [Instr.sliceBounds, Result.andThen, he, bnd b e.toNat _ b0 (by omega)]
    | some m =>
      simp only [Option.getD_some] at m0 m1 e1
      have hm := bnd m s.cap .slice3Acap m0 m1
      cases hi' with
      | none =>
        exfalso
        have hmn : hi = none := by cases hi <;> simp_all
        have := hhm hmn
        subst this
        simp at hmx
      | some e =>
        simp only [Option.getD_some, reduceCtorEq, false_or] at e0 e1 b1 b0
        have he := bnd e m.toNat .slice3B e0 (by omega)
        cases lo' with
        | none => simp [Instr.sliceBounds, Result.andThen, he, hm]
        | some b =>
          simp only [Option.getD_some] at b0 b1
          simp [Instr.sliceBounds, Result.andThen, he, hm, bnd b e.toNat _ b0 (by omega)]
  have hcond : ((mx'.getD (s.cap : Int)).toNat = (lo'.getD 0).toNat) ↔ (mx'.getD (s.cap : Int) = lo'.getD 0) := by omega
  simp [Instr.sliceAt, Instr.slice, Result.andThen, TTab.desc_run hT ht, TTab.size_run hT hs, key, Sl.toV, hcond]
theorem Quiet1.sliceStr {t : Nat} {x : Operand} {lo hi : Option Operand} {s : ByteArray} {lo' hi' : Option Int} {k : ByteArray → Prop} (hT : TTab.Ok P T) (hop : o.op = .slice t x lo hi none) (ht : T.desc t = some .string)
    (hx : L.ev x = some (.string s)) (hlo : lo.map L.ev = lo'.map (fun j => some (.int .i64 j))) (hhi : hi.map L.ev = hi'.map (fun j => some (.int .i64 j)))
    (H : Lift.amA s lo' hi' k) : ∃ r, Quiet1 P n L h o (.string r) ∧ k r := by
  obtain ⟨⟨e0, e1⟩, ⟨b0, b1⟩, hk⟩ := H
  refine ⟨_, ?_, hk⟩
  intro ac w ha hw
  have ev : ∀ {x : Operand} {u : Value}, L.ev x = some u → ac.eval x = u := fun hx => ha.eval hx
  have conv : ∀ (p : Option Operand) (q : Option Int), p.map L.ev = q.map (fun j => some (.int .i64 j)) → p.map ac.eval = q.map (fun j => Value.int .i64 j) := by
    intro p q hpq
    cases p <;> cases q <;> simp at hpq ⊢
    exact ev hpq
  have bnd : ∀ (j : Int) (y : Nat) (c : BoundsCode), 0 ≤ j → j ≤ y → (Instr.sliceBound (.int .i64 j) y c).run P w = .ok j.toNat w := by
    intro j y c h1 h2
    simp [Instr.sliceBound, asIntOf, h1, h2]
  simp only [execOp, hop, ev hx, conv _ _ hlo, conv _ _ hhi]
  have key : (Instr.sliceBounds false s.size s.size (lo'.map (fun j => Value.int .i64 j)) (hi'.map (fun j => Value.int .i64 j)) none).run P w = .ok ((lo'.getD 0).toNat, (hi'.getD s.size).toNat, s.size) w := by
    cases hi' with
    | none =>
      cases lo' with
      | none => simp [Instr.sliceBounds]
      | some b =>
        simp only [Option.getD_some, Option.getD_none] at b0 b1
        simp [Instr.sliceBounds, Result.andThen, bnd b s.size _ b0 b1]
    | some e =>
      simp only [Option.getD_some] at e0 e1 b1 b0
      have he := bnd e s.size .sliceAlen e0 e1
      cases lo' with
      | none => simp [Instr.sliceBounds, Result.andThen, he]
      | some b =>
        simp only [Option.getD_some] at b0 b1
        simp [Instr.sliceBounds, Result.andThen, he, bnd b e.toNat _ b0 (by omega)]
  simp [Instr.sliceAt, Instr.slice, Result.andThen, TTab.desc_run hT ht, key]
theorem ach (z : List Value) : ∀ c : Nat, (Array.range (c * z.length)).map (fun i => z.toArray[i % z.toArray.size]!) = (List.flatten (List.replicate c z)).toArray := by
  intro c
  apply Array.ext'
  simp only [Array.toList_map, Array.toList_range]
  induction c with
  | zero => simp
  | succ c ih =>
    have hz : ∀ i, i < z.length → z.toArray[i % z.toArray.size]! = z[i]! := by
      intro i hi; simp [Nat.mod_eq_of_lt hi]
    rw [Nat.add_mul, Nat.one_mul, Nat.add_comm, List.range_add]
    simp only [List.map_append, List.map_map, List.replicate_succ, List.flatten_cons]
    congr 1
    · apply List.ext_getElem
      · simp
      · intro i h1 h2
        simp only [List.length_map, List.length_range] at h1
        simp only [List.getElem_map, List.getElem_range]
        rw [hz i h1, getElem!_pos z i h1]
    · rw [← ih]
      apply List.map_congr_left
      intro i _
      simp [Function.comp]
theorem pe (z : List Value) (c : Nat) : Builtin.zeroCells z.toArray c = (List.flatten (List.replicate c z)).toArray := by
  unfold Builtin.zeroCells
  have := ach z c
  simpa using this
theorem nr (z : List Value) (c : Nat) : (List.flatten (List.replicate c z)).length = c * z.length := by
  induction c with
  | zero => simp
  | succ c ih => simp [List.replicate_succ, ih, Nat.add_mul, Nat.add_comm]
theorem Eff.mkS {t e sz b : Nat} {x y : Operand} {k1 k2 : IntKind} {z : List Value} {len cap : Int} {k : Sl → Heap → Prop} (hT : TTab.Ok P T) (hop : o.op = .makeSlice t x y) (ht : T.desc t = some (.slice e)) (hs : T.size e = some sz) (hb : T.bytes e = some b) (hz : T.zero e = some z) (hzl : z.length = sz)
    (hx : L.ev x = some (.int k1 len)) (hy : L.ev y = some (.int k2 cap)) (hb1 : 1 ≤ b) (H : Lift.mkS z b len cap h.m k) :
    Eff P n B L h o (fun u h' => ∃ r m, u = Sl.toV r ∧ h' = ⟨m, h.pv⟩ ∧ k r m) := by
  intro ac w ha hw next Q hn
  have hsz := hw.rel.size
  obtain ⟨⟨h1, h2, h3⟩, hk⟩ := H
  obtain ⟨i, hi, hib⟩ := TTab.bytes_run hT hb w
  obtain ⟨v, hv, hvc⟩ := TTab.zero_run hT hz w
  have hvc' : v.cells = z.toArray := by rw [← hvc]
  have hcap : cap ≤ 2 ^ 46 := by
    have : cap * 1 ≤ cap * b := Int.mul_le_mul_of_nonneg_left (by omega) (by omega)
    omega
  have w1 : IntKind.i64.wrap cap = cap := by rw [IntKind.wrap_i64]; omega
  have w2 : IntKind.i64.wrap len = len := by rw [IntKind.wrap_i64]; omega
  have : (execOp ac.eval o).run P w = .ok (.value (Sl.toV ⟨some ⟨h.m.size, 0, none⟩, len.toNat, cap.toNat⟩)) { w with heap := w.heap.push (.cells (List.flatten (List.replicate cap.toNat z)).toArray e (0, 0)) } := by
    have hm : (Int.ofNat b) * cap ≤ 2 ^ 48 := by
      have : (b : Int) * cap = cap * b := Int.mul_comm _ _
      simp only [Int.ofNat_eq_natCast]; omega
    have c1 : ¬ cap < 0 := by omega
    have c2 : ¬ (281474976710656 : Int) < (b : Int) * cap := by simp only [Int.ofNat_eq_natCast] at hm; omega
    have c3 : ¬ len < 0 := by omega
    have c4 : ¬ len > cap := by omega
    by_cases h0 : cap.toNat * sz = 0
    · have hfl : List.flatten (List.replicate cap.toNat z) = [] := by
        apply List.eq_nil_of_length_eq_zero
        rw [nr, hzl, h0]
      simp [execOp, hop, ha.eval hx, ha.eval hy, Instr.makeSlice, asInt, asIntOf, Result.andThen, TTab.desc_run hT ht, hi, hib, w1, w2, c1, c2, c3, c4, TTab.size_run hT hs, h0, hfl, newRow, newObj, Sem.run, Sl.toV, hsz]
      simp [show Array.range 0 = #[] from rfl]
    · have hmr := ach z cap.toNat
      rw [hzl] at hmr
      simp [execOp, hop, ha.eval hx, ha.eval hy, Instr.makeSlice, asInt, asIntOf, Result.andThen, TTab.desc_run hT ht, hi, hib, w1, w2, c1, c2, c3, c4, TTab.size_run hT hs, h0, hv, hvc', newRow, newObj, Sem.run, Sl.toV, hsz]
      simp at hmr
      rw [hmr]
  unfold Oper.wp
  rw [this]
  exact hn _ _ _ (hw.push ⟨rfl, rfl, rfl, (by first | exact Nat.le_refl _ | exact Nat.le_succ _ | (simp [World.drew]; done))⟩ rfl) ⟨_, _, rfl, rfl, hk e⟩
theorem aiD (newLen : Nat) : ∀ (r c B : Nat), c ≤ B → newLen + (newLen + 768) / 4 ≤ B → Builtin.growBy newLen r c ≤ B := by
  intro r
  induction r with
  | zero => intro c B h1 _; exact h1
  | succ r ih =>
    intro c B h1 h2
    unfold Builtin.growBy
    split
    · exact h1
    · apply ih _ _ _ h2
      omega
theorem aaM (newLen oldCap : Nat) (h : oldCap < newLen) : Builtin.nextslicecap newLen oldCap ≤ 2 * newLen + 768 := by
  unfold Builtin.nextslicecap
  split
  · omega
  · split
    · omega
    · apply aiD <;> omega
theorem jK {w : World} {s : Sl} {size m : Nat} {l : List Value} (h : cellsO? w.heap s.a (m * size) = some l) : (Builtin.firstCells size m (Sl.toV s)).run P w = .ok l.toArray w := by
  unfold Sl.toV
  cases hs : s.a with
  | none => simp [hs, cellsO?] at h; subst h; simp [Builtin.firstCells]
  | some a => simp [hs, cellsO?] at h; simp [Builtin.firstCells, gU h]
theorem cells?_length {h : Heap} {a : Addr} : ∀ (n i : Nat) (l : List Value), cells? h a n i = some l → l.length = n := by
  intro n
  induction n with
  | zero => intro i l h; simp [cells?] at h; subst h; rfl
  | succ n ih =>
    intro i l hc
    simp only [cells?] at hc
    split at hc
    · rename_i v r h1 h2
      simp only [Option.some.injEq] at hc; subst hc
      simp [ih _ _ h2]
    · cases hc
theorem Eff.appendS {t e sz b : Nat} {tys : Array TypeId} {x y : Operand} {args : Array Operand} {z : List Value} {s u : Sl} {k : Sl → Heap → Prop} (hT : TTab.Ok P T) (hop : o.op = .call ⟨.builtin .append, args, tys⟩) (hargs : args.toList = [x, y]) (htys : tys.toList = [t, t])
    (ht : T.desc t = some (.slice e)) (hs : T.size e = some sz) (hb : T.bytes e = some b) (hz : T.zero e = some z) (hzl : z.length = sz)
    (hx : L.ev x = some (.slice s.a s.len s.cap)) (hy : L.ev y = some (.slice u.a u.len u.cap)) (hb1 : 1 ≤ b ∧ b ≤ 1024) (H : Lift.aP sz b s u h.m k) :
    Eff P n B L h o (fun v h' => ∃ r m, v = Sl.toV r ∧ h' = ⟨m, h.pv⟩ ∧ k r m) := by
  intro ac w ha hw next Q hn
  have hsz := hw.rel.size
  have e1 := congrArg List.toArray hargs
  have e2 := congrArg List.toArray htys
  simp only [Array.toArray_toList] at e1 e2
  subst e1 e2
  obtain ⟨vs, hvs, hone, hlen, hfit, hgrow⟩ := H
  obtain ⟨i, hi, hib⟩ := TTab.bytes_run hT hb w
  have hx' : ac.eval x = Sl.toV s := ha.eval hx
  have hy' : ac.eval y = Sl.toV u := ha.eval hy
  have hnew := jK (P := P) (w := w) (hw.rel.cellsO hvs)
  have hneed : s.len + u.len ≤ 2 ^ 46 := by
    have : (s.len + u.len) * 1 ≤ (s.len + u.len) * b := Nat.mul_le_mul_left _ hb1.1
    omega
  by_cases hf : s.len + u.len ≤ s.cap
  · have hk := hfit hf
    cases hsa : s.a with
    | none =>
      rw [hsa] at hk
      have : (execOp ac.eval o).run P w = .ok (.value (Sl.toV ⟨s.a, s.len + u.len, s.cap⟩)) w := by
        simp [execOp, hop, hx', hy', resolve, invoke, builtin, Builtin.append_, Result.andThen, TTab.desc_run hT ht, TTab.size_run hT hs, Sl.toV, Builtin.lenOf, hf, hsa]
        simp [Sl.toV] at hnew
        simp [hnew]
      unfold Oper.wp
      rw [this]
      exact hn _ _ h hw ⟨_, h.m, rfl, rfl, by rw [hsa]; exact hk⟩
    | some a =>
      rw [hsa] at hk
      obtain ⟨hcan, hk⟩ := hk
      obtain ⟨w', hr, hh⟩ := mh (P := P) vs 0 h w hw hcan hone
      have : (execOp ac.eval o).run P w = .ok (.value (Sl.toV ⟨s.a, s.len + u.len, s.cap⟩)) w' := by
        simp [execOp, hop, hx', hy', resolve, invoke, builtin, Builtin.append_, Result.andThen, TTab.desc_run hT ht, TTab.size_run hT hs, Sl.toV, Builtin.lenOf, hf, hsa]
        simp [Sl.toV] at hnew
        simp [hnew, hr]
      unfold Oper.wp
      rw [this]
      exact hn _ _ _ hh ⟨_, _, rfl, rfl, by rw [hsa]; exact hk⟩
  · have hk := hgrow (by omega)
    obtain ⟨old, hold, hk⟩ := hk
    have hcaps := aaM (s.len + u.len) s.cap (by omega)
    have hbig : ¬ Builtin.nextslicecap (s.len + u.len) s.cap * b > 2 ^ 48 := by
      have h1 : Builtin.nextslicecap (s.len + u.len) s.cap * b ≤ (2 * (s.len + u.len) + 768) * b := Nat.mul_le_mul_right _ hcaps
      have h2 : (2 * (s.len + u.len) + 768) * b = 2 * ((s.len + u.len) * b) + 768 * b := by rw [Nat.add_mul, Nat.mul_assoc]
      omega
    obtain ⟨c, hceq⟩ : ∃ c, (Question.appendCap (s.len + u.len) s.cap e).cut (w.tape w.drawn (Question.appendCap (s.len + u.len) s.cap e)) = c := ⟨_, rfl⟩
    have hc : s.len + u.len ≤ c := by rw [← hceq]; simp [Question.cut]
    have hforced : (Question.appendCap (s.len + u.len) s.cap e).forced = false := rfl
    have hold' := jK (P := P) (w := w.drew) (s := s) (size := sz) (m := s.len) (hw.rel.cellsO hold)
    have hnew' := jK (P := P) (w := w.drew) (s := u) (size := sz) (m := u.len) (hw.rel.cellsO hvs)
    obtain ⟨i', hi', hib'⟩ := TTab.bytes_run hT hb w.drew
    obtain ⟨v', hv', hvc'⟩ := TTab.zero_run hT hz w.drew
    have hvc'' : v'.cells = z.toArray := by rw [← hvc']
    have hz0 := pe z (c - (s.len + u.len))
    have hb0 : b ≠ 0 := by omega
    have : (execOp ac.eval o).run P w = .ok (.value (Sl.toV ⟨some ⟨h.m.size, 0, none⟩, s.len + u.len, c⟩))
        (w.drew.alloc (.cells (old ++ vs ++ List.flatten (List.replicate (c - (s.len + u.len)) z)).toArray e (0, 0))) := by
      simp [Sl.toV] at hold' hnew'
      have hbig' : ¬ 281474976710656 < Builtin.nextslicecap (s.len + u.len) s.cap * b := hbig
      simp [execOp, hop, hx', hy', resolve, invoke, builtin, Builtin.append_, Result.andThen, TTab.desc_run hT ht, TTab.size_run hT hs, Sl.toV, Builtin.lenOf, hf, hi, hib, hbig', hb0, hforced, hceq, hi', hold', hnew', hv', hvc'', hz0, newRow, newObj, Sem.run, hsz]
      first | rfl | exact ⟨hsz, rfl⟩
    unfold Oper.wp
    rw [this]
    exact hn _ _ _ (hw.push ⟨rfl, rfl, rfl, (by first | exact Nat.le_refl _ | exact Nat.le_succ _ | (simp [World.drew]; done))⟩ rfl) ⟨_, _, rfl, rfl, hk c e _ hc (by rw [nr, hzl])⟩
end
end Go.Lift

namespace Go.Lift
open Go
def kl (L : Frm) : List (Nat × Operand) → Option (List (Nat × Value))
  | [] => some []
  | (i, x) :: r => match L.ev x, kl L r with
    | some v, some l => some ((i, v) :: l)
    | _, _ => none
def jt (L : Frm) : List Operand → Option (List Value)
  | [] => some []
  | x :: r => match L.ev x, jt L r with
    | some v, some l => some (v :: l)
    | _, _ => none
def qg (T : TTab) : List Field → Option (List (Nat × Nat))
  | [] => some []
  | f :: r => match T.size f.type, qg T r with
    | some s, some l => some ((f.offset, s) :: l)
    | _, _ => none
section
variable {P : Program} {T : TTab} {n : Nat} {L : Frm} {h : Hp} {o : Oper} {a : Act} {B : Base}
theorem pX (ha : Agree n L a) : ∀ (l : List (Nat × Operand)) (pv : List (Nat × Value)), kl L l = some pv → l.map (fun (i, x) => (i, a.eval x)) = pv := by
  intro l
  induction l with
  | nil => intro pv h; simp [kl] at h; subst h; rfl
  | cons p r ih =>
    intro pv h
    obtain ⟨i, x⟩ := p
    simp only [kl] at h
    split at h
    · rename_i v l h1 h2
      simp only [Option.some.injEq] at h; subst h
      simp [ha.eval h1]
      have := ih _ h2
      simpa using this
    · cases h
theorem m8 (ha : Agree n L a) : ∀ (l : List Operand) (vs : List Value), jt L l = some vs → l.map a.eval = vs := by
  intro l
  induction l with
  | nil => intro pv h; simp [jt] at h; subst h; rfl
  | cons x r ih =>
    intro vs h
    simp only [jt] at h
    split at h
    · rename_i v l h1 h2
      simp only [Option.some.injEq] at h; subst h
      simp [ha.eval h1, ih _ h2]
    · cases h
theorem xv {α β : Type} {w : World} (f : α → Sem β) (l : Array α) (g : List β) (h : (l.toList.mapM f).run P w = .ok g w) : (l.mapM f).run P w = .ok g.toArray w := by
  rw [Array.mapM_eq_mapM_toList]
  simp [h]
theorem agM (hT : TTab.Ok P T) {w : World} : ∀ (l : List Field) (ps : List (Nat × Nat)), qg T l = some ps →
    (l.mapM (fun (f : Field) => (do return (f.offset, ← sizeOf f.type) : Sem (Nat × Nat)))).run P w = .ok ps w := by
  intro l
  induction l with
  | nil => intro ps h; simp [qg] at h; subst h; simp
  | cons f r ih =>
    intro ps h
    simp only [qg] at h
    split at h
    · rename_i s l h1 h2
      simp only [Option.some.injEq] at h; subst h
      have := ih _ h2
      simp only [bind_pure_comp] at this
      simp [List.mapM_cons, TTab.size_run hT h1, this]
    · cases h
theorem Quiet1.build {t : Nat} {parts : Array (Nat × Operand)} {fs : Array Field} {ps : List (Nat × Nat)} {z cs : List Value} {pv : List (Nat × Value)} (hT : TTab.Ok P T) (hop : o.op = .build t parts) (ht : T.desc t = some (.struct fs)) (hp : qg T fs.toList = some ps) (hz : T.zero t = some z)
    (hpv : kl L parts.toList = some pv) (hf : Instr.fill (fun (i : Nat) => ps[i]?) z.toArray pv = some cs.toArray) : Quiet1 P n L h o (.agg cs.toArray) := by
  intro ac w ha hw
  obtain ⟨v, hv, hvc⟩ := TTab.zero_run hT hz w
  have hvc' : v.cells = z.toArray := by rw [← hvc]
  have e1 := pX ha _ _ hpv
  have e2 : (parts.map fun (i, x) => (i, ac.eval x)).toList = pv := by rw [Array.toList_map]; exact e1
  have hpl := xv _ _ _ (agM hT (w := w) _ _ hp)
  simp only [bind_pure_comp] at hpl
  have hps : (fun (i : Nat) => ps.toArray[i]?) = (fun (i : Nat) => ps[i]?) := by funext i; simp
  simp only [execOp, hop, Instr.build, Sem.run_bind, hv, Result.andThen_ok, TTab.desc_run hT ht]
  simp [hpl, Result.andThen, hvc', e1, hf]
theorem Quiet1.buildA {t len e sz : Nat} {parts : Array (Nat × Operand)} {z cs : List Value} {pv : List (Nat × Value)} (hT : TTab.Ok P T) (hop : o.op = .build t parts) (ht : T.desc t = some (.array len e)) (hs : T.size e = some sz) (hz : T.zero t = some z)
    (hpv : kl L parts.toList = some pv) (hf : Instr.fill (fun i => some (i * sz, sz)) z.toArray pv = some cs.toArray) : Quiet1 P n L h o (.agg cs.toArray) := by
  intro ac w ha hw
  obtain ⟨v, hv, hvc⟩ := TTab.zero_run hT hz w
  have hvc' : v.cells = z.toArray := by rw [← hvc]
  have e1 := pX ha _ _ hpv
  simp only [execOp, hop, Instr.build, Sem.run_bind, hv, Result.andThen_ok, TTab.desc_run hT ht]
  simp [TTab.size_run hT hs, Result.andThen, hvc', e1, hf]
theorem Eff.buildS {t len e sz : Nat} {parts : Array (Nat × Operand)} {z cs : List Value} {pv : List (Nat × Value)} {k : Sl → Heap → Prop} (hT : TTab.Ok P T) (hop : o.op = .buildSlice t len parts) (ht : T.desc t = some (.slice e)) (hs : T.size e = some sz) (hz : T.zero e = some z) (hzl : z.length = sz) (hsmall : Nat.ble (len * sz) 16777216 = true)
    (hpv : kl L parts.toList = some pv) (hf : Instr.fill (fun i => some (i * sz, sz)) (List.flatten (List.replicate len z)).toArray pv = some cs.toArray)
    (H : Lift.new cs h.m (fun a h' => k ⟨some a, len, len⟩ h')) : Eff P n B L h o (fun u h' => ∃ r m, u = Sl.toV r ∧ h' = ⟨m, h.pv⟩ ∧ k r m) := by
  intro ac w ha hw next Q hn
  have hsz := hw.rel.size
  obtain ⟨v, hv, hvc⟩ := TTab.zero_run hT hz w
  have hvc' : v.cells = z.toArray := by rw [← hvc]
  have e1 := pX ha _ _ hpv
  have hsm : ¬ 16777216 < len * sz := by simpa using hsmall
  have hm := ach z len
  rw [hzl] at hm
  have : (execOp ac.eval o).run P w = .ok (.value (Sl.toV ⟨some ⟨h.m.size, 0, none⟩, len, len⟩)) (w.alloc (.cells cs.toArray e (0, 0))) := by
    by_cases h0 : len * sz = 0
    · have hfl : List.flatten (List.replicate len z) = [] := by
        apply List.eq_nil_of_length_eq_zero
        rw [nr, hzl, h0]
      rw [hfl] at hf
      have hr : Array.range 0 = #[] := rfl
      simp only [execOp, hop, Instr.buildSlice, Sem.run_bind, TTab.desc_run hT ht, Result.andThen_ok]
      simp [TTab.size_run hT hs, Result.andThen, h0, hr, e1, hf, newRow, newObj, Sem.run, Sl.toV, hsz]
    · simp only [execOp, hop, Instr.buildSlice, Sem.run_bind, TTab.desc_run hT ht, Result.andThen_ok]
      simp at hm
      simp [TTab.size_run hT hs, Result.andThen, h0, hsm, hv, hvc', hm, e1, hf, newRow, newObj, Sem.run, Sl.toV, hsz]
  unfold Oper.wp
  rw [this]
  exact hn _ _ _ (hw.push ⟨rfl, rfl, rfl, (by first | exact Nat.le_refl _ | exact Nat.le_succ _ | (simp [World.drew]; done))⟩ rfl) ⟨_, _, rfl, rfl, H e⟩
theorem Quiet1.field {t f off : Nat} {x : Operand} {fs : Array Field} {fl : Field} {cs : List Value} {v : Value} (hT : TTab.Ok P T) (hop : o.op = .field t x f) (ht : T.desc t = some (.struct fs)) (hf : fs.toList[f]? = some fl) (hoff : fl.offset = off) (hna : lN T fl.type = true)
    (hx : L.ev x = some (.agg cs.toArray)) (hv : cs[off]? = some v) : Quiet1 P n L h o v := by
  intro ac w ha hw
  subst hoff
  simp only [Array.getElem?_toList] at hf
  simp [execOp, hop, ha.eval hx, Instr.field, Result.andThen, TTab.desc_run hT ht, hf, asAgg, part, jC hT hna, hv]
theorem Quiet1.fieldS {t f : Nat} {x : Operand} {fs : Array Field} {fl : Field} {cs ds : List Value} {s : Nat} (hT : TTab.Ok P T) (hop : o.op = .field t x f) (ht : T.desc t = some (.struct fs)) (hf : fs.toList[f]? = some fl) (hna : oL T fl.type = true) (hs : T.size fl.type = some s)
    (hx : L.ev x = some (.agg cs.toArray)) (hv : (cs.drop fl.offset).take s = ds) : Quiet1 P n L h o (.agg ds.toArray) := by
  intro ac w ha hw
  simp only [Array.getElem?_toList] at hf
  subst hv
  simp [execOp, hop, ha.eval hx, Instr.field, Result.andThen, TTab.desc_run hT ht, hf, asAgg, part, mH hT hna, TTab.size_run hT hs]
theorem Eff.call {α : Type} {f : FuncId} {args : Array Operand} {tys : Array TypeId} {vs : List Value} {toV : α → Value} {S : α → Heap → Prop}
    (hop : o.op = .call ⟨.value (.func f), args, tys⟩) (hcall : ∀ vs w, (callFunc f vs).run P w = .ok (.enter f vs) w)
    (hvs : jt L args.toList = some vs) (sh : Heap → Prop) (H0 : sh h.m) (hl : ∀ w m, Rel ⟨m, []⟩ w.heap → sh m → Calls P f vs.toArray w (Post ⟨w, m⟩ toV S)) :
    Eff P n B L h o (fun v h' => ∃ r m, v = toV r ∧ h' = ⟨m, h.pv⟩ ∧ S r m) := by
  intro ac w ha hw next Q hn
  have e1 := m8 ha _ _ hvs
  have e2 : args.map ac.eval = vs.toArray := by rw [← e1, ← Array.toList_map]
  have : (execOp ac.eval o).run P w = .ok (.enter f vs.toArray) w := by
    simp [execOp, hop, resolve, Deferred.ofValue, Act.eval, invoke, e2, hcall]
  unfold Oper.wp
  rw [this]
  refine (hl w h.m hw.relCall H0).mono ?_
  rintro e w' ⟨r, m, rfl, hs, hS⟩
  exact hn _ _ _ (hw.call hs) ⟨r, m, rfl, rfl, hS⟩
end
def tN (T : TTab) (n : Nat) : Nat → Frm → List Oper → Option (Frm × List Oper)
  | 0, L, l => some (L, l)
  | _ + 1, _, [] => none
  | k + 1, L, o :: l => match kG o n with
    | false => none
    | true => match kX T L o.op with
      | some v => tN T n k (L.put o.dst v) l
      | none => none
theorem AtL.pures {P : Program} {T : TTab} {n : Nat} {B : Base} {ops : Array Oper} {Q : Exit → Act → World → Prop} {h : Hp} (hT : TTab.Ok P T) :
    ∀ (k : Nat) (L L' : Frm) (l l' : List Oper), tN T n k L l = some (L', l') → AtL P n B ops Q L' h l' → AtL P n B ops Q L h l := by
  intro k
  induction k with
  | zero =>
    intro L L' l l' hr H
    simp only [tN, Option.some.injEq, Prod.mk.injEq] at hr
    obtain ⟨rfl, rfl⟩ := hr
    exact H
  | succ k ih =>
    intro L L' l l' hr H
    cases l with
    | nil => simp [tN] at hr
    | cons o l =>
      simp only [tN] at hr
      split at hr
      · cases hr
      · rename_i hd
        split at hr
        · rename_i v hv
          exact AtL.q hd (Quiet1.pure hT hv) (ih _ _ _ _ hr H)
        · cases hr
end Go.Lift

namespace Go.Lift
open Go
def Frm.pick (L : Frm) : List Nat → Option Frm
  | [] => some []
  | t :: ts => match L.get t, Frm.pick L ts with
    | some v, some r => some ((t, v) :: r)
    | _, _ => none
def iteB (b : Bool) (x y : Prop) : Prop := (b = true → x) ∧ (b = false → y)
section
variable {P : Program} {T : TTab} {n : Nat} {L M : Frm} {h : Hp} {o : Oper} {B : Base} {ops : Array Oper} {Q : Exit → Act → World → Prop}
theorem Frm.pick_sub : ∀ (ts : List Nat) (M : Frm), L.pick ts = some M → Frm.sub M L := by
  intro ts
  induction ts with
  | nil => intro M h; simp [Frm.pick] at h; subst h; trivial
  | cons t ts ih =>
    intro M h
    simp only [Frm.pick] at h
    split at h
    · rename_i v r h1 h2
      simp only [Option.some.injEq] at h; subst h
      exact ⟨h1, ih _ h2⟩
    · cases h
theorem AtC.pick {c : Code} {ts : List Nat} (hp : L.pick ts = some M) (H : AtC P n B Q M h c) : AtC P n B Q L h c := H.weaken (Frm.pick_sub _ _ hp)
theorem AtC.joinSeq {τ β : Type} {m : (τ → Heap → Prop) → Prop} {k : τ → Heap → Prop} {x y : Code} {R : Frm} {PR : List (Nat × List Value)} (Mt : τ → β → Frm) (Pt : τ → β → List (Nat × List Value)) (ts is : List Nat) (H : Lift.seq m k) (_hp : L.pick ts = some R) (_hq : lK h.pv is = some PR)
    (hk : ∀ t b h, k t h → AtC P n B Q (Mt t b ++ R) ⟨h, Pt t b ++ PR⟩ y)
    (hm : ∀ J : τ → Heap → Prop, m J → (∀ t b h, J t h → AtE n B (y.wp P Q) (Mt t b ++ R) ⟨h, Pt t b ++ PR⟩) → AtC P n B (Exit.then (y.wp P Q) Q) L h x) : AtC P n B Q L h (.seq x y) := by
  obtain ⟨J, h1, h2⟩ := H
  exact AtC.seq (hm J h1 fun t b h hj => hk t b h (h2 t h hj))
theorem AtC.loopM {σ : Type} {c : Code} {body : σ → Heap → (σ → Heap → Prop) → Prop} {s : σ} {R : Frm} {PR : List (Nat × List Value)} (Mt : σ → Frm) (Pt : σ → List (Nat × List Value)) (ts us ir is : List Nat)
    (H : Lift.loop body s h.m) (_hp : L.pick ts = some R) (hs : L.pick us = some (Mt s ++ R)) (_hq : lK h.pv ir = some PR) (hnd : is.Nodup) (hpv : lK h.pv is = some (Pt s ++ PR))
    (round : ∀ (K : σ → Heap → Prop) s h, body s h K → ∀ Q' : Act → World → Prop, (∀ s h, K s h → AtE n B Q' (Mt s ++ R) ⟨h, Pt s ++ PR⟩) → AtC P n B (Exit.then Q' Q) (Mt s ++ R) ⟨h, Pt s ++ PR⟩ c) :
    AtC P n B Q L h (.loop c) :=
  AtC.loop (fun s => Mt s ++ R) (fun s => Pt s ++ PR) H (Frm.pick_sub _ _ hs) hnd hpv round
theorem AtE.pickP {K : Act → World → Prop} {ts is : List Nat} {m : Heap} {qv : List (Nat × List Value)} (H : AtE n B K M ⟨m, qv⟩) (hm : h.m = m) (hp : L.pick ts = some M) (hd : is.Nodup) (hq : lK h.pv is = some qv) : AtE n B K L h := by
  subst hm
  intro a w ha hw
  exact H a w (ha.weaken (Frm.pick_sub _ _ hp)) (hw.pick hd hq)
theorem AtE.then_n {K : Act → World → Prop} (H : AtE n B K L h) : AtE n B (Exit.then K Q .normal) L h := H
theorem AtE.then_x {K : Act → World → Prop} {i : Nat} (H : AtE n B (Q (.exit i)) L h) : AtE n B (Exit.then K Q (.exit i)) L h := H
theorem AtE.then_r {K : Act → World → Prop} (H : AtE n B (Q .ret) L h) : AtE n B (Exit.then K Q .ret) L h := H
theorem AtE.blk_hit {i : Nat} (H : AtE n B (Q .normal) L h) : AtE n B (Exit.inBlock i Q (.exit i)) L h := by
  intro a w ha hw
  simp only [Exit.inBlock, if_true]
  exact H a w ha hw
theorem AtE.blk_n {i : Nat} (H : AtE n B (Q .normal) L h) : AtE n B (Exit.inBlock i Q .normal) L h := H
theorem AtE.blk_r {i : Nat} (H : AtE n B (Q .ret) L h) : AtE n B (Exit.inBlock i Q .ret) L h := H
theorem AtC.condB {c : Operand} {x y : Code} {b : Bool} {p q : Prop} (H : iteB b p q) (hb : L.ev c = some (.bool b)) (ht : p → AtC P n B Q L h x) (hf : q → AtC P n B Q L h y) :
    AtC P n B Q L h (.cond c x y) :=
  AtC.cond hb (fun e => ht (H.1 e)) (fun e => hf (H.2 e))
theorem AtL.splitB {l : List Oper} {t : Nat} {b : Bool} {p q : Prop} (H : iteB b p q) (hb : L.get t = some (.bool b))
    (ht : p → AtL P n B ops Q ((t, .bool true) :: L) h l) (hf : q → AtL P n B ops Q ((t, .bool false) :: L) h l) : AtL P n B ops Q L h l := by
  cases hbb : b
  · exact AtL.known hb hbb (hf (H.2 hbb))
  · exact AtL.known hb hbb (ht (H.1 hbb))
def uV (a : Act) : ResultVar → Sem Value
  | .tmp t => pure (a.tmps.getD t undef)
  | .cell c t => do loadVar t (← asAddr (a.tmps.getD c undef))
def ResAt (P : Program) (n : Nat) (L : Frm) (h : Hp) (r : ResultVar) (v : Value) : Prop :=
  ∀ a w, Agree n L a → Rel h w.heap → (uV a r).run P w = .ok v w
def ResAll (P : Program) (n : Nat) (L : Frm) (h : Hp) : List ResultVar → List Value → Prop
  | [], [] => True
  | r :: rs, v :: vs => ResAt P n L h r v ∧ ResAll P n L h rs vs
  | _, _ => False
theorem ResAt.tmp {t : Nat} {v : Value} (hv : L.get t = some v) : ResAt P n L h (.tmp t) v := by
  intro a w ha hw
  simp [uV, ha.2.2 t v hv]
theorem ResAt.cell {c t : Nat} {ad : Addr} {v : Value} (hT : TTab.Ok P T) (hv : L.get c = some (.pointer (some ad))) (ht : lN T t = true) (hc : cell? h.m ad = some v) : ResAt P n L h (.cell c t) v := by
  intro a w ha hw
  simp [uV, ha.2.2 c _ hv, asAddr, loadVar, jC hT ht, Result.andThen, kU (hw.cell hc)]
theorem ResAt.cellS {c t s : Nat} {ad : Addr} {l : List Value} (hT : TTab.Ok P T) (hv : L.get c = some (.pointer (some ad))) (ht : oL T t = true) (hs : T.size t = some s) (hc : cells? h.m ad s 0 = some l) : ResAt P n L h (.cell c t) (.agg l.toArray) := by
  intro a w ha hw
  simp [uV, ha.2.2 c _ hv, asAddr, loadVar, mH hT ht, Result.andThen, TTab.size_run hT hs, gU (hw.cells hc)]
theorem ResAt.cellP {c t i : Nat} {ad : Addr} {cs : List Value} {v : Value} (hT : TTab.Ok P T) (hv : L.get c = some (.pointer (some ad))) (ht : lN T t = true) (hp : h.pv[i]? = some (ad.block, cs)) (hsp : ad.spot = none) (hc : cs[ad.off]? = some v) : ResAt P n L h (.cell c t) v := by
  intro a w ha hw
  simp [uV, ha.2.2 c _ hv, asAddr, loadVar, jC hT ht, Result.andThen, kU (hw.pcell hp hsp hc)]
theorem ResAt.cellSP {c t s i : Nat} {ad : Addr} {l cs : List Value} (hT : TTab.Ok P T) (hv : L.get c = some (.pointer (some ad))) (ht : oL T t = true) (hs : T.size t = some s) (hp : h.pv[i]? = some (ad.block, cs)) (hsp : ad.spot = none) (hc : (cs.drop ad.off).take s = l) (hl : l.length = s) : ResAt P n L h (.cell c t) (.agg l.toArray) := by
  intro a w ha hw
  simp [uV, ha.2.2 c _ hv, asAddr, loadVar, mH hT ht, Result.andThen, TTab.size_run hT hs, gU (hw.pcells (i := 0) hp hsp hc hl)]
theorem ResAll.nil : ResAll P n L h [] [] := trivial
theorem ResAll.cons {r : ResultVar} {v : Value} {rs : List ResultVar} {vs : List Value} (h1 : ResAt P n L h r v) (h2 : ResAll P n L h rs vs) : ResAll P n L h (r :: rs) (v :: vs) := ⟨h1, h2⟩
theorem ResAll.run {a : Act} {w : World} (ha : Agree n L a) (hw : Rel h w.heap) : ∀ (rs : List ResultVar) (vs : List Value), ResAll P n L h rs vs →
    (rs.mapM (uV a)).run P w = .ok vs w := by
  intro rs
  induction rs with
  | nil => intro vs h; cases vs <;> simp_all [ResAll]
  | cons r rs ih =>
    intro vs h
    cases vs with
    | nil => simp [ResAll] at h
    | cons v vs =>
      obtain ⟨h1, h2⟩ := h
      have h1 := h1 a w ha hw
      have h2 := ih vs h2
      simp [List.mapM_cons, h1, h2, Result.andThen]
def agL : List Value → Value
  | [v] => v
  | vs => .tuple vs.toArray
theorem AtE.retN {α : Type} {toV : α → Value} {S : α → Heap → Prop} {fn : Func} {rs : List ResultVar} {vs : List Value} {r : α} (hr : fn.results = rs.toArray) (hres : ResAll P n L h rs vs) (he : toV r = agL vs) (hS : S r h.m) :
    AtE n B (bodyPost P fn (Post B toV S) .ret) L h := by
  intro a w ha hw
  refine bodyPost_ret (v := agL vs) ?_ ha.2.1 ⟨r, h.m, by rw [he], hw.forget, hS⟩
  have := xv _ rs.toArray vs (by simpa using ResAll.run ha hw.rel rs vs hres)
  have e : results fn a.tmps = (do let vs ← fn.results.mapM (uV a); pure (if h : vs.size = 1 then vs[0] else .tuple vs)) := by
    unfold results
    congr 1
  rw [e, hr]
  simp only [Sem.run_bind, this, Result.andThen_ok]
  cases vs with
  | nil => simp [agL]
  | cons v vs => cases vs <;> simp [agL]
def AtD (P : Program) (n : Nat) (B : Base) (ops : Array Oper) (Q : Exit → Act → World → Prop) (L : Frm) (h : Hp) (l : List Oper) : Prop :=
  ∀ a, Agree n L a → wpQuiet P ops (InW B h) (fun a' => ∀ w', InW B h w' → Q .normal a' w') l a
theorem AtL.noF {l : List Oper} {t j : Nat} {b c : Bool} (hg : o.guard = some (j, c)) (hj : (ops[j]?).bind (·.dst) = some t) (hv : L.get t = some (.bool b)) (hbc : b ≠ c)
    (hd : kG { o with guard := none } n = true) (H : AtL P n B ops Q (L.put o.dst undef) h l) : AtL P n B ops Q L h (o :: l) := AtL.skipIt hg hd (aha hj hv hbc) H
theorem AtL.noU {l : List Oper} {t j : Nat} {c : Bool} (hg : o.guard = some (j, c)) (hj : (ops[j]?).bind (·.dst) = some t) (hv : L.get t = some undef)
    (hd : kG { o with guard := none } n = true) (H : AtL P n B ops Q (L.put o.dst undef) h l) : AtL P n B ops Q L h (o :: l) := AtL.skipIt hg hd (afk hj hv) H
end
end Go.Lift

namespace Go.Lift
open Go
section
variable {P : Program} {T : TTab} {n : Nat} {L M : Frm} {h : Hp} {o : Oper} {B : Base} {ops : Array Oper} {Q : Exit → Act → World → Prop} {l : List Oper}
theorem AtL.sl {t e sz : Nat} {x : Operand} {lo hi mx : Option Operand} {s : Sl} {lo' hi' mx' : Option Int} {k : Sl → Prop} (hT : TTab.Ok P T) (H : Lift.ki s lo' hi' mx' sz k) (hop : o.op = .slice t x lo hi mx) (ht : T.desc t = some (.slice e)) (hs : T.size e = some sz)
    (hx : L.ev x = some (.slice s.a s.len s.cap)) (hlo : lo.map L.ev = lo'.map (fun j => some (.int .i64 j))) (hhi : hi.map L.ev = hi'.map (fun j => some (.int .i64 j))) (hmx : mx.map L.ev = mx'.map (fun j => some (.int .i64 j)))
    (hhm : hi = none → mx = none) (hd : kG o n = true) (next : ∀ r, k r → AtL P n B ops Q (L.put o.dst (Sl.toV r)) h l) : AtL P n B ops Q L h (o :: l) := by
  obtain ⟨r, hq, hk⟩ := Quiet1.sliceOf (n := n) (h := h) hT hop ht hs hx hlo hhi hmx hhm H
  exact AtL.q hd hq (next r hk)
theorem Quiet1.quo {t u : Nat} {x y : Operand} {k : IntKind} {a b : Int} (hop : o.op = .binOp .quo t x y u) (hx : L.ev x = some (.int k a)) (hy : L.ev y = some (.int k b)) (hb : b ≠ 0) : Quiet1 P n L h o (.int k (k.wrap (a.tdiv b))) := by
  intro ac w ha hw
  simp [execOp, hop, ha.eval hx, ha.eval hy, eqGuard, Result.andThen, binOp, Op.intDiv, hb]
theorem Quiet1.rem {t u : Nat} {x y : Operand} {k : IntKind} {a b : Int} (hop : o.op = .binOp .rem t x y u) (hx : L.ev x = some (.int k a)) (hy : L.ev y = some (.int k b)) (hb : b ≠ 0) : Quiet1 P n L h o (.int k (a.tmod b)) := by
  intro ac w ha hw
  simp [execOp, hop, ha.eval hx, ha.eval hy, eqGuard, Result.andThen, binOp, Op.intDiv, hb]
theorem Quiet1.shl {t u : Nat} {x y : Operand} {k k' : IntKind} {a b : Int} (hop : o.op = .binOp .shl t x y u) (hx : L.ev x = some (.int k a)) (hy : L.ev y = some (.int k' b)) (hb : 0 ≤ b) : Quiet1 P n L h o (.int k (k.wrap (a * 2 ^ (min b.toNat k.bits)))) := by
  intro ac w ha hw
  have : ¬ b < 0 := by omega
  simp [execOp, hop, ha.eval hx, ha.eval hy, eqGuard, Result.andThen, binOp, Op.shift, this]
theorem Quiet1.shr {t u : Nat} {x y : Operand} {k k' : IntKind} {a b : Int} (hop : o.op = .binOp .shr t x y u) (hx : L.ev x = some (.int k a)) (hy : L.ev y = some (.int k' b)) (hb : 0 ≤ b) : Quiet1 P n L h o (.int k (a.fdiv (2 ^ (min b.toNat k.bits)))) := by
  intro ac w ha hw
  have : ¬ b < 0 := by omega
  simp [execOp, hop, ha.eval hx, ha.eval hy, eqGuard, Result.andThen, binOp, Op.shift, this]
theorem Quiet1.eqNilS {t u e : Nat} {x y : Operand} {s : Sl} {i j : Nat} (hT : TTab.Ok P T) (hop : o.op = .binOp .eql t x y u) (ht : T.desc t = some (.slice e)) (hx : L.ev x = some (.slice s.a s.len s.cap)) (hy : L.ev y = some (.slice none i j)) : Quiet1 P n L h o (.bool s.a.isNone) := by
  intro ac w ha hw
  simp [execOp, hop, ha.eval hx, ha.eval hy, eqGuard, Result.andThen, binOp, lB hT ht]
theorem Quiet1.neNilS {t u e : Nat} {x y : Operand} {s : Sl} {i j : Nat} (hT : TTab.Ok P T) (hop : o.op = .binOp .neq t x y u) (ht : T.desc t = some (.slice e)) (hx : L.ev x = some (.slice s.a s.len s.cap)) (hy : L.ev y = some (.slice none i j)) : Quiet1 P n L h o (.bool (!s.a.isNone)) := by
  intro ac w ha hw
  simp [execOp, hop, ha.eval hx, ha.eval hy, eqGuard, Result.andThen, binOp, lB hT ht]
theorem Quiet1.concat {t u : Nat} {x y : Operand} {a b : ByteArray} (hop : o.op = .binOp .add t x y u) (hx : L.ev x = some (.string a)) (hy : L.ev y = some (.string b)) (hb : ((a.size + b.size : Nat) : Int) ≤ 9223372036854775807) : Quiet1 P n L h o (.string (a ++ b)) := by
  intro ac w ha hw
  have h2 : ¬ ((a.size + b.size : Nat) : Int) > IntKind.i64.max := by
    have : IntKind.i64.max = 9223372036854775807 := by decide
    rw [this]; omega
  have h3 : (binOp .add t (.string a) (.string b)).run P w = .ok (.string (a ++ b)) w := by
    show (Op.stringOp .add a b).run P w = _
    unfold Op.stringOp
    simp only
    rw [if_neg h2]
    rfl
  simp [execOp, hop, ha.eval hx, ha.eval hy, eqGuard, Result.andThen, h3]
theorem Eff.buildS2 {t len e sz : Nat} {parts : Array (Nat × Operand)} {z cs : List Value} {pv : List (Nat × Value)} {k : Addr → Heap → Prop} (hT : TTab.Ok P T) (hop : o.op = .buildSlice t len parts) (ht : T.desc t = some (.slice e)) (hs : T.size e = some sz) (hz : T.zero e = some z) (hzl : z.length = sz) (hsmall : Nat.ble (len * sz) 16777216 = true)
    (hpv : kl L parts.toList = some pv) (hf : Instr.fill (fun i => some (i * sz, sz)) (List.flatten (List.replicate len z)).toArray pv = some cs.toArray)
    (H : Lift.new cs h.m k) : Eff P n B L h o (fun u h' => ∃ a m, u = .slice (some a) len len ∧ h' = ⟨m, h.pv⟩ ∧ k a m) := by
  intro a w ha hw next Q hn
  refine Eff.buildS (k := fun r h' => ∃ a, r = ⟨some a, len, len⟩ ∧ k a h') hT hop ht hs hz hzl hsmall hpv hf (fun T => ⟨_, rfl, H T⟩) a w ha hw next Q ?_
  rintro v w' h' hi ⟨r, m, rfl, rfl, a, rfl, hk⟩
  exact hn _ _ _ hi ⟨a, m, rfl, rfl, hk⟩
def tY (ns : List Int) : ByteArray := ns.foldl (fun r n => r.push (UInt8.ofNat n.toNat)) ByteArray.empty
def yM (s : Sl) (h : Heap) (k : ByteArray → Prop) : Prop := ∃ ns : List Int, cellsO? h s.a s.len = some (ns.map (Value.int .u8)) ∧ k (tY ns)
theorem Quiet1.strOf {t u e : Nat} {x : Operand} {s : Sl} {ns : List Int} (hT : TTab.Ok P T) (hop : o.op = .convert t u x) (ht : T.desc t = some (.slice e)) (he : T.desc e = some (.int .u8)) (hu : T.desc u = some .string) (hx : L.ev x = some (.slice s.a s.len s.cap))
    (hc : cellsO? h.m s.a s.len = some (ns.map (Value.int .u8))) : Quiet1 P n L h o (.string (tY ns)) := by
  intro ac w ha hw
  replace hc := hw.cellsO hc
  simp only [execOp, hop, ha.eval hx]
  have h1 : (convert t u (.slice s.a s.len s.cap)).run P w = .ok (.string (tY ns)) w := by
    simp only [convert, Sem.run_bind, TTab.desc_run hT ht, TTab.desc_run hT hu, Result.andThen_ok, TTab.desc_run hT he]
    cases hs : s.a with
    | none =>
      rw [hs] at hc
      simp only [cellsO?, Option.some.injEq] at hc
      have : ns = [] := by cases ns with
        | nil => rfl
        | cons a b => simp at hc
      subst this
      rfl
    | some a =>
      rw [hs] at hc
      exact run_bytesToString w a s.len s.cap ns (gU hc)
  simp [h1]
end
end Go.Lift
