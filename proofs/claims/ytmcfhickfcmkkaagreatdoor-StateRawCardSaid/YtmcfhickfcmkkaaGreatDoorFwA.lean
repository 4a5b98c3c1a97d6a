/-
  Laws that the proof of this claim's statement leans on, each proved under the conditions that it states.
-/
import Derived.Tactics
import Derived.Deep.Quiet
set_option linter.unusedVariables false
set_option linter.unusedSimpArgs false
namespace Go.Lift
open Go
abbrev Heap := Array Obj
structure Same (w w' : World) : Prop where
  os : w'.os = w.os
  out : w'.output = w.output
  tape : w'.tape = w.tape ∧ w.drawn ≤ w'.drawn
def cell? (h : Heap) (a : Addr) : Option Value :=
  match h[a.block]? with
  | some (.cells c _ _) => if a.spot.isSome then none else c[a.off]?
  | _ => none
def frozen? (h : Heap) (a : Addr) : Bool :=
  match h[a.block]? with
  | some (.cells _ _ (lo, hi)) => lo ≤ a.off && a.off < hi
  | _ => false
def aS (h : Heap) (a : Addr) (v : Value) : Heap :=
  h.modify a.block fun
    | .cells c elem frozen => .cells (if a.spot.isSome then c else c.setIfInBounds a.off v) elem frozen
    | o => o
theorem afN (w : World) (a : Addr) : w.cell? a = cell? w.heap a := rfl
theorem ajF (w : World) (a : Addr) : w.frozen? a = frozen? w.heap a := rfl
theorem zJ (w : World) (a : Addr) (v : Value) : (w.setCell a v).heap = aS w.heap a v := rfl
def junk : Obj := .pending #[] 0
structure Hp where
  m : Heap
  pv : List (Nat × List Value)
structure Rel (h : Hp) (H : Heap) : Prop where
  size : H.size = h.m.size
  same : ∀ b : Nat, h.m[b]? = some junk ∨ H[b]? = h.m[b]?
  priv : ∀ b cs, (b, cs) ∈ h.pv → h.m[b]? = some junk ∧ ∃ T, H[b]? = some (.cells cs.toArray T (0, 0))
  nodup : (h.pv.map (·.1)).Nodup
structure Base where
  w : World
  h : Heap
structure InW (B : Base) (h : Hp) (w : World) : Prop where
  os : w.os = B.w.os
  out : w.output = B.w.output
  tape : w.tape = B.w.tape ∧ B.w.drawn ≤ w.drawn
  rel : Rel h w.heap
  keep : ∀ b : Nat, B.h[b]? = some junk → h.m[b]? = some junk ∧ w.heap[b]? = B.w.heap[b]?
  fresh : ∀ b cs, (b, cs) ∈ h.pv → B.h.size ≤ b
  grow : B.h.size ≤ h.m.size
theorem InW.start {w : World} {h : Heap} (hr : Rel ⟨h, []⟩ w.heap) : InW ⟨w, h⟩ ⟨h, []⟩ w :=
  ⟨rfl, rfl, ⟨rfl, Nat.le_refl _⟩, hr, fun b hb => ⟨hb, rfl⟩, fun b cs hb => by simp at hb, Nat.le_refl _⟩
theorem Rel.self (h : Heap) : Rel ⟨h, []⟩ h := ⟨rfl, fun _ => .inr rfl, fun b cs hb => by simp at hb, by simp⟩
variable {B : Base} {h : Hp} {w w' : World} {H : Heap}
theorem Rel.block (hr : Rel h H) {b : Nat} {o : Obj} (hb : h.m[b]? = some o) (hne : o ≠ junk) : H[b]? = some o := by
  rcases hr.same b with h1 | h1
  · rw [hb] at h1; exact absurd (Option.some.inj h1) hne
  · rw [h1, hb]
theorem sU {c : Array Value} {T : TypeId} {f : Nat × Nat} : Obj.cells c T f ≠ junk := fun e => by cases e
theorem Rel.cellsAt (hr : Rel h H) {b : Nat} {c : Array Value} {T : TypeId} {f : Nat × Nat} (hb : h.m[b]? = some (.cells c T f)) : H[b]? = some (.cells c T f) := hr.block hb sU
theorem qj {h : Heap} {a : Addr} {v : Value} (hc : cell? h a = some v) : ∃ c T f, h[a.block]? = some (.cells c T f) := by
  unfold cell? at hc
  split at hc
  · rename_i c T f hb; exact ⟨c, T, f, hb⟩
  · cases hc
theorem Rel.cell (hr : Rel h H) {a : Addr} {v : Value} (hc : cell? h.m a = some v) : cell? H a = some v := by
  obtain ⟨c, T, f, hb⟩ := qj hc
  unfold cell? at hc ⊢
  rw [hr.cellsAt hb]
  rw [hb] at hc
  exact hc
theorem Rel.frozen (hr : Rel h H) {a : Addr} {v : Value} {f : Bool} (hc : cell? h.m a = some v) (hf : frozen? h.m a = f) : frozen? H a = f := by
  obtain ⟨c, T, g, hb⟩ := qj hc
  unfold frozen? at hf ⊢
  rw [hr.cellsAt hb]
  rw [hb] at hf
  exact hf
theorem wJ {l : List Nat} (hn : l.Nodup) {i j : Nat} {hi : i < l.length} {hj : j < l.length} (h : l[i] = l[j]) : i = j := by
  have hp := List.pairwise_iff_getElem.1 hn
  rcases Nat.lt_trichotomy i j with hlt | he | hlt
  · exact absurd h (hp i j hi hj hlt)
  · exact he
  · exact absurd h.symm (hp j i hj hi hlt)
theorem agn {h : Heap} {i b : Nat} {f : Obj → Obj} : (h.modify i f)[b]? = if i = b then h[b]?.map f else h[b]? := by
  rw [Array.getElem?_modify]
  
theorem dt {h : Heap} {a : Addr} {v : Value} {b : Nat} : (aS h a v)[b]? = if a.block = b then (h[b]?).map (fun
    | .cells c elem frozen => .cells (if a.spot.isSome then c else c.setIfInBounds a.off v) elem frozen
    | o => o) else h[b]? := by
  unfold aS
  rw [agn]
theorem fQ {h : Heap} {a : Addr} {v : Value} : (aS h a v).size = h.size := by simp [aS]
theorem InW.same_heap (hi : InW B h w) (hs : Same w w') (hh : w'.heap = w.heap) : InW B h w' :=
  ⟨hs.os.trans hi.os, hs.out.trans hi.out, ⟨hs.tape.1.trans hi.tape.1, Nat.le_trans hi.tape.2 hs.tape.2⟩, by rw [hh]; exact hi.rel, by rw [hh]; exact hi.keep, hi.fresh, hi.grow⟩
theorem InW.setCell (hi : InW B h w) {a : Addr} {u v : Value} (hc : cell? h.m a = some u) : InW B ⟨Lift.aS h.m a v, h.pv⟩ (w.setCell a v) := by
  obtain ⟨c, T, f, hb⟩ := qj hc
  have hH := hi.rel.cellsAt hb
  have nj : ∀ b : Nat, h.m[b]? = some junk → a.block ≠ b := by
    intro b hbj e
    subst e
    rw [hb] at hbj
    exact sU (Option.some.inj hbj)
  refine ⟨hi.os, hi.out, hi.tape, ⟨?_, ?_, ?_, hi.rel.nodup⟩, ?_, hi.fresh, by rw [fQ]; exact hi.grow⟩
  · rw [zJ, fQ, fQ]; exact hi.rel.size
  · intro b
    by_cases e : a.block = b
    · subst e
      right
      rw [zJ, dt, dt, if_pos rfl, if_pos rfl, hH, hb]
    · rw [zJ, dt, dt, if_neg e, if_neg e]
      exact hi.rel.same b
  · intro b cs hm
    obtain ⟨h1, T', h2⟩ := hi.rel.priv b cs hm
    have := nj b h1
    refine ⟨by rw [dt, if_neg this]; exact h1, T', by rw [zJ, dt, if_neg this]; exact h2⟩
  · intro b hbj
    obtain ⟨h1, h2⟩ := hi.keep b hbj
    have := nj b h1
    exact ⟨by rw [dt, if_neg this]; exact h1, by rw [zJ, dt, if_neg this]; exact h2⟩
theorem InW.push (hi : InW B h w) {o : Obj} (hs : Same w w') (hh : w'.heap = w.heap.push o) : InW B ⟨h.m.push o, h.pv⟩ w' := by
  have hsz := hi.rel.size
  refine ⟨hs.os.trans hi.os, hs.out.trans hi.out, ⟨hs.tape.1.trans hi.tape.1, Nat.le_trans hi.tape.2 hs.tape.2⟩, ⟨?_, ?_, ?_, hi.rel.nodup⟩, ?_, hi.fresh, by have := hi.grow; simp; omega⟩
  · rw [hh]; simp [hsz]
  · intro b
    rw [hh, Array.getElem?_push, Array.getElem?_push, hsz]
    by_cases e : b = h.m.size
    · simp [e]
    · rw [if_neg e, if_neg e]; exact hi.rel.same b
  · intro b cs hm
    obtain ⟨h1, T', h2⟩ := hi.rel.priv b cs hm
    have hlt : b < h.m.size := (Array.getElem?_eq_some_iff.1 h1).1
    refine ⟨?_, T', ?_⟩
    · rw [Array.getElem?_push, if_neg (by omega)]; exact h1
    · rw [hh, Array.getElem?_push, if_neg (by omega)]; exact h2
  · intro b hbj
    obtain ⟨h1, h2⟩ := hi.keep b hbj
    have hlt : b < h.m.size := (Array.getElem?_eq_some_iff.1 h1).1
    exact ⟨by rw [Array.getElem?_push, if_neg (by omega)]; exact h1, by rw [hh, Array.getElem?_push, if_neg (by omega)]; exact h2⟩
theorem InW.pushP (hi : InW B h w) {cs : List Value} {T : TypeId} (hs : Same w w') (hh : w'.heap = w.heap.push (.cells cs.toArray T (0, 0))) : InW B ⟨h.m.push junk, (h.m.size, cs) :: h.pv⟩ w' := by
  have hsz := hi.rel.size
  have hlt : ∀ b cs, (b, cs) ∈ h.pv → b < h.m.size := fun b cs hm => (Array.getElem?_eq_some_iff.1 (hi.rel.priv b cs hm).1).1
  refine ⟨hs.os.trans hi.os, hs.out.trans hi.out, ⟨hs.tape.1.trans hi.tape.1, Nat.le_trans hi.tape.2 hs.tape.2⟩, ⟨?_, ?_, ?_, ?_⟩, ?_, ?_, by have := hi.grow; simp; omega⟩
  · rw [hh]; simp [hsz]
  · intro b
    rw [hh, Array.getElem?_push, Array.getElem?_push, hsz]
    by_cases e : b = h.m.size
    · simp [e]
    · rw [if_neg e, if_neg e]; exact hi.rel.same b
  · intro b ds hm
    rcases List.mem_cons.1 hm with e | hm
    · cases e
      refine ⟨by simp, T, ?_⟩
      rw [hh, Array.getElem?_push, if_pos hsz.symm]
    · obtain ⟨h1, T', h2⟩ := hi.rel.priv b ds hm
      have hlt := hlt b ds hm
      refine ⟨?_, T', ?_⟩
      · show (h.m.push junk)[b]? = _
        rw [Array.getElem?_push, if_neg (by omega)]; exact h1
      · rw [hh, Array.getElem?_push, if_neg (by omega)]; exact h2
  · show ((h.m.size, cs) :: h.pv).map (·.1) |>.Nodup
    rw [List.map_cons, List.nodup_cons]
    refine ⟨fun hm => ?_, hi.rel.nodup⟩
    obtain ⟨⟨b, ds⟩, hm, e⟩ := List.mem_map.1 hm
    have := hlt b ds hm
    simp only at e
    omega
  · intro b hbj
    obtain ⟨h1, h2⟩ := hi.keep b hbj
    have hlt : b < h.m.size := (Array.getElem?_eq_some_iff.1 h1).1
    exact ⟨by show (h.m.push junk)[b]? = _; rw [Array.getElem?_push, if_neg (by omega)]; exact h1, by rw [hh, Array.getElem?_push, if_neg (by omega)]; exact h2⟩
  · intro b ds hm
    rcases List.mem_cons.1 hm with e | hm
    · cases e; exact hi.grow
    · exact hi.fresh b ds hm
theorem Rel.pcell (hr : Rel h H) {i : Nat} {a : Addr} {cs : List Value} {v : Value} (hp : h.pv[i]? = some (a.block, cs)) (hs : a.spot = none) (hv : cs[a.off]? = some v) : cell? H a = some v := by
  obtain ⟨_, T, h2⟩ := hr.priv _ _ (List.mem_of_getElem? hp)
  unfold cell?
  rw [h2]
  simp [hs, hv]
theorem Rel.pfrozen (hr : Rel h H) {i : Nat} {a : Addr} {cs : List Value} (hp : h.pv[i]? = some (a.block, cs)) : frozen? H a = false := by
  obtain ⟨_, T, h2⟩ := hr.priv _ _ (List.mem_of_getElem? hp)
  unfold frozen?
  rw [h2]
  simp
theorem InW.setP (hi : InW B h w) {i : Nat} {a : Addr} {cs : List Value} {v : Value} (hp : h.pv[i]? = some (a.block, cs)) (hs : a.spot = none) :
    InW B ⟨h.m, h.pv.set i (a.block, cs.set a.off v)⟩ (w.setCell a v) := by
  have hmem := List.mem_of_getElem? hp
  obtain ⟨hj, T, hH⟩ := hi.rel.priv _ _ hmem
  have hlen : i < h.pv.length := (List.getElem?_eq_some_iff.1 hp).1
  have hfst : (h.pv.set i (a.block, cs.set a.off v)).map (·.1) = h.pv.map (·.1) := by
    rw [List.map_set]
    apply List.ext_getElem?
    intro k
    rw [List.getElem?_set]
    by_cases e : i = k
    · subst e; simp [hlen, (List.getElem?_eq_some_iff.1 hp).2]
    · rw [if_neg e]
  have hother : ∀ b ds, (b, ds) ∈ h.pv.set i (a.block, cs.set a.off v) → (b = a.block ∧ ds = cs.set a.off v) ∨ (b ≠ a.block ∧ (b, ds) ∈ h.pv) := by
    intro b ds hm
    obtain ⟨k, hk, e⟩ := List.getElem_of_mem hm
    rw [List.getElem_set] at e
    by_cases ek : i = k
    · rw [if_pos ek] at e; cases e; exact .inl ⟨rfl, rfl⟩
    · rw [if_neg ek] at e
      have hk' : k < h.pv.length := by simpa using hk
      refine .inr ⟨fun hb => ?_, e ▸ List.getElem_mem hk'⟩
      have n1 := hi.rel.nodup
      have h1 : (h.pv.map (·.1))[i]'(by simpa using hlen) = (h.pv.map (·.1))[k]'(by simpa using hk') := by
        have := (List.getElem?_eq_some_iff.1 hp).2
        simp only [List.getElem_map, this, e, hb]
      exact ek (wJ n1 h1)
  refine ⟨hi.os, hi.out, hi.tape, ⟨?_, ?_, ?_, by rw [hfst]; exact hi.rel.nodup⟩, ?_, ?_, hi.grow⟩
  · rw [zJ, fQ]; exact hi.rel.size
  · intro b
    by_cases e : a.block = b
    · subst e; exact .inl hj
    · rw [zJ, dt, if_neg e]; exact hi.rel.same b
  · intro b ds hm
    rcases hother b ds hm with ⟨rfl, rfl⟩ | ⟨hne, hm⟩
    · refine ⟨hj, T, ?_⟩
      rw [zJ, dt, if_pos rfl, hH]
      simp [hs]
    · obtain ⟨h1, T', h2⟩ := hi.rel.priv b ds hm
      exact ⟨h1, T', by rw [zJ, dt, if_neg (Ne.symm hne)]; exact h2⟩
  · intro b hbj
    obtain ⟨h1, h2⟩ := hi.keep b hbj
    refine ⟨h1, ?_⟩
    rw [zJ, dt]
    by_cases e : a.block = b
    · exfalso
      have h3 := hi.fresh _ _ hmem
      have h4 : b < B.h.size := (Array.getElem?_eq_some_iff.1 hbj).1
      omega
    · rw [if_neg e]; exact h2
  · intro b ds hm
    rcases hother b ds hm with ⟨rfl, rfl⟩ | ⟨_, hm⟩
    · exact hi.fresh _ _ hmem
    · exact hi.fresh b ds hm
theorem InW.call (hi : InW B h w) {m' : Heap} (hc : InW ⟨w, h.m⟩ ⟨m', []⟩ w') : InW B ⟨m', h.pv⟩ w' := by
  refine ⟨hc.os.trans hi.os, hc.out.trans hi.out, ⟨hc.tape.1.trans hi.tape.1, Nat.le_trans hi.tape.2 hc.tape.2⟩, ⟨hc.rel.size, hc.rel.same, ?_, hi.rel.nodup⟩, ?_, hi.fresh, Nat.le_trans hi.grow hc.grow⟩
  · intro b cs hm
    obtain ⟨h1, T, h2⟩ := hi.rel.priv b cs hm
    obtain ⟨h3, h4⟩ := hc.keep b h1
    exact ⟨h3, T, h4.trans h2⟩
  · intro b hbj
    obtain ⟨h1, h2⟩ := hi.keep b hbj
    obtain ⟨h3, h4⟩ := hc.keep b h1
    exact ⟨h3, h4.trans h2⟩
theorem InW.relCall (hi : InW B h w) : Rel ⟨h.m, []⟩ w.heap := ⟨hi.rel.size, hi.rel.same, fun b cs hb => by simp at hb, by simp⟩
def lK (pv : List (Nat × List Value)) : List Nat → Option (List (Nat × List Value))
  | [] => some []
  | i :: is => match pv[i]?, lK pv is with
    | some x, some r => some (x :: r)
    | _, _ => none
theorem aaE {pv : List (Nat × List Value)} : ∀ {is : List Nat} {qv : List (Nat × List Value)}, lK pv is = some qv → ∀ x ∈ qv, ∃ i ∈ is, pv[i]? = some x := by
  intro is
  induction is with
  | nil => intro qv h x hx; simp [lK] at h; subst h; cases hx
  | cons i is ih =>
    intro qv h x hx
    simp only [lK] at h
    split at h
    · rename_i y r h1 h2
      simp only [Option.some.injEq] at h; subst h
      rcases List.mem_cons.1 hx with rfl | hx
      · exact ⟨i, List.mem_cons_self .., h1⟩
      · obtain ⟨j, hj, e⟩ := ih h2 x hx
        exact ⟨j, List.mem_cons_of_mem _ hj, e⟩
    · cases h
theorem acv {pv : List (Nat × List Value)} (hn : (pv.map (·.1)).Nodup) : ∀ {is : List Nat} {qv : List (Nat × List Value)}, is.Nodup → lK pv is = some qv → (qv.map (·.1)).Nodup := by
  intro is
  induction is with
  | nil => intro qv _ h; simp [lK] at h; subst h; simp
  | cons i is ih =>
    intro qv hd h
    simp only [lK] at h
    split at h
    · rename_i y r h1 h2
      simp only [Option.some.injEq] at h; subst h
      obtain ⟨hd1, hd2⟩ := List.nodup_cons.1 hd
      rw [List.map_cons, List.nodup_cons]
      refine ⟨fun hm => ?_, ih hd2 h2⟩
      obtain ⟨z, hz, e⟩ := List.mem_map.1 hm
      obtain ⟨j, hj, ej⟩ := aaE h2 z hz
      have hi := List.getElem?_eq_some_iff.1 h1
      have hj2 := List.getElem?_eq_some_iff.1 ej
      obtain ⟨li, ei⟩ := hi
      obtain ⟨lj, ej'⟩ := hj2
      have : (pv.map (·.1))[j]'(by simpa using lj) = (pv.map (·.1))[i]'(by simpa using li) := by
        simp only [List.getElem_map, ei, ej', e]
      have := wJ hn this
      subst this
      exact hd1 hj
    · cases h
theorem InW.pick (hi : InW B h w) {is : List Nat} {qv : List (Nat × List Value)} (hd : is.Nodup) (hq : lK h.pv is = some qv) : InW B ⟨h.m, qv⟩ w := by
  have hm : ∀ x ∈ qv, x ∈ h.pv := fun x hx => by
    obtain ⟨i, _, e⟩ := aaE hq x hx
    exact List.mem_of_getElem? e
  exact ⟨hi.os, hi.out, hi.tape, ⟨hi.rel.size, hi.rel.same, fun b cs hb => hi.rel.priv b cs (hm _ hb), acv hi.rel.nodup hd hq⟩, hi.keep, fun b cs hb => hi.fresh b cs (hm _ hb), hi.grow⟩
end Go.Lift

namespace Go.Lift
open Go
abbrev Frm := List (Nat × Value)
def Frm.get : Frm → Nat → Option Value
  | [], _ => none
  | (i, v) :: r, t => match Nat.beq i t with
    | true => some v
    | false => Frm.get r t
def Frm.ev (L : Frm) : Operand → Option Value
  | .tmp t => L.get t
  | .const v => some v
  | .global g => some (.pointer (some ⟨g, 0, none⟩))
  | .func f => some (.func (.func f) #[] #[])
def Frm.put (L : Frm) (d : Option Nat) (v : Value) : Frm :=
  match d with
  | some d => (d, v) :: L
  | none => L
def Agree (n : Nat) (L : Frm) (a : Act) : Prop :=
  a.tmps.size = n ∧ a.defers = [] ∧ ∀ t v, L.get t = some v → a.tmps[t]? = some v
theorem Frm.get_cons (L : Frm) (d : Nat) (v : Value) (t : Nat) :
    Frm.get ((d, v) :: L) t = if d = t then some v else L.get t := by
  simp only [Frm.get]
  by_cases h : d = t
  · subst h; simp [Nat.beq_refl]
  · have : Nat.beq d t = false := by
      cases hb : Nat.beq d t
      · rfl
      · exact absurd (Nat.eq_of_beq_eq_true hb) h
    simp [this, h]
variable {n : Nat} {L : Frm} {a : Act} {w : World} {B : Base}
theorem Agree.eval (h : Agree n L a) {x : Operand} {v : Value} (hv : L.ev x = some v) : a.eval x = v := by
  cases x with
  | tmp t => 
    have := h.2.2 t v hv
    simp [Act.eval, this]
  | const c => simpa [Frm.ev, Act.eval] using hv
  | global g => simpa [Frm.ev, Act.eval] using hv
  | func f => simpa [Frm.ev, Act.eval] using hv
theorem Agree.put (h : Agree n L a) {d : Option Nat} {v : Value} (hd : ∀ t, d = some t → t < n) : Agree n (L.put d v) (a.put d v) := by
  cases d with
  | none => exact h
  | some d =>
    have hd := hd d rfl
    obtain ⟨h1, h2, h3⟩ := h
    refine ⟨by simpa [Act.put] using h1, h2, ?_⟩
    intro t u hu
    simp only [Frm.put] at hu
    rw [Frm.get_cons] at hu
    by_cases e : d = t
    · subst e
      simp only [if_true, Option.some.injEq] at hu
      subst hu
      have : d < a.tmps.size := by omega
      simp [Act.put, this]
    · rw [if_neg e] at hu
      simpa [Act.put, Array.getElem?_setIfInBounds_ne e] using h3 t u hu
def Frm.sub : Frm → Frm → Prop
  | [], _ => True
  | (t, v) :: r, L => L.get t = some v ∧ Frm.sub r L
theorem Frm.sub_get {M L : Frm} (h : Frm.sub M L) {t : Nat} {v : Value} (hv : M.get t = some v) : L.get t = some v := by
  induction M with
  | nil => simp [Frm.get] at hv
  | cons p r ih =>
    obtain ⟨d, u⟩ := p
    obtain ⟨h1, h2⟩ := h
    rw [Frm.get_cons] at hv
    by_cases e : d = t
    · subst e
      simp only [if_true, Option.some.injEq] at hv
      subst hv
      exact h1
    · rw [if_neg e] at hv
      exact ih h2 hv
theorem Agree.weaken (h : Agree n L a) {M : Frm} (hs : Frm.sub M L) : Agree n M a :=
  ⟨h.1, h.2.1, fun t v hv => h.2.2 t v (Frm.sub_get hs hv)⟩
def AtL (P : Program) (n : Nat) (B : Base) (ops : Array Oper) (Q : Exit → Act → World → Prop) (L : Frm) (h : Hp) (l : List Oper) : Prop :=
  ∀ a w, Agree n L a → InW B h w → wpList P ops Q l a w
def AtC (P : Program) (n : Nat) (B : Base) (Q : Exit → Act → World → Prop) (L : Frm) (h : Hp) (c : Code) : Prop :=
  ∀ a w, Agree n L a → InW B h w → c.wp P Q a w
def AtE (n : Nat) (B : Base) (K : Act → World → Prop) (L : Frm) (h : Hp) : Prop :=
  ∀ a w, Agree n L a → InW B h w → K a w
section
variable {P : Program} {ops : Array Oper} {Q : Exit → Act → World → Prop} {h : Hp}
theorem AtC.region {id : Nat} {l : List Oper} (H : AtL P n B l.toArray Q L h l) : AtC P n B Q L h (.region id l.toArray false) :=
  fun a w ha hw => wp_region_lit (H a w ha hw)
theorem AtC.seq {x y : Code} (H : AtC P n B (Exit.then (y.wp P Q) Q) L h x) : AtC P n B Q L h (.seq x y) :=
  fun a w ha hw => wp_seq (H a w ha hw)
theorem AtC.seqR {id : Nat} {l : List Oper} {y : Code} (H : AtL P n B l.toArray (Exit.then (y.wp P Q) Q) L h l) : AtC P n B Q L h (.seq (.region id l.toArray false) y) :=
  AtC.seq (AtC.region H)
theorem AtC.block {id : Nat} {c : Code} (H : AtC P n B (Exit.inBlock id Q) L h c) : AtC P n B Q L h (.block id c) :=
  fun a w ha hw => wp_block (H a w ha hw)
theorem AtC.skip (H : AtE n B (Q .normal) L h) : AtC P n B Q L h .skip :=
  fun a w ha hw => wp_skip (H a w ha hw)
theorem AtC.exit {id : Nat} (H : AtE n B (Q (.exit id)) L h) : AtC P n B Q L h (.exit id) :=
  fun a w ha hw => wp_exit (H a w ha hw)
theorem AtC.ret (H : AtE n B (Q .ret) L h) : AtC P n B Q L h .ret :=
  fun a w ha hw => wp_ret (H a w ha hw)
theorem AtC.cond {c : Operand} {x y : Code} {b : Bool} (hb : L.ev c = some (.bool b)) (ht : b = true → AtC P n B Q L h x) (hf : b = false → AtC P n B Q L h y) :
    AtC P n B Q L h (.cond c x y) :=
  fun a w ha hw => wp_cond_split (ha.eval hb) (fun e => ht e a w ha hw) (fun e => hf e a w ha hw)
theorem AtL.nil (H : AtE n B (Q .normal) L h) : AtL P n B ops Q L h [] :=
  fun a w ha hw => wpList_nil (H a w ha hw)
theorem AtE.go {y : Code} (H : AtC P n B Q L h y) : AtE n B (y.wp P Q) L h := H
theorem AtC.weaken {c : Code} {M : Frm} (H : AtC P n B Q M h c) (hs : Frm.sub M L) : AtC P n B Q L h c :=
  fun a w ha hw => H a w (ha.weaken hs) hw
theorem xM {c : Code} (I : Nat → Act → World → Prop) {m : Nat} (h0 : I m a w)
    (round : ∀ m a w, I m a w → c.wp P (Exit.then (fun a' w' => ∃ m', m' < m ∧ I m' a' w') Q) a w) : (Code.loop c).wp P Q a w := by
  intro b k cs
  have key : ∀ m a w, I m a w →
      ∃ e a' w', Q e a' w' ∧ Arrives P (lone (b.at a (.code c :: .inLoop c :: k)) cs w) b k cs e a' w' := by
    intro m
    induction m using Nat.strongRecOn with
    | _ m ih =>
      intro a w hI
      obtain ⟨e, a₁, w₁, hq, harr⟩ := round m a w hI b (.inLoop c :: k) cs
      cases e with
      | normal =>
        obtain ⟨m', hlt, hI₁⟩ := hq
        obtain ⟨e₂, a₂, w₂, hq₂, harr₂⟩ := ih m' hlt a₁ w₁ hI₁
        exact ⟨e₂, a₂, w₂, hq₂, .of_steps (Steps.trans harr (.one step_inLoop)) harr₂⟩
      | exit id => exact ⟨_, a₁, w₁, hq, .pass (x := .inLoop c) rfl (fun _ _ => .inl (by simp)) harr⟩
      | goto l => exact ⟨_, a₁, w₁, hq, .pass (x := .inLoop c) rfl (fun _ _ => .inl (by simp)) harr⟩
      | ret => exact ⟨_, a₁, w₁, hq, .pass (x := .inLoop c) rfl (fun _ _ => .inl (by simp)) harr⟩
      | panic ch => exact ⟨_, a₁, w₁, hq, .pass (x := .inLoop c) rfl (fun _ _ => .inl (by simp)) harr⟩
      | outgrown => exact ⟨_, a₁, w₁, hq, .pass (x := .inLoop c) rfl (fun _ _ => .inl (by simp)) harr⟩
  obtain ⟨e, a', w', hq, harr⟩ := key m a w h0
  exact ⟨e, a', w', hq, .of_steps (.one step_loop) harr⟩
end
def Let {α : Type} (e : α) (k : α → Prop) : Prop := ∀ x, x = e → k x
def seq {τ : Type} (m : (τ → Heap → Prop) → Prop) (k : τ → Heap → Prop) : Prop := ∃ J : τ → Heap → Prop, m J ∧ ∀ t h, J t h → k t h
def loop {σ : Type} (body : σ → Heap → (σ → Heap → Prop) → Prop) (s : σ) (h : Heap) : Prop :=
  ∃ (I : σ → Heap → Prop) (m : σ → Heap → Nat), I s h ∧ ∀ s h, I s h → body s h (fun s' h' => I s' h' ∧ m s' h' < m s h)
structure MExt (h h' : Heap) : Prop where
  size : h.size ≤ h'.size
  same : ∀ b : Nat, b < h.size → h'[b]? = h[b]?
theorem MExt.refl (h : Heap) : MExt h h := ⟨Nat.le_refl _, fun _ _ => rfl⟩
theorem MExt.push (h : Heap) (o : Obj) : MExt h (h.push o) := ⟨by simp, fun b hb => by rw [Array.getElem?_push, if_neg (by omega)]⟩
theorem MExt.trans {a b c : Heap} (h : MExt a b) (k : MExt b c) : MExt a c := ⟨Nat.le_trans h.size k.size, fun i hi => (k.same i (Nat.lt_of_lt_of_le hi h.size)).trans (h.same i hi)⟩
theorem MExt.cell {h h' : Heap} (e : MExt h h') {a : Addr} {v : Value} (hc : Lift.cell? h a = some v) : Lift.cell? h' a = some v := by
  obtain ⟨c, T, f, hb⟩ := qj hc
  have := e.same a.block (Array.getElem?_eq_some_iff.1 hb).1
  unfold Lift.cell? at hc ⊢
  rw [this]; exact hc
def mem (h : Heap) (k : Heap → Prop) : Prop := ∀ h' : Heap, MExt h h' → k h'
theorem mem.self {h : Heap} {k : Heap → Prop} (H : mem h k) : k h := H h (MExt.refl h)
theorem mem.push {h : Heap} {k : Heap → Prop} (H : mem h k) (o : Obj) : mem (h.push o) k := fun h' e => H h' ((MExt.push h o).trans e)
theorem seq.dup {τ : Type} {m : (τ → Heap → Prop) → Prop} {k : τ → Heap → Prop} (h : m k) : seq m k := ⟨k, h, fun _ _ h => h⟩
theorem seq.cut {τ : Type} {m : (τ → Heap → Prop) → Prop} {k : τ → Heap → Prop} (J : τ → Heap → Prop) (h1 : m J) (h2 : ∀ t h, J t h → k t h) : seq m k := ⟨J, h1, h2⟩
theorem loop.inv {σ : Type} {body : σ → Heap → (σ → Heap → Prop) → Prop} {s : σ} {h : Heap} (I : σ → Heap → Prop) (m : σ → Heap → Nat) (h0 : I s h)
    (hb : ∀ s h, I s h → body s h (fun s' h' => I s' h' ∧ m s' h' < m s h)) : loop body s h := ⟨I, m, h0, hb⟩
section
variable {P : Program} {ops : Array Oper} {Q : Exit → Act → World → Prop} {h : Hp}
theorem AtC.loop {σ : Type} {c : Code} {body : σ → Heap → (σ → Heap → Prop) → Prop} {s : σ} {is : List Nat} (M : σ → Frm) (Pt : σ → List (Nat × List Value))
    (H : Lift.loop body s h.m) (hs : Frm.sub (M s) L) (hnd : is.Nodup) (hpv : lK h.pv is = some (Pt s))
    (round : ∀ (K : σ → Heap → Prop) s m, body s m K → ∀ Q' : Act → World → Prop, (∀ s m, K s m → AtE n B Q' (M s) ⟨m, Pt s⟩) → AtC P n B (Exit.then Q' Q) (M s) ⟨m, Pt s⟩ c) :
    AtC P n B Q L h (.loop c) := by
  obtain ⟨I, ms, h0, hb⟩ := H
  intro a w ha hw
  refine xM (fun k a w => ∃ s m, Agree n (M s) a ∧ InW B ⟨m, Pt s⟩ w ∧ I s m ∧ ms s m = k) (m := ms s h.m) ⟨s, h.m, ha.weaken hs, hw.pick hnd hpv, h0, rfl⟩ ?_
  rintro k a w ⟨s, m, ha, hw, hI, rfl⟩
  refine round _ s m (hb s m hI) _ (fun s' m' hk => ?_) a w ha hw
  intro a' w' ha' hw'
  exact ⟨ms s' m', hk.2, s', m', ha', hw', hk.1, rfl⟩
end
def Post {α : Type} (B : Base) (toV : α → Value) (S : α → Heap → Prop) : Ending → World → Prop :=
  fun e w' => ∃ r m, e = .returned (toV r) ∧ InW B ⟨m, []⟩ w' ∧ S r m
def Frm.ofArgs (l : List Value) : Nat → Frm
  | k => match l with
    | [] => []
    | v :: r => (k, v) :: Frm.ofArgs r (k + 1)
theorem Frm.ofArgs_get (l : List Value) : ∀ (k t : Nat) (v : Value), Frm.get (Frm.ofArgs l k) t = some v → k ≤ t ∧ l[t - k]? = some v := by
  induction l with
  | nil => intro k t v h; simp [Frm.ofArgs, Frm.get] at h
  | cons x r ih =>
    intro k t v h
    simp only [Frm.ofArgs, Frm.get_cons] at h
    by_cases e : k = t
    · subst e; simpa using h
    · rw [if_neg e] at h
      obtain ⟨h1, h2⟩ := ih (k + 1) t v h
      refine ⟨by omega, ?_⟩
      have : t - k = (t - (k + 1)) + 1 := by omega
      rw [this, List.getElem?_cons_succ]
      exact h2
theorem Calls.lift {α : Type} {P : Program} {f : FuncId} {fn : Func} {c : Code} {args : List Value} {w : World} {m : Heap} {toV : α → Value} {S : α → Heap → Prop} {n : Nat}
    (hf : P.funcs[f]? = some fn) (hb : fn.body = some c) (hn : fn.ntmps = n) (hle : args.length ≤ n) (hr : Rel ⟨m, []⟩ w.heap)
    (sh : Prop) (H : sh) (h : sh → AtC P n ⟨w, m⟩ (bodyPost P fn (Post ⟨w, m⟩ toV S)) (Frm.ofArgs args 0) ⟨m, []⟩ c) : Calls P f args.toArray w (Post ⟨w, m⟩ toV S) := by
  refine calls_of_wp hf hb ?_
  refine h H _ w ⟨?_, rfl, ?_⟩ (InW.start hr)
  · simp [hn]; omega
  · intro t v hv
    obtain ⟨_, h2⟩ := Frm.ofArgs_get args 0 t v hv
    simp only [Nat.sub_zero] at h2
    have hlt : t < args.length := by
      rcases Nat.lt_or_ge t args.length with h | h
      · exact h
      · simp [List.getElem?_eq_none h] at h2
    simp only [List.getElem?_eq_getElem hlt, Option.some.injEq] at h2
    rw [Array.getElem?_append]
    simp [hlt, h2]
theorem InW.forget {h : Hp} {w : World} {B : Base} (hi : InW B h w) : InW B ⟨h.m, []⟩ w := hi.pick (is := []) (by simp) rfl
section
variable {P : Program} {h : Hp} {α : Type} {toV : α → Value} {S : α → Heap → Prop} {fn : Func}
end
def Quiet1 (P : Program) (n : Nat) (L : Frm) (h : Hp) (o : Oper) (v : Value) : Prop :=
  ∀ a w, Agree n L a → Rel h w.heap → (execOp a.eval o).run P w = .ok (.value v) w
def Eff (P : Program) (n : Nat) (B : Base) (L : Frm) (h : Hp) (o : Oper) (K : Value → Hp → Prop) : Prop :=
  ∀ a w, Agree n L a → InW B h w → ∀ (next : Act → World → Prop) (Q : Exit → Act → World → Prop),
    (∀ v w' h', InW B h' w' → K v h' → next (a.put o.dst v) w') → o.wp P a w next Q
section
variable {P : Program} {ops : Array Oper} {Q : Exit → Act → World → Prop} {h : Hp} {o : Oper} {l : List Oper}
def kG (o : Oper) (n : Nat) : Bool :=
  match o.guard with
  | some _ => false
  | none => match o.dst with
    | some d => Nat.blt d n
    | none => true
theorem uh (h : kG o n = true) : o.guard = none ∧ ∀ t, o.dst = some t → t < n := by
  unfold kG at h
  split at h
  · cases h
  · rename_i hg
    refine ⟨hg, fun t ht => ?_⟩
    rw [ht] at h
    simpa [Nat.blt_eq] using h
theorem AtL.q {v : Value} (hd : kG o n = true) (hq : Quiet1 P n L h o v) (H : AtL P n B ops Q (L.put o.dst v) h l) : AtL P n B ops Q L h (o :: l) := by
  intro a w ha hw
  obtain ⟨hg, hd⟩ := uh hd
  refine wpList_plain hg fun K hK => ?_
  unfold Oper.wp
  rw [hq a w ha hw.rel]
  exact hK _ _ (H _ _ (ha.put hd) hw)
theorem AtL.e {K : Value → Hp → Prop} (hd : kG o n = true) (he : Eff P n B L h o K) (H : ∀ v h', K v h' → AtL P n B ops Q (L.put o.dst v) h' l) : AtL P n B ops Q L h (o :: l) := by
  intro a w ha hw
  obtain ⟨hg, hd⟩ := uh hd
  refine wpList_plain hg fun K hK => ?_
  exact he a w ha hw K Q fun v w' h' hi hk => hK _ _ (H v h' hk _ _ (ha.put hd) hi)
theorem AtL.known {t : Nat} {b c : Bool} (hv : L.get t = some (.bool b)) (hb : b = c) (H : AtL P n B ops Q ((t, .bool c) :: L) h l) : AtL P n B ops Q L h l := by
  subst hb
  intro a w ha hw
  refine H a w ⟨ha.1, ha.2.1, fun u v hu => ?_⟩ hw
  rw [Frm.get_cons] at hu
  by_cases e : t = u
  · subst e
    simp only [if_true, Option.some.injEq] at hu
    subst hu
    exact ha.2.2 _ _ hv
  · rw [if_neg e] at hu
    exact ha.2.2 _ _ hu
theorem agK {m : Nat} (h : kG { o with guard := none } m = true) : ∀ t, o.dst = some t → t < m := (uh h).2
theorem AtL.skipIt {j : Nat} {c : Bool} (hg : o.guard = some (j, c)) (hd : kG { o with guard := none } n = true) (hy : ∀ a, Agree n L a → yielded ops a.tmps j ≠ some c)
    (H : AtL P n B ops Q (L.put o.dst undef) h l) : AtL P n B ops Q L h (o :: l) := by
  intro a w ha hw
  unfold wpList
  have hw' : Region.wanted o (yielded ops a.tmps) = false := by
    unfold Region.wanted
    rw [hg]
    simpa using hy a ha
  rw [if_neg (by simp [hw'])]
  exact H _ _ (ha.put (agK hd)) hw
theorem aha {j t : Nat} {b c : Bool} (hj : (ops[j]?).bind (·.dst) = some t) (hv : L.get t = some (.bool b)) (hbc : b ≠ c) : ∀ a, Agree n L a → yielded ops a.tmps j ≠ some c := by
  intro a ha
  unfold yielded
  simp [hj, ha.2.2 t _ hv, hbc]
theorem afk {j t : Nat} {c : Bool} (hj : (ops[j]?).bind (·.dst) = some t) (hv : L.get t = some undef) : ∀ a, Agree n L a → yielded ops a.tmps j ≠ some c := by
  intro a ha
  unfold yielded
  simp [hj, ha.2.2 t _ hv, undef]
theorem AtL.yes {t : Nat} {j : Nat} {c : Bool} (hg : o.guard = some (j, c)) (hj : (ops[j]?).bind (·.dst) = some t) (hv : L.get t = some (.bool c))
    (H : AtL P n B ops Q L h ({ o with guard := none } :: l)) : AtL P n B ops Q L h (o :: l) := by
  intro a w ha hw
  have h1 := H a w ha hw
  unfold wpList at h1 ⊢
  have hy : yielded ops a.tmps j = some c := by
    unfold yielded
    simp [hj, ha.2.2 t _ hv]
  have hw' : Region.wanted o (yielded ops a.tmps) = true := by
    unfold Region.wanted
    rw [hg]
    simp [hy]
  rw [if_pos hw']
  rw [if_pos (by simp [Region.wanted])] at h1
  have hop : ∀ ρ, execOp ρ { o with guard := none } = execOp ρ o := fun ρ => rfl
  simpa [Oper.wp, Oper.upon, Oper.asks, hop] using h1
end
end Go.Lift

namespace Go.Lift
open Go
abbrev TTab := List (Nat × TypeDesc × Nat × Nat × List Value)
def TTab.find : TTab → Nat → Option (TypeDesc × Nat × Nat × List Value)
  | [], _ => none
  | (i, v) :: r, t => match Nat.beq i t with
    | true => some v
    | false => TTab.find r t
def TTab.Ok (P : Program) (T : TTab) : Prop :=
  ∀ t d s b z, T.find t = some (d, s, b, z) → P.underlying t = some d ∧ ∃ i, P.info? t = some i ∧ i.size = s ∧ i.bytes = b ∧ ∃ v, i.zero = some v ∧ v.cells.toList = z
theorem TTab.ok_nil (P : Program) : TTab.Ok P [] := fun t d s b z h => by simp [TTab.find] at h
theorem TTab.ok_cons {P : Program} {T : TTab} {t : Nat} {d : TypeDesc} {s b : Nat} {z : List Value} (h1 : P.underlying t = some d) (h2 : (P.info? t).map (fun i => (i.size, i.bytes, i.zero.map (·.cells.toList))) = some (s, b, some z)) (h : TTab.Ok P T) :
    TTab.Ok P ((t, d, s, b, z) :: T) := by
  intro u d' s' b' z' hu
  simp only [TTab.find] at hu
  split at hu
  · rename_i hb
    have := Nat.eq_of_beq_eq_true hb
    subst this
    simp only [Option.some.injEq, Prod.mk.injEq] at hu
    obtain ⟨rfl, rfl, rfl, rfl⟩ := hu
    refine ⟨h1, ?_⟩
    cases hi : P.info? t with
    | none => simp [hi] at h2
    | some i =>
      simp only [hi, Option.map_some, Option.some.injEq, Prod.mk.injEq] at h2
      obtain ⟨e1, e2, e3⟩ := h2
      refine ⟨i, rfl, e1, e2, ?_⟩
      cases hz : i.zero with
      | none => simp [hz] at e3
      | some v => simp [hz] at e3; exact ⟨v, rfl, e3⟩
  · exact h u d' s' b' z' hu
def TTab.desc (T : TTab) (t : Nat) : Option TypeDesc := match T.find t with | some (d, _, _, _) => some d | none => none
def TTab.size (T : TTab) (t : Nat) : Option Nat := match T.find t with | some (_, s, _, _) => some s | none => none
def TTab.bytes (T : TTab) (t : Nat) : Option Nat := match T.find t with | some (_, _, b, _) => some b | none => none
def TTab.zero (T : TTab) (t : Nat) : Option (List Value) := match T.find t with | some (_, _, _, z) => some z | none => none
theorem TTab.desc_run {P : Program} {T : TTab} (h : TTab.Ok P T) {t : Nat} {d : TypeDesc} (hd : T.desc t = some d) (w : World) : (underlying t).run P w = .ok d w := by
  unfold TTab.desc at hd
  split at hd
  · rename_i d' s b z hf
    simp only [Option.some.injEq] at hd
    subst hd
    have := (h _ _ _ _ _ hf).1
    simp [underlying, Result.andThen, this]
  · cases hd
theorem TTab.size_run {P : Program} {T : TTab} (h : TTab.Ok P T) {t s : Nat} (hd : T.size t = some s) (w : World) : (sizeOf t).run P w = .ok s w := by
  unfold TTab.size at hd
  split at hd
  · rename_i hf
    simp only [Option.some.injEq] at hd
    subst hd
    obtain ⟨_, i, hi, h1, _⟩ := h _ _ _ _ _ hf
    simp [sizeOf, typeInfo, Result.andThen, hi, h1]
  · cases hd
theorem TTab.bytes_run {P : Program} {T : TTab} (h : TTab.Ok P T) {t b : Nat} (hd : T.bytes t = some b) (w : World) : ∃ i, (typeInfo t).run P w = .ok i w ∧ i.bytes = b := by
  unfold TTab.bytes at hd
  split at hd
  · rename_i hf
    simp only [Option.some.injEq] at hd
    subst hd
    obtain ⟨_, i, hi, _, h1, _⟩ := h _ _ _ _ _ hf
    exact ⟨i, by simp [typeInfo, Result.andThen, hi], h1⟩
  · cases hd
theorem TTab.zero_run {P : Program} {T : TTab} (h : TTab.Ok P T) {t : Nat} {z : List Value} (hd : T.zero t = some z) (w : World) : ∃ v, (zeroValue t).run P w = .ok v w ∧ v.cells.toList = z := by
  unfold TTab.zero at hd
  split at hd
  · rename_i hf
    simp only [Option.some.injEq] at hd
    subst hd
    obtain ⟨_, i, hi, _, _, v, h1, h2⟩ := h _ _ _ _ _ hf
    exact ⟨v, by simp [zeroValue, typeInfo, Result.andThen, hi, h1], h2⟩
  · cases hd
theorem TTab.isAgg_run {P : Program} {T : TTab} (h : TTab.Ok P T) {t : Nat} {d : TypeDesc} (hd : T.desc t = some d) (w : World) :
    (isAgg t).run P w = .ok (match d with | .struct _ | .array _ _ => true | _ => false) w := by
  simp only [isAgg, Sem.run_bind, TTab.desc_run h hd]
  cases d <;> simp [Result.andThen]
def aew (op : BinOp) (k : IntKind) (a : Int) (k' : IntKind) (b : Int) : Option Value :=
  match op with
  | .shl => match decide (0 ≤ b) with | true => some (.int k (k.wrap (a * 2 ^ (min b.toNat k.bits)))) | false => none
  | .shr => match decide (0 ≤ b) with | true => some (.int k (a.fdiv (2 ^ (min b.toNat k.bits)))) | false => none
  | _ => match decide (k = k') with
    | false => none
    | true => match op with
      | .add => some (.int k (k.wrap (a + b)))
      | .sub => some (.int k (k.wrap (a - b)))
      | .mul => some (.int k (k.wrap (a * b)))
      | .eql => some (.bool (a == b))
      | .neq => some (.bool (a != b))
      | .lss => some (.bool (decide (a < b)))
      | .leq => some (.bool (decide (a ≤ b)))
      | .gtr => some (.bool (decide (a > b)))
      | .geq => some (.bool (decide (a ≥ b)))
      | .quo => match decide (b = 0) with | false => some (.int k (k.wrap (a.tdiv b))) | true => none
      | .rem => match decide (b = 0) with | false => some (.int k (a.tmod b)) | true => none
      | .and => some (.int k (k.wrap ((BitVec.ofInt k.bits a &&& BitVec.ofInt k.bits b).toNat)))
      | .or => some (.int k (k.wrap ((BitVec.ofInt k.bits a ||| BitVec.ofInt k.bits b).toNat)))
      | .xor => some (.int k (k.wrap ((BitVec.ofInt k.bits a ^^^ BitVec.ofInt k.bits b).toNat)))
      | _ => none
theorem afD {op : BinOp} {k k' : IntKind} {a b : Int} {v : Value} (h : aew op k a k' b = some v) (P : Program) (w : World) (t : TypeId) :
    (binOp op t (.int k a) (.int k' b)).run P w = .ok v w := by
  unfold aew at h
  cases op <;> simp only at h <;> (repeat' split at h) <;>
    first
      | (simp only [reduceCtorEq] at h)
      | (simp only [Option.some.injEq] at h; subst h; simp_all [binOp, Op.intArith, Op.intCmp, Op.intDiv, Op.intBits, Op.shift, go_sem]; done)
      | (simp only [Option.some.injEq] at h; subst h; simp_all [binOp, Op.intArith, Op.intCmp, Op.intDiv, Op.intBits, Op.shift, go_sem]; intro hh; omega)
section
variable {P : Program} {T : TTab} {n : Nat} {L : Frm} {h : Hp} {o : Oper}
def mn (x y : Int) : Int := if y < x then y else x
def kX (T : TTab) (L : Frm) (op : Op) : Option Value :=
  match op with
  | .move x | .assign x => L.ev x
  | .pick c a b => match L.ev c with
    | some (.bool true) => L.ev a
    | some (.bool false) => L.ev b
    | _ => none
  | .binOp op t x y _ => match L.ev x, L.ev y with
    | some (.int k a), some (.int k' b) => aew op k a k' b
    | some (.bool a), some (.bool b) => match op, T.desc t with
      | .eql, some .bool => some (.bool (a == b))
      | .neq, some .bool => some (.bool (!(a == b)))
      | _, _ => none
    | some (.string a), some (.string b) => match op with
      | .eql => some (.bool (a.toList == b.toList))
      | .neq => some (.bool (!(a.toList == b.toList)))
      | .lss => some (.bool (Op.bytesLess a.toList b.toList))
      | _ => none
    | some (.slice a _ _), some (.slice none _ _) => match op, T.desc t, a with
      | .eql, some (.slice _), none => some (.bool true)
      | .eql, some (.slice _), some _ => some (.bool false)
      | .neq, some (.slice _), none => some (.bool false)
      | .neq, some (.slice _), some _ => some (.bool true)
      | _, _, _ => none
    | _, _ => none
  | .unOp .not _ x => match L.ev x with
    | some (.bool b) => some (.bool !b)
    | _ => none
  | .unOp .neg _ x => match L.ev x with
    | some (.int k a) => some (.int k (k.wrap (0 - a)))
    | _ => none
  | .convert s d x => match T.desc s, T.desc d, L.ev x with
    | some _, some (.int k), some (.int _ a) => some (.int k (k.wrap a))
    | some .string, some .string, some (.string a) => some (.string a)
    | _, _, _ => none
  | .call ⟨.builtin .len, args, tys⟩ => match args.toList, tys.toList with
    | [x], [t] => match T.desc t, L.ev x with
      | some (.slice _), some (.slice _ m _) => some (.int .i64 m)
      | some .string, some (.string s) => some (.int .i64 s.size)
      | some (.array m _), some _ => some (.int .i64 m)
      | _, _ => none
    | _, _ => none
  | .call ⟨.builtin .cap, args, tys⟩ => match args.toList, tys.toList with
    | [x], [t] => match T.desc t, L.ev x with
      | some (.slice _), some (.slice _ _ c) => some (.int .i64 c)
      | _, _ => none
    | _, _ => none
  | .call ⟨.builtin .max, args, _⟩ => match args.toList with
    | [x, y] => match L.ev x, L.ev y with
      | some (.int k a), some (.int _ b) => some (.int k (if b > a then b else a))
      | _, _ => none
    | _ => none
  | .call ⟨.builtin .min, args, _⟩ => match args.toList with
    | [x, y] => match L.ev x, L.ev y with
      | some (.int k a), some (.int _ b) => some (.int k (if b < a then b else a))
      | _, _ => none
    | [x, y, z, u, w] => match L.ev x, L.ev y, L.ev z, L.ev u, L.ev w with
      | some (.int k a), some (.int _ b), some (.int _ c), some (.int _ d), some (.int _ e) => some (.int k (mn (mn (mn (mn a b) c) d) e))
      | _, _, _, _, _ => none
    | _ => none
  | .fieldAddr t x f => match T.desc t, L.ev x with
    | some (.struct fs), some (.pointer (some a)) => match fs.toList[f]? with
      | some fl => match T.size fl.type with
        | some (_ + 1) => some (.pointer (some (a.add fl.offset)))
        | _ => none
      | none => none
    | _, _ => none
  | .extract x i => match L.ev x with
    | some (.tuple vs) => vs.toList[i]?
    | _ => none
  | .makeInterface t x => match T.desc t with
    | some (.interface _) => none
    | some _ => match L.ev x with
      | some v => some (.iface t v)
      | none => none
    | none => none
  | _ => none
theorem ac0 (hT : TTab.Ok P T) {t : Nat} (ht : T.desc t = some .bool) (d : Nat) (a b : Bool) (w : World) : (Op.equalIn (d + 1) t (.bool a) (.bool b)).run P w = .ok (a == b) w := by
  simp [Op.equalIn, Result.andThen, TTab.desc_run hT ht]
theorem aa1 (hT : TTab.Ok P T) {t : Nat} (ht : T.desc t = some .bool) (a b : Bool) (w : World) : (Op.equal t (.bool a) (.bool b)).run P w = .ok (a == b) w :=
  ac0 hT ht 9999 a b w
theorem tM (hT : TTab.Ok P T) {t e : Nat} (ht : T.desc t = some (.slice e)) (d : Nat) (a : Option Addr) (i j k l : Nat) (w : World) : (Op.equalIn (d + 1) t (.slice a i j) (.slice none k l)).run P w = .ok a.isNone w := by
  cases a <;> simp [Op.equalIn, Result.andThen, TTab.desc_run hT ht]
theorem lB (hT : TTab.Ok P T) {t e : Nat} (ht : T.desc t = some (.slice e)) (a : Option Addr) (i j k l : Nat) (w : World) : (Op.equal t (.slice a i j) (.slice none k l)).run P w = .ok a.isNone w :=
  tM hT ht 9999 a i j k l w
set_option maxHeartbeats 2000000 in
theorem Quiet1.pure {v : Value} (hT : TTab.Ok P T) (hv : kX T L o.op = some v) : Quiet1 P n L h o v := by
  intro a w ha hw
  have ev : ∀ {x : Operand} {u : Value}, L.ev x = some u → a.eval x = u := fun hx => ha.eval hx
  unfold execOp
  unfold kX at hv
  split at hv <;> rename_i hop <;> simp only [hop]
  · simp [ev hv]
  · simp [ev hv]
  · split at hv
    · rename_i hc; simp [ev hc, ev hv, asBool]
    · rename_i hc; simp [ev hc, ev hv, asBool]
    · cases hv
  · split at hv
    · rename_i hx hy
      have := fun t => afD hv P w t
      simp only [ev hx, ev hy]
      simp [eqGuard, Result.andThen, this]
      try (split <;> simp [this])
    · rename_i op t x y u a' b hx hy
      simp only [ev hx, ev hy]
      split at hv
      · rename_i ht
        simp only [Option.some.injEq] at hv; subst hv
        simp [eqGuard, binOp, Result.andThen, aa1 hT ht]
      · rename_i ht
        simp only [Option.some.injEq] at hv; subst hv
        simp [eqGuard, binOp, Result.andThen, aa1 hT ht]
      · cases hv
    · rename_i op t x y u a' b hx hy
      simp only [ev hx, ev hy]
      split at hv
      · simp only [Option.some.injEq] at hv; subst hv
        rfl
      · simp only [Option.some.injEq] at hv; subst hv
        rfl
      · simp only [Option.some.injEq] at hv; subst hv
        rfl
      · cases hv
    · rename_i op t x y u a' _ _ _ _ hx hy
      simp only [ev hx, ev hy]
      split at hv <;> first
        | (rename_i ht; simp only [Option.some.injEq] at hv; subst hv
           simp [eqGuard, binOp, Result.andThen, lB hT ht]; done)
        | cases hv
    · cases hv
  · split at hv
    · rename_i hx; simp only [Option.some.injEq] at hv; subst hv
      simp [ev hx, Op.unary]
    · cases hv
  · split at hv
    · rename_i hx; simp only [Option.some.injEq] at hv; subst hv
      simp [ev hx, Op.unary, Op.intArith]
    · cases hv
  · split at hv
    · rename_i h1 h2 hx; simp only [Option.some.injEq] at hv; subst hv
      simp [ev hx, convert, Conv.intToInt, Result.andThen, TTab.desc_run hT h1, TTab.desc_run hT h2]
    · rename_i h1 h2 hx; simp only [Option.some.injEq] at hv; subst hv
      simp [ev hx, convert, Result.andThen, TTab.desc_run hT h1, TTab.desc_run hT h2]
    · cases hv
  · split at hv
    · rename_i hargs htys
      have e1 := congrArg List.toArray hargs
      have e2 := congrArg List.toArray htys
      simp only [Array.toArray_toList] at e1 e2
      subst e1 e2
      split at hv
      · rename_i h1 hx; simp only [Option.some.injEq] at hv; subst hv
        simp [ev hx, resolve, invoke, builtin, Builtin.len_, goInt, Result.andThen, TTab.desc_run hT h1]
      · rename_i h1 hx; simp only [Option.some.injEq] at hv; subst hv
        simp [ev hx, resolve, invoke, builtin, Builtin.len_, goInt, Result.andThen, TTab.desc_run hT h1]
      · rename_i h1 hx; simp only [Option.some.injEq] at hv; subst hv
        simp [ev hx, resolve, invoke, builtin, Builtin.len_, goInt, Result.andThen, TTab.desc_run hT h1]
      · cases hv
    · cases hv
  · split at hv
    · rename_i hargs htys
      have e1 := congrArg List.toArray hargs
      have e2 := congrArg List.toArray htys
      simp only [Array.toArray_toList] at e1 e2
      subst e1 e2
      split at hv
      · rename_i h1 hx; simp only [Option.some.injEq] at hv; subst hv
        simp [ev hx, resolve, invoke, builtin, Builtin.cap_, goInt, Result.andThen, TTab.desc_run hT h1]
      · cases hv
    · cases hv
  · split at hv
    · rename_i hargs
      have e1 := congrArg List.toArray hargs
      simp only [Array.toArray_toList] at e1
      subst e1
      split at hv
      · rename_i hx hy; simp only [Option.some.injEq] at hv; subst hv
        simp [ev hx, ev hy, resolve, invoke, builtin, Builtin.max_, Builtin.max2]
      · cases hv
    · cases hv
  · split at hv
    · rename_i hargs
      have e1 := congrArg List.toArray hargs
      simp only [Array.toArray_toList] at e1
      subst e1
      split at hv
      · rename_i hx hy; simp only [Option.some.injEq] at hv; subst hv
        simp [ev hx, ev hy, resolve, invoke, builtin, Builtin.min_, Builtin.min2]
      · cases hv
    · rename_i hargs
      have e1 := congrArg List.toArray hargs
      simp only [Array.toArray_toList] at e1
      subst e1
      split at hv
      · rename_i hx hy hz hu hw; simp only [Option.some.injEq] at hv; subst hv
        simp [ev hx, ev hy, ev hz, ev hu, ev hw, resolve, invoke, builtin, Builtin.min_, Builtin.min2, mn]
        rfl
      · cases hv
    · cases hv
  · split at hv
    · rename_i fs a' h1 hx
      split at hv
      · rename_i fl hf
        simp only [Array.getElem?_toList] at hf
        split at hv
        · rename_i s hsz; simp only [Option.some.injEq] at hv; subst hv
          simp [ev hx, Instr.fieldAt, Instr.sureAddr, fieldPlace, Result.andThen, TTab.desc_run hT h1, hf, TTab.size_run hT hsz]
        · cases hv
      · cases hv
    · cases hv
  · split at hv
    · rename_i vs hx
      simp only [Array.getElem?_toList] at hv
      simp [ev hx, Instr.extract, hv]
    · cases hv
  · split at hv
    · cases hv
    · rename_i d hni hd
      split at hv
      · rename_i u hx; simp only [Option.some.injEq] at hv; subst hv
        simp [ev hx, Instr.makeInterface, Result.andThen, TTab.desc_run hT hd]
        try (split <;> simp_all)
      · cases hv
    · cases hv
  · cases hv
end
end Go.Lift
