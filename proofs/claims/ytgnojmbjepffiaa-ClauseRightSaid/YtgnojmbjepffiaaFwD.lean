/-
  Laws that the proof of this claim's statement leans on, each proved under the conditions that it states.
-/
import Derived.Test.YtgnojmbjepffiaaFwC
import Derived.Laws.StandIn
import Derived.Lib.Bytealg
set_option linter.unusedVariables false
set_option linter.unusedSimpArgs false
namespace Go.Lift
open Go
section
variable {P : Program} {T : TTab} {n : Nat} {L : Frm} {h : Hp} {o : Oper} {B : Base}
/-- A place in an array that a pointer leads to. -/
theorem Quiet1.idxA {t e sz len : Nat} {x i : Operand} {a : Addr} {k : IntKind} {j : Int} (hT : TTab.Ok P T) (hop : o.op = .indexAddr t x i) (ht : T.desc t = some (.array len e)) (hs : T.size e = some sz)
    (hx : L.ev x = some (.pointer (some a))) (hi : L.ev i = some (.int k j)) (h2 : 0 ≤ j ∧ j < len) : Quiet1 P n L h o (.pointer (some (a.add (j.toNat * sz)))) := by
  intro ac w ha hw
  simp [execOp, hop, ha.eval hx, ha.eval hi, Instr.indexAt, asIntOf, Result.andThen, TTab.desc_run hT ht, h2, TTab.size_run hT hs, Instr.sureAddr]

/-- A function's value, with what it is bound to and what it has captured. -/
theorem Quiet1.makeFn {fn : Fn} {first captured : Array Operand} {bs cs : List Value} (hop : o.op = .makeFunc fn first captured) (hb : evArgs L first.toList = some bs) (hc : evArgs L captured.toList = some cs) :
    Quiet1 P n L h o (.func fn bs.toArray cs.toArray) := by
  intro ac w ha hw
  have e1 := evArgs_spec ha _ _ hb
  have e2 := evArgs_spec ha _ _ hc
  have e3 : first.map ac.eval = bs.toArray := by rw [← e1, ← Array.toList_map]
  have e4 : captured.map ac.eval = cs.toArray := by rw [← e2, ← Array.toList_map]
  simp [execOp, hop, Instr.makeFunc, e3, e4]

/-- A call of a function by its value. -/
theorem Eff.callF {α : Type} {f : FuncId} {x : Operand} {args : Array Operand} {tys : Array TypeId} {vs bs cs : List Value} {toV : α → Value} {S : α → Heap → Prop}
    (hop : o.op = .call ⟨.value x, args, tys⟩) (hx : L.ev x = some (.func (.func f) bs.toArray cs.toArray)) (hcall : ∀ vs w, (callFunc f vs).run P w = .ok (.enter f vs) w)
    (hvs : evArgs L args.toList = some vs) (sh : Heap → Prop) (H0 : sh h.m) (hl : ∀ w m, Rel ⟨m, []⟩ w.heap → sh m → Calls P f (bs ++ vs ++ cs).toArray w (Post ⟨w, m⟩ toV S)) :
    Eff P n B L h o (fun v h' => ∃ r m, v = toV r ∧ h' = ⟨m, h.pv⟩ ∧ S r m) := by
  intro ac w ha hw next Q hn
  have e1 := evArgs_spec ha _ _ hvs
  have e2 : args.map ac.eval = vs.toArray := by rw [← e1, ← Array.toList_map]
  have : (execOp ac.eval o).run P w = .ok (.enter f (bs ++ vs ++ cs).toArray) w := by
    simp [execOp, hop, resolve, Deferred.ofValue, ha.eval hx, invoke, e2, hcall]
  unfold Oper.wp
  rw [this]
  refine (hl w h.m hw.relCall H0).mono ?_
  rintro e w' ⟨r, m, rfl, hs, hS⟩
  exact hn _ _ _ (hw.call hs) ⟨r, m, rfl, rfl, hS⟩
/-- An operation whose truth has become known. -/
theorem QOp.pk {T : TTab} {ops : List Oper} {V : Frm} {h : Hp} {i : Nat} {o : Oper} {b c : Bool} (hT : TTab.Ok P T) (ho : ops[i]? = some o) (hg : o.guard = none) (hq : pureOp T (V.only (o.looksAt ops.toArray)) o.op = some (.bool b)) (hd : okD o n = true) (hb : b = c) (hv : V.getO o.dst (.bool c) = some (.bool c)) : qAt P n ops V h i := by
  subst hb
  exact QOp.p hT ho hg hq hd hv
theorem QOp.ypk {T : TTab} {ops : List Oper} {V : Frm} {h : Hp} {i j t : Nat} {c b d : Bool} {o : Oper} (hT : TTab.Ok P T) (ho : ops[i]? = some o) (hg : o.guard = some (j, c)) (hj : (ops[j]?).bind (·.dst) = some t) (hv' : V.get t = some (.bool c)) (hq : pureOp T (V.only (o.looksAt ops.toArray)) o.op = some (.bool b)) (hd : okD o n = true) (hb : b = d) (hv : V.getO o.dst (.bool d) = some (.bool d)) : qAt P n ops V h i := by
  subst hb
  exact QOp.yp hT ho hg hj hv' hq hd hv
theorem QOp.qk {ops : List Oper} {V : Frm} {h : Hp} {i : Nat} {o : Oper} {b c : Bool} (ho : ops[i]? = some o) (hg : o.guard = none) (hq : Quiet1 P n (V.only (o.looksAt ops.toArray)) h o (.bool b)) (hd : okD o n = true) (hb : b = c) (hv : V.getO o.dst (.bool c) = some (.bool c)) : qAt P n ops V h i := by
  subst hb
  exact QOp.q ho hg hq hd hv
end
end Go.Lift

namespace Go.Lift
open Go
section
variable {P : Program} {T : TTab} {n : Nat} {L : Frm} {h : Hp} {o : Oper} {B : Base}
/-- internal/bytealg.IndexByteString. -/
def extIndexByte (s : ByteArray) (c : Int) (h : Heap) (k : Int → Heap → Prop) : Prop := k (Lib.indexByte s.data.toList c.toNat.toUInt8) h
theorem Eff.extIdx {f : FuncId} {fn : Func} {args : Array Operand} {tys : Array TypeId} {s : ByteArray} {c : Int} {k : Int → Heap → Prop}
    (hop : o.op = .call ⟨.value (.func f), args, tys⟩) (hvs : evArgs L args.toList = some [.string s, .int .u8 c])
    (hf : P.funcs[f]? = some fn) (hname : (fn.name == "runtime.NumGoroutine") = false) (hb : fn.body.isNone = true) (hn : Extern.findNext fn = none) (he : Extern.find fn = some Extern.BytealgIndexByte.indexByte)
    (H : extIndexByte s c h.m k) : Eff P n B L h o (fun v h' => ∃ r m, v = Value.int .i64 r ∧ h' = ⟨m, h.pv⟩ ∧ k r m) := by
  intro ac w ha hw next Q hn2
  have e1 := evArgs_spec ha _ _ hvs
  have e2 : args.map ac.eval = [Value.string s, Value.int .u8 c].toArray := by
    rw [← e1, ← Array.toList_map]
  have h3 := run_callFunc_indexByte hf hname hb hn he #[.string s, .int .u8 c] w
  rw [Lib.run_indexByteString] at h3
  have : (execOp ac.eval o).run P w = .ok (.value (.int .i64 (Lib.indexByte s.data.toList c.toNat.toUInt8))) w := by
    simp [execOp, hop, resolve, Deferred.ofValue, Act.eval, invoke, e2, h3, Result.andThen]
  unfold Oper.wp
  rw [this]
  exact hn2 _ _ _ hw ⟨_, h.m, rfl, rfl, H⟩
end
end Go.Lift

namespace Go.Lift
open Go
section
variable {P : Program} {T : TTab} {n : Nat} {L : Frm} {m0 : Heap} {pv0 : List (Nat × List Value)} {o : Oper} {B : Base}
theorem EffX.store {t : Nat} {x y : Operand} {a : Addr} {v : Value} {k : Heap → Prop} (hT : TTab.Ok P T) (hop : o.op = .store t x y) (hs : T.size t = some 1) (hx : L.ev x = some (.pointer (some a))) (hy : L.ev y = some v) (ho : one v = true) (H : Lift.store a v m0 k) :
    Eff P n B L ⟨m0, pv0⟩ o (fun _ h' => ∃ m, h' = ⟨m, pv0⟩ ∧ k m) :=
  Eff.store (h := ⟨m0, pv0⟩) hT hop hs hx hy ho H

theorem EffX.storeS {t s : Nat} {x y : Operand} {a : Addr} {vs : List Value} {k : Heap → Prop} (hT : TTab.Ok P T) (hop : o.op = .store t x y) (hs : T.size t = some s) (hx : L.ev x = some (.pointer (some a))) (hy : L.ev y = some (.agg vs.toArray)) (hl : vs.length = s) (ho : oneCells vs = true) (H : Lift.storeS a vs m0 k) :
    Eff P n B L ⟨m0, pv0⟩ o (fun _ h' => ∃ m, h' = ⟨m, pv0⟩ ∧ k m) :=
  Eff.storeS (h := ⟨m0, pv0⟩) hT hop hs hx hy hl ho H

theorem EffX.box {t : Nat} {x : Operand} {v : Value} {cs : List Value} {k : Addr → Heap → Prop} (hop : o.op = .box t x) (hx : L.ev x = some v) (hcs : v.cells = cs.toArray) (H : Lift.new cs m0 k) :
    Eff P n B L ⟨m0, pv0⟩ o (fun u h' => ∃ a m, u = .pointer (some a) ∧ h' = ⟨m, pv0⟩ ∧ k a m) :=
  Eff.box (h := ⟨m0, pv0⟩) hop hx hcs H

theorem EffX.boxP {t : Nat} {x : Operand} {v : Value} {cs : List Value} {k : Heap → Prop} (hop : o.op = .box t x) (hx : L.ev x = some v) (hcs : v.cells = cs.toArray) (H : Lift.mem m0 k) :
    Eff P n B L ⟨m0, pv0⟩ o (fun u h' => ∃ b m, u = .pointer (some ⟨b, 0, none⟩) ∧ h' = ⟨m, (b, cs) :: pv0⟩ ∧ MExt m0 m ∧ Lift.mem m k) :=
  Eff.boxP (h := ⟨m0, pv0⟩) hop hx hcs H

theorem EffX.alloc {t : Nat} {cs : List Value} {k : Addr → Heap → Prop} (hT : TTab.Ok P T) (hop : o.op = .alloc t) (hz : T.zero t = some cs) (H : Lift.new cs m0 k) :
    Eff P n B L ⟨m0, pv0⟩ o (fun u h' => ∃ a m, u = .pointer (some a) ∧ h' = ⟨m, pv0⟩ ∧ k a m) :=
  Eff.alloc (h := ⟨m0, pv0⟩) hT hop hz H

theorem EffX.allocP {t : Nat} {cs : List Value} {k : Heap → Prop} (hT : TTab.Ok P T) (hop : o.op = .alloc t) (hz : T.zero t = some cs) (H : Lift.mem m0 k) :
    Eff P n B L ⟨m0, pv0⟩ o (fun u h' => ∃ b m, u = .pointer (some ⟨b, 0, none⟩) ∧ h' = ⟨m, (b, cs) :: pv0⟩ ∧ MExt m0 m ∧ Lift.mem m k) :=
  Eff.allocP (h := ⟨m0, pv0⟩) hT hop hz H

theorem EffX.storeP {t i : Nat} {x y : Operand} {a : Addr} {v : Value} {cs : List Value} {qv : List (Nat × List Value)} (hT : TTab.Ok P T) (hop : o.op = .store t x y) (hs : T.size t = some 1) (hx : L.ev x = some (.pointer (some a))) (hy : L.ev y = some v) (ho : one v = true) (hp : pv0[i]? = some (a.block, cs)) (hsp : a.spot = none) (hle : Nat.blt a.off cs.length = true) (hq : pv0.set i (a.block, cs.set a.off v) = qv) :
    Eff P n B L ⟨m0, pv0⟩ o (fun _ h' => h' = ⟨m0, qv⟩) :=
  Eff.storeP (h := ⟨m0, pv0⟩) hT hop hs hx hy ho hp hsp hle hq

theorem EffX.storeSP {t s i : Nat} {x y : Operand} {a : Addr} {vs cs : List Value} {qv : List (Nat × List Value)} (hT : TTab.Ok P T) (hop : o.op = .store t x y) (hs : T.size t = some s) (hx : L.ev x = some (.pointer (some a))) (hy : L.ev y = some (.agg vs.toArray)) (hl : vs.length = s) (ho : oneCells vs = true) (hp : pv0[i]? = some (a.block, cs)) (hsp : a.spot = none) (hle : Nat.ble (a.off + s) cs.length = true) (hq : pv0.set i (a.block, setsAt cs a.off vs) = qv) :
    Eff P n B L ⟨m0, pv0⟩ o (fun _ h' => h' = ⟨m0, qv⟩) :=
  Eff.storeSP (h := ⟨m0, pv0⟩) hT hop hs hx hy hl ho hp hsp hle hq

theorem EffX.mkS {t e sz b : Nat} {x y : Operand} {k1 k2 : IntKind} {z : List Value} {len cap : Int} {k : Sl → Heap → Prop} (hT : TTab.Ok P T) (hop : o.op = .makeSlice t x y) (ht : T.desc t = some (.slice e)) (hs : T.size e = some sz) (hb : T.bytes e = some b) (hz : T.zero e = some z) (hzl : z.length = sz)
    (hx : L.ev x = some (.int k1 len)) (hy : L.ev y = some (.int k2 cap)) (hb1 : 1 ≤ b) (H : Lift.mkS z b len cap m0 k) :
    Eff P n B L ⟨m0, pv0⟩ o (fun u h' => ∃ r m, u = Sl.toV r ∧ h' = ⟨m, pv0⟩ ∧ k r m) :=
  Eff.mkS (h := ⟨m0, pv0⟩) hT hop ht hs hb hz hzl hx hy hb1 H

theorem EffX.appendS {t e sz b : Nat} {tys : Array TypeId} {x y : Operand} {args : Array Operand} {z : List Value} {s u : Sl} {k : Sl → Heap → Prop} (hT : TTab.Ok P T) (hop : o.op = .call ⟨.builtin .append, args, tys⟩) (hargs : args.toList = [x, y]) (htys : tys.toList = [t, t])
    (ht : T.desc t = some (.slice e)) (hs : T.size e = some sz) (hb : T.bytes e = some b) (hz : T.zero e = some z) (hzl : z.length = sz)
    (hx : L.ev x = some (.slice s.a s.len s.cap)) (hy : L.ev y = some (.slice u.a u.len u.cap)) (hb1 : 1 ≤ b ∧ b ≤ 1024) (H : Lift.appendS sz b s u m0 k) :
    Eff P n B L ⟨m0, pv0⟩ o (fun v h' => ∃ r m, v = Sl.toV r ∧ h' = ⟨m, pv0⟩ ∧ k r m) :=
  Eff.appendS (h := ⟨m0, pv0⟩) hT hop hargs htys ht hs hb hz hzl hx hy hb1 H

theorem EffX.buildS {t len e sz : Nat} {parts : Array (Nat × Operand)} {z cs : List Value} {pv : List (Nat × Value)} {k : Sl → Heap → Prop} (hT : TTab.Ok P T) (hop : o.op = .buildSlice t len parts) (ht : T.desc t = some (.slice e)) (hs : T.size e = some sz) (hz : T.zero e = some z) (hzl : z.length = sz) (hsmall : Nat.ble (len * sz) 16777216 = true)
    (hpv : evParts L parts.toList = some pv) (hf : Instr.fill (fun i => some (i * sz, sz)) (List.flatten (List.replicate len z)).toArray pv = some cs.toArray)
    (H : Lift.new cs m0 (fun a h' => k ⟨some a, len, len⟩ h')) :
    Eff P n B L ⟨m0, pv0⟩ o (fun u h' => ∃ r m, u = Sl.toV r ∧ h' = ⟨m, pv0⟩ ∧ k r m) :=
  Eff.buildS (h := ⟨m0, pv0⟩) hT hop ht hs hz hzl hsmall hpv hf H

theorem EffX.call {α : Type} {f : FuncId} {args : Array Operand} {tys : Array TypeId} {vs : List Value} {toV : α → Value} {S : α → Heap → Prop}
    (hop : o.op = .call ⟨.value (.func f), args, tys⟩) (hcall : ∀ vs w, (callFunc f vs).run P w = .ok (.enter f vs) w)
    (hvs : evArgs L args.toList = some vs) (sh : Heap → Prop) (H0 : sh m0) (hl : ∀ w m, Rel ⟨m, []⟩ w.heap → sh m → Calls P f vs.toArray w (Post ⟨w, m⟩ toV S)) :
    Eff P n B L ⟨m0, pv0⟩ o (fun v h' => ∃ r m, v = toV r ∧ h' = ⟨m, pv0⟩ ∧ S r m) :=
  Eff.call (h := ⟨m0, pv0⟩) hop hcall hvs sh H0 hl

theorem EffX.buildS2 {t len e sz : Nat} {parts : Array (Nat × Operand)} {z cs : List Value} {pv : List (Nat × Value)} {k : Addr → Heap → Prop} (hT : TTab.Ok P T) (hop : o.op = .buildSlice t len parts) (ht : T.desc t = some (.slice e)) (hs : T.size e = some sz) (hz : T.zero e = some z) (hzl : z.length = sz) (hsmall : Nat.ble (len * sz) 16777216 = true)
    (hpv : evParts L parts.toList = some pv) (hf : Instr.fill (fun i => some (i * sz, sz)) (List.flatten (List.replicate len z)).toArray pv = some cs.toArray)
    (H : Lift.new cs m0 k) :
    Eff P n B L ⟨m0, pv0⟩ o (fun u h' => ∃ a m, u = .slice (some a) len len ∧ h' = ⟨m, pv0⟩ ∧ k a m) :=
  Eff.buildS2 (h := ⟨m0, pv0⟩) hT hop ht hs hz hzl hsmall hpv hf H

theorem EffX.callF {α : Type} {f : FuncId} {x : Operand} {args : Array Operand} {tys : Array TypeId} {vs bs cs : List Value} {toV : α → Value} {S : α → Heap → Prop}
    (hop : o.op = .call ⟨.value x, args, tys⟩) (hx : L.ev x = some (.func (.func f) bs.toArray cs.toArray)) (hcall : ∀ vs w, (callFunc f vs).run P w = .ok (.enter f vs) w)
    (hvs : evArgs L args.toList = some vs) (sh : Heap → Prop) (H0 : sh m0) (hl : ∀ w m, Rel ⟨m, []⟩ w.heap → sh m → Calls P f (bs ++ vs ++ cs).toArray w (Post ⟨w, m⟩ toV S)) :
    Eff P n B L ⟨m0, pv0⟩ o (fun v h' => ∃ r m, v = toV r ∧ h' = ⟨m, pv0⟩ ∧ S r m) :=
  Eff.callF (h := ⟨m0, pv0⟩) hop hx hcall hvs sh H0 hl

theorem EffX.extIdx {f : FuncId} {fn : Func} {args : Array Operand} {tys : Array TypeId} {s : ByteArray} {c : Int} {k : Int → Heap → Prop}
    (hop : o.op = .call ⟨.value (.func f), args, tys⟩) (hvs : evArgs L args.toList = some [.string s, .int .u8 c])
    (hf : P.funcs[f]? = some fn) (hname : (fn.name == "runtime.NumGoroutine") = false) (hb : fn.body.isNone = true) (hn : Extern.findNext fn = none) (he : Extern.find fn = some Extern.BytealgIndexByte.indexByte)
    (H : extIndexByte s c m0 k) :
    Eff P n B L ⟨m0, pv0⟩ o (fun v h' => ∃ r m, v = Value.int .i64 r ∧ h' = ⟨m, pv0⟩ ∧ k r m) :=
  Eff.extIdx (h := ⟨m0, pv0⟩) hop hvs hf hname hb hn he H

theorem AtLX.bs {Q : Exit → Act → World → Prop} {ops : Array Oper} {l : List Oper} {t len e sz : Nat} {parts : Array (Nat × Operand)} {z cs : List Value} {pv : List (Nat × Value)} {k : Addr → Heap → Prop} (hT : TTab.Ok P T) (H : Lift.new cs m0 k) (hop : o.op = .buildSlice t len parts) (ht : T.desc t = some (.slice e)) (hs : T.size e = some sz) (hz : T.zero e = some z) (hzl : z.length = sz) (hsmall : Nat.ble (len * sz) 16777216 = true)
    (hpv : evParts L parts.toList = some pv) (hf : Instr.fill (fun i => some (i * sz, sz)) (List.flatten (List.replicate len z)).toArray pv = some cs.toArray) (hd : okDst o n = true)
    (next : ∀ a h', k a h' → AtL P n B ops Q (L.put o.dst (.slice (some a) len len)) ⟨h', pv0⟩ l) : AtL P n B ops Q L ⟨m0, pv0⟩ (o :: l) :=
  AtL.bs (h := ⟨m0, pv0⟩) hT H hop ht hs hz hzl hsmall hpv hf hd next
end
end Go.Lift

namespace Go.Lift
open Go
/-- What a slice of a slice is. -/
def SliceIs (s : Sl) (lo hi mx : Option Int) (sz : Nat) (r : Sl) : Prop := sliceOf s lo hi mx sz fun r' => r' = r
theorem sliceOf.out {s : Sl} {lo hi mx : Option Int} {sz : Nat} {k : Sl → Prop} (H : sliceOf s lo hi mx sz k) : ∃ r, SliceIs s lo hi mx sz r ∧ k r :=
  ⟨_, ⟨H.1, H.2.1, H.2.2.1, rfl⟩, H.2.2.2⟩
section
variable {P : Program} {T : TTab} {n : Nat} {L : Frm} {h : Hp} {o : Oper}
theorem Quiet1.sliceIs {t e sz : Nat} {x : Operand} {lo hi mx : Option Operand} {s r : Sl} {lo' hi' mx' : Option Int} (hT : TTab.Ok P T) (hop : o.op = .slice t x lo hi mx) (ht : T.desc t = some (.slice e)) (hs : T.size e = some sz)
    (hx : L.ev x = some (.slice s.a s.len s.cap)) (hlo : lo.map L.ev = lo'.map (fun j => some (.int .i64 j))) (hhi : hi.map L.ev = hi'.map (fun j => some (.int .i64 j))) (hmx : mx.map L.ev = mx'.map (fun j => some (.int .i64 j)))
    (hhm : hi = none → mx = none) (H : SliceIs s lo' hi' mx' sz r) : Quiet1 P n L h o (Sl.toV r) := by
  obtain ⟨r', hq, hk⟩ := Quiet1.sliceOf (n := n) (h := h) hT hop ht hs hx hlo hhi hmx hhm H
  subst hk
  exact hq
end
end Go.Lift
