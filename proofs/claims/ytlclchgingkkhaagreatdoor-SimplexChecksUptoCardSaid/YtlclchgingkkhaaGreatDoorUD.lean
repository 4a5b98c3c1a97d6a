/-
  Laws that the proof of this claim's statement leans on, each proved under the conditions that it states.
-/
import Derived.Test.YtlclchgingkkhaaGreatDoorUC
set_option linter.unusedVariables false
set_option linter.unusedSimpArgs false
namespace Go.Sh
open Go Go.Lift
section
variable {K K' : Nat → Prop} {h h' h0 : Heap} {o : Option Nat}
def PK (K : Nat → Prop) (h : Heap) (y : X4) (p : Rat × PL) : Prop := RK K h (cst y) p.1 ∧ MK K h y.2.2.2 p.2
def DK (K : Nat → Prop) (h : Heap) (y : X6) (v : Rat × Rat) : Prop := RK K h (dA y) v.1 ∧ RK K h (dB y) v.2
def EK (K : Nat → Prop) (h : Heap) (y : E7) (e : Eg) : Prop := y.1 = e.1 ∧ DK K h (eD y) e.2
theorem PK.keep {y : X4} {p : Rat × PL} (q : PK K h y p) (e : Keep o h h') (ho : ∀ k, o = some k → K k) : PK K h' y p := ⟨q.1.keep e ho, q.2.keep e ho⟩
theorem DK.keep {y : X6} {p : Rat × Rat} (q : DK K h y p) (e : Keep o h h') (ho : ∀ k, o = some k → K k) : DK K h' y p := ⟨q.1.keep e ho, q.2.keep e ho⟩
theorem EK.keep {y : E7} {p : Eg} (q : EK K h y p) (e : Keep o h h') (ho : ∀ k, o = some k → K k) : EK K h' y p := ⟨q.1, q.2.keep e ho⟩
theorem PK.raise {y : X4} {p : Rat × PL} (q : PK K h y p) (hk : ∀ k, K' k → K k ∨ h.size ≤ k) : PK K' h y p := ⟨q.1.raise hk, q.2.raise hk⟩
theorem DK.raise {y : X6} {p : Rat × Rat} (q : DK K h y p) (hk : ∀ k, K' k → K k ∨ h.size ≤ k) : DK K' h y p := ⟨q.1.raise hk, q.2.raise hk⟩
theorem EK.raise {y : E7} {p : Eg} (q : EK K h y p) (hk : ∀ k, K' k → K k ∨ h.size ≤ k) : EK K' h y p := ⟨q.1, q.2.raise hk⟩
theorem PK.pq {y : X4} {p : Rat × PL} (q : PK K h y p) : PQ h y p := ⟨q.1.rq, q.2.k0⟩
theorem DK.dq {y : X6} {p : Rat × Rat} (q : DK K h y p) : DQ h y p := ⟨q.1.rq, q.2.rq⟩
theorem EK.eq {y : E7} {p : Eg} (q : EK K h y p) : EQ h y p := ⟨q.1, q.2.dq⟩
theorem PK.of {y : X4} {p : Rat × PL} (q : PQ h0 y p) (e : Ext h0 h) (hk : ∀ k, K k → h0.size ≤ k) : PK K h y p :=
  ⟨(RK.of_rq q.c hk).ext e, (q.m.raise fun k h => .inr (hk k h)).ext e⟩
theorem DK.of {y : X6} {p : Rat × Rat} (q : DQ h0 y p) (e : Ext h0 h) (hk : ∀ k, K k → h0.size ≤ k) : DK K h y p :=
  ⟨(RK.of_rq q.a hk).ext e, (RK.of_rq q.b hk).ext e⟩
theorem DK.zero : DK K h d0 (0, 0) := ⟨RK.zero, RK.zero⟩
end
structure Vol where
  a : Addr
  p : Addr
  bv : Nat
  bl : Nat
  bu : Nat
def Vol.K (V : Vol) (k : Nat) : Prop := k = V.a.block ∨ k = V.p.block ∨ k = V.bv ∨ k = V.bl ∨ k = V.bu
structure TM (h0 : Heap) (V : Vol) (lim : Nat) (ov : Bool) (h : Heap) (x : S5) (t : TT) : Prop where
  bo : BO h0 V.a lim ov h
  old : ∀ k, V.K k → h0.size ≤ k
  lt : ∀ k, V.K k → k < h.size
  ap : V.a.block ≠ V.p.block
  av : V.a.block ≠ V.bv
  al : V.a.block ≠ V.bl
  au : V.a.block ≠ V.bu
  pv : V.p.block ≠ V.bv
  pl : V.p.block ≠ V.bl
  pu : V.p.block ≠ V.bu
  vl : V.bv ≠ V.bl
  vu : V.bv ≠ V.bu
  lu : V.bl ≠ V.bu
  spot : V.p.spot = none
  root : ∀ k (hk : k < 5), cell? h (V.p.add k) = some ((CT x)[k]'hk) ∧ frozen? h (V.p.add k) = false
  bas : RJ h x.1 t.bs
  basn : ∀ b, x.1.blk = some b → ¬ V.K b
  rcap : x.2.1.len ≤ x.2.1.cap
  rows : ∃ ys, RS CP 4 h x.2.1 ys ∧ All2 (PK V.K h) ys t.ps
  rown : ∀ b, x.2.1.blk = some b → ¬ V.K b
  valb : x.2.2.1.blk = some V.bv
  vals : ∃ ys, OwnS C6 6 h0.size h x.2.2.1 ys ∧ All2 (DK V.K h) ys t.vs
  lob : x.2.2.2.1.blk = some V.bl
  lo : ∃ ys, OwnS C7 7 h0.size h x.2.2.2.1 ys ∧ All2 (EK V.K h) ys t.lo
  upb : x.2.2.2.2.blk = some V.bu
  up : ∃ ys, OwnS C7 7 h0.size h x.2.2.2.2 ys ∧ All2 (EK V.K h) ys t.up
section
variable {h0 h h' : Heap} {V : Vol} {lim : Nat} {ov ov' : Bool} {x : S5} {t : TT} {o : Option Nat}
theorem TM.Ka (V : Vol) : V.K V.a.block := .inl rfl
theorem adf {s : Sl} {a : Addr} {b : Nat} (ha : s.a = some a) (hb : s.blk = some b) : a.block = b := by simpa [Sl.blk, ha] using hb
theorem TM.keepO (q : TM h0 V lim ov h x t) (ke : Keep o h h') (hb : BO h0 V.a lim ov' h') (ho : ∀ b, o = some b → b = V.a.block) : TM h0 V lim ov' h' x t := by
  have hoK : ∀ b, o = some b → V.K b := fun b e => .inl (ho b e)
  have ne : ∀ {b : Nat}, b ≠ V.a.block → some b ≠ o := fun {b} hn e => hn (ho b e.symm)
  obtain ⟨ys, r1, r2⟩ := q.rows
  obtain ⟨vs, v1, v2⟩ := q.vals
  obtain ⟨ls, l1, l2⟩ := q.lo
  obtain ⟨us, u1, u2⟩ := q.up
  refine { bo := hb, old := q.old, lt := fun k hk => Nat.lt_of_lt_of_le (q.lt k hk) ke.size, ap := q.ap, av := q.av, al := q.al, au := q.au, pv := q.pv, pl := q.pl, pu := q.pu, vl := q.vl, vu := q.vu, lu := q.lu, spot := q.spot, root := fun k hk => ?_, bas := ?_, basn := q.basn, rcap := q.rcap, rows := ⟨ys, ?_, ?_⟩, rown := q.rown, valb := q.valb, vals := ⟨vs, ?_, ?_⟩, lob := q.lob, lo := ⟨ls, ?_, ?_⟩, upb := q.upb, up := ⟨us, ?_, ?_⟩ }
  · have := q.root k hk
    have hn : some (V.p.add k).block ≠ o := by rw [af]; exact ne (fun e => q.ap e.symm)
    exact ⟨ag ke this.1 hn, bL ke (bV this.1) this.2 hn⟩
  · exact R.keep q.bas ke fun a ha e => q.basn a.block (by simp [Sl.blk, ha]) (hoK _ e.symm)
  · exact _root_.Go.Sh.RS.keep r1 ke fun _ a ha e => q.rown a.block (by simp [Sl.blk, ha]) (hoK _ e.symm)
  · exact r2.imp fun y m h => h.keep ke hoK
  · exact v1.keep ke fun b hb' => by rw [q.valb] at hb'; cases hb'; exact ne (fun e => q.av e.symm)
  · exact v2.imp fun y m h => h.keep ke hoK
  · exact l1.keep ke fun b hb' => by rw [q.lob] at hb'; cases hb'; exact ne (fun e => q.al e.symm)
  · exact l2.imp fun y m h => h.keep ke hoK
  · exact u1.keep ke fun b hb' => by rw [q.upb] at hb'; cases hb'; exact ne (fun e => q.au e.symm)
  · exact u2.imp fun y m h => h.keep ke hoK
theorem TM.ext (q : TM h0 V lim ov h x t) (e : Ext h h') : TM h0 V lim ov h' x t := q.keepO e (q.bo.of_ext e) (by simp)
theorem TM.keep (q : TM h0 V lim ov h x t) (k : Keep (some V.a.block) h h') (hb : BO h0 V.a lim ov' h') : TM h0 V lim ov' h' x t := q.keepO k hb (fun b e => by cases e; rfl)
theorem TM.tq (q : TM h0 V lim ov h x t) : TQ h x t := by
  obtain ⟨ys, r1, r2⟩ := q.rows
  obtain ⟨vs, v1, v2⟩ := q.vals
  obtain ⟨ls, l1, l2⟩ := q.lo
  obtain ⟨us, u1, u2⟩ := q.up
  exact ⟨q.bas, ⟨q.rcap, ys, r1, r2.imp fun y m h => h.pq⟩, v1.row len6 (by decide) (v2.imp fun y m h => h.dq), l1.row len7 (by decide) (l2.imp fun y m h => h.eq), u1.row len7 (by decide) (u2.imp fun y m h => h.eq)⟩
theorem TM.ld0 (q : TM h0 V lim ov h x t) {k : Addr → Sl → Prop} (C : k V.p x.1) : aJ (some V.p) fun a => Lift.load Sl.toV (a.add 0) h (k a) := ⟨V.p, rfl, _, (q.root 0 (by decide)).1, C⟩
theorem TM.ld1 (q : TM h0 V lim ov h x t) {k : Addr → Sl → Prop} (C : k V.p x.2.1) : aJ (some V.p) fun a => Lift.load Sl.toV (a.add 1) h (k a) := ⟨V.p, rfl, _, (q.root 1 (by decide)).1, C⟩
theorem TM.ld2 (q : TM h0 V lim ov h x t) {k : Addr → Sl → Prop} (C : k V.p x.2.2.1) : aJ (some V.p) fun a => Lift.load Sl.toV (a.add 2) h (k a) := ⟨V.p, rfl, _, (q.root 2 (by decide)).1, C⟩
theorem TM.all (q : TM h0 V lim ov h x t) : cells? h V.p 5 0 = some (CT x) := by
  have := cells?_mk (h := h) (a := V.p) (CT x) 0 (fun j hj => by
    have hj : j < 5 := hj
    rw [Nat.zero_add]; exact (q.root j hj).1)
  exact this
end
def newT (reals : Nat) (ps : List (Rat × PL)) : TT :=
  ⟨(List.range ps.length).map fun i => ((reals + i : Nat) : Int), ps, List.replicate (reals + ps.length) (0, 0), List.replicate (reals + ps.length) (0, (0, 0)), List.replicate (reals + ps.length) (0, (0, 0))⟩
structure NewT (h0 h : Heap) (x : S5) (reals : Nat) (ps : List (Rat × PL)) (b0 : List X4) (bv bl bu : Nat) : Prop where
  ext : Ext h0 h
  bas : Own (Value.int .i64) h0.size h x.1 (newT reals ps).bs
  rows : OwnS CP 4 h0.size h x.2.1 b0
  vb : x.2.2.1.blk = some bv
  lb : x.2.2.2.1.blk = some bl
  ub : x.2.2.2.2.blk = some bu
  vals : OwnS C6 6 h0.size h x.2.2.1 (List.replicate (reals + ps.length) d0)
  lo : OwnS C7 7 h0.size h x.2.2.2.1 (List.replicate (reals + ps.length) (0, d0))
  up : OwnS C7 7 h0.size h x.2.2.2.2 (List.replicate (reals + ps.length) (0, d0))
  vl : bv ≠ bl
  vu : bv ≠ bu
  lu : bl ≠ bu
  bn : ∀ b, x.1.blk = some b → b ≠ bv ∧ b ≠ bl ∧ b ≠ bu
  rn : ∀ b, x.2.1.blk = some b → b ≠ bv ∧ b ≠ bl ∧ b ≠ bu
theorem zt {h : Heap} {s : Sl} {ys : List X4} {Q : Sl → Heap → Prop} (hr : RS CP 4 h s ys) (hc : s.len ≤ s.cap) (hl : ys.length ≤ 1000) (K : ∀ r h', OwnS CP 4 h.size h' r ys → Ext h h' → Q r h') : aL s h Q := by
  refine ⟨fun hn => ?_, fun hn => ?_⟩
  · have : ys = [] := by
      cases ys with
      | nil => rfl
      | cons y l =>
        obtain ⟨a, ha, _⟩ := hr.cells 0 (by simp)
        rw [ha] at hn; simp at hn
    subst this
    exact K Sl.nil h ⟨rfl, [], rfl, by simpa [Sl.sc, Sl.nil] using (Own.nil (toV := (Subtype.val : One → Value)) (B := h.size) (h := h))⟩ (Keep.refl _ _)
  · intro T
    have e1 := Ext.push h (.cells ([] : List Value).toArray T (0, 0))
    have ho : OwnS CP 4 h.size (h.push (.cells ([] : List Value).toArray T (0, 0))) ⟨some ⟨h.size, 0, none⟩, 0, 0⟩ ([] : List X4) := OwnS.nil (n := 0)
    generalize (h.push (.cells ([] : List Value).toArray T (0, 0)) : Heap) = h1 at *
    refine ho.appendR oN (by decide) one4 e1.size (RS.ext hr e1) hc (by simp; omega) fun r h2 o2 k2 _ => ?_
    exact K r h2 (by simpa using o2) (e1.fresh (Nat.le_refl _) k2)
theorem adh {h : Heap} {s : Sl} {xs : List Int} {Q : Sl → Heap → Prop} (hr : RJ h s xs) (hl : xs.length ≤ 1000000) (K : ∀ r h', Own (Value.int .i64) h.size h' r xs → Ext h h' → Q r h') : bX s h Q := by
  refine ⟨fun hn => ?_, fun hn => ?_⟩
  · have : xs = [] := by
      cases xs with
      | nil => rfl
      | cons x l =>
        obtain ⟨a, ha, _⟩ := R.get hr (i := 0) (by simp)
        rw [ha] at hn; simp at hn
    subst this
    exact K Sl.nil h Own.nil (Keep.refl _ _)
  · intro T
    have e1 : Ext h (h.push (.cells ([] : List Value).toArray T (0, 0))) := Ext.push _ _
    have ho := Own.new (toV := (Value.int .i64)) (h := h) (ys := []) (cs := []) (T := T) rfl
    have hs1 : (h.push (.cells ([] : List Value).toArray T (0, 0)) : Heap).size = h.size + 1 := by simp
    generalize (h.push (.cells ([] : List Value).toArray T (0, 0)) : Heap) = h1 at *
    refine Own.append (bytes := 8) (B := h.size) (xs := []) ho (by omega) (R.ext hr e1) (fun _ => rfl) (by simp; omega) fun r h2 o2 k2 b2 => ?_
    have e2 : Ext h h2 := e1.fresh (Nat.le_refl _) k2
    exact K r h2 (by simpa using o2) e2
theorem tT {h : Heap} {q : Int × Int × Sl × Sl × Sl × Sl × Sl} {reals : Nat} {ps : List (Rat × PL)} {ys : List X4} {Q : S5 → Heap → Prop} (hq : q.2.1 = (reals : Int)) (hr : reals ≤ 1000) (hs : RS CP 4 h q.2.2.1 ys) (hc : q.2.2.1.len ≤ q.2.2.1.cap) (hl : ys.length = ps.length) (hps : ps.length ≤ 1000)
    (C : ∀ x h' bv bl bu, NewT h h' x reals ps ys bv bl bu → Q x h') : fC q h Q := by
  have hlen := hs.len
  refine ae fun h1 e1 => ?_
  rw [hq]
  rintro n hn
  have hn : n = ((reals + ps.length : Nat) : Int) := by rw [hn, hlen, w64 (by omega) (by omega)]; omega
  refine loop.inv (fun s h' => Ext h h' ∧ ∃ i : Nat, s.1 = (i : Int) ∧ i ≤ ps.length ∧ Own (Value.int .i64) h.size h' s.2.1 ((List.range i).map fun i => ((reals + i : Nat) : Int))) (fun s _ => ps.length - s.1.toNat) ⟨e1, 0, rfl, by omega, Own.nil⟩ ?_
  rintro ⟨_, s1, s2, s3, s4, s5⟩ h2 ⟨e2, i, rfl, hi, o2⟩
  dsimp only at o2 ⊢
  rw [hlen, hl]
  refine ⟨fun hlt => ?_, fun hge => ?_⟩
  · simp only [decide_eq_true_eq] at hlt
    rw [w64 (by omega) (by omega), w64 (by omega) (by omega)]
    intro T
    have e3 := Ext.push h2 (.cells [Value.int .i64 ((reals : Int) + (i : Int))].toArray T (0, 0))
    have ho := (Own.new (toV := Value.int .i64) (h := h2) (ys := [((reals : Int) + (i : Int))]) (cs := [Value.int .i64 ((reals : Int) + (i : Int))]) (T := T) rfl).r
    generalize (h2.push (.cells [Value.int .i64 ((reals : Int) + (i : Int))].toArray T (0, 0)) : Heap) = h3 at *
    have e03 := e2.trans e3
    refine Own.append (bytes := 8) (o2.ext e3) e03.size ho (fun _ => rfl) (by simp; omega) fun r h4 o4 k4 _ => ?_
    have e04 : Ext h h4 := by
      cases hv : s1.blk with
      | none => rw [hv] at k4; exact e03.trans k4
      | some b => rw [hv] at k4; exact e03.fresh (o2.lt hv).1 k4
    refine ⟨⟨e04, i + 1, by simp, by omega, ?_⟩, by (try dsimp only); omega⟩
    rw [List.range_succ, List.map_append]
    simpa using o4
  · simp only [decide_eq_false_iff_not] at hge
    have : i = ps.length := by omega
    subst this
    refine zt (RS.ext hs e2) hc (by omega) fun r h3 o3 e3 => ?_
    have e03 := e2.trans e3
    have hsz := e2.size; have hsz3 := e3.size
    have o3' : OwnS CP 4 h.size h3 r ys := ⟨o3.len, o3.own.choose, o3.own.choose_spec.1, o3.own.choose_spec.2.mono hsz⟩
    have rlt : ∀ b, r.blk = some b → b < h3.size := fun b hb => (o3.lt hb).2
    have blt : ∀ b, s1.blk = some b → b < h3.size := fun b hb => Nat.lt_of_lt_of_le (o2.lt hb).2 hsz3
    have C' : ∀ {v l u : Sl} {hv hl hu h' : Heap} {bv bl bu : Nat}, Ext h3 h' → OwnS C6 6 hv.size h' v (List.replicate (reals + ps.length) d0) → OwnS C7 7 hl.size h' l (List.replicate (reals + ps.length) (0, d0)) → OwnS C7 7 hu.size h' u (List.replicate (reals + ps.length) (0, d0)) →
        v.blk = some bv → l.blk = some bl → u.blk = some bu → h3.size ≤ hv.size → h3.size ≤ hl.size → h3.size ≤ hu.size → h3.size ≤ bv → h3.size ≤ bl → h3.size ≤ bu → bv ≠ bl → bv ≠ bu → bl ≠ bu → Q (s1, r, v, l, u) h' := by
      intro v l u hv hl hu h' bv bl bu e' ov ol ou vb lb ub s1' s2' s3' g1 g2 g3 n1 n2 n3
      have mono : ∀ {α : Type} {toC : α → List Value} {sz B : Nat} {s : Sl} {xs : List α}, OwnS toC sz B h' s xs → h.size ≤ B → OwnS toC sz h.size h' s xs := fun o hB => ⟨o.len, o.own.choose, o.own.choose_spec.1, o.own.choose_spec.2.mono hB⟩
      refine C _ h' bv bl bu ⟨e03.trans e', (o2.ext e3).ext e', o3'.ext e', vb, lb, ub, mono ov (by omega), mono ol (by omega), mono ou (by omega), n1, n2, n3, fun b hb => ?_, fun b hb => ?_⟩
      · have := blt b hb; omega
      · have := rlt b hb; omega
    have k6 : ∀ {hh : Heap} {k : Sl → Heap → Prop}, (∀ s h', OwnS C6 6 hh.size h' s (List.replicate (reals + ps.length) d0) → Ext hh h' → s.blk = some hh.size → h'.size = hh.size + 1 → k s h') → mkS [Value.bool false, Sl.toV Sl.nil, Sl.toV Sl.nil, Value.bool false, Sl.toV Sl.nil, Sl.toV Sl.nil] 112 n n hh k := fun K => acR (toC := C6) (z := d0) hn (by omega) (by decide) rfl len6 rfl K
    have k7 : ∀ {hh : Heap} {k : Sl → Heap → Prop}, (∀ s h', OwnS C7 7 hh.size h' s (List.replicate (reals + ps.length) ((0, d0) : E7)) → Ext hh h' → s.blk = some hh.size → h'.size = hh.size + 1 → k s h') → mkS [Value.int .i64 0, Value.bool false, Sl.toV Sl.nil, Sl.toV Sl.nil, Value.bool false, Sl.toV Sl.nil, Sl.toV Sl.nil] 120 n n hh k := fun K => acR (toC := C7) (z := ((0, d0) : E7)) hn (by omega) (by decide) rfl len7 rfl K
    have fin : ∀ {J : S5 → Heap → Prop}, (J = fun x h' => Q x h') → True := fun _ => trivial
    refine seq.dup ?_
    refine ⟨k6 fun v ha o1 ea b1 sa => ⟨k7 fun l hb o2' eb b2 sb => k7 fun u hc' o3'' ec b3 sc => ?_, k7 fun u hb o2' eb b2 sb => k7 fun l hc' o3'' ec b3 sc => ?_⟩, k7 fun l ha o1 ea b1 sa => ⟨k6 fun v hb o2' eb b2 sb => k7 fun u hc' o3'' ec b3 sc => ?_, k7 fun u hb o2' eb b2 sb => k6 fun v hc' o3'' ec b3 sc => ?_⟩, k7 fun u ha o1 ea b1 sa => ⟨k6 fun v hb o2' eb b2 sb => k7 fun l hc' o3'' ec b3 sc => ?_, k7 fun l hb o2' eb b2 sb => k6 fun v hc' o3'' ec b3 sc => ?_⟩⟩
    · exact C' (ea.trans (eb.trans ec)) ((o1.ext eb).ext ec) (o2'.ext ec) o3'' b1 b2 b3 (by omega) (by omega) (by omega) (by omega) (by omega) (by omega) (by omega) (by omega) (by omega)
    · exact C' (ea.trans (eb.trans ec)) ((o1.ext eb).ext ec) o3'' (o2'.ext ec) b1 b3 b2 (by omega) (by omega) (by omega) (by omega) (by omega) (by omega) (by omega) (by omega) (by omega)
    · exact C' (ea.trans (eb.trans ec)) (o2'.ext ec) ((o1.ext eb).ext ec) o3'' b2 b1 b3 (by omega) (by omega) (by omega) (by omega) (by omega) (by omega) (by omega) (by omega) (by omega)
    · exact C' (ea.trans (eb.trans ec)) o3'' ((o1.ext eb).ext ec) (o2'.ext ec) b3 b1 b2 (by omega) (by omega) (by omega) (by omega) (by omega) (by omega) (by omega) (by omega) (by omega)
    · exact C' (ea.trans (eb.trans ec)) (o2'.ext ec) o3'' ((o1.ext eb).ext ec) b2 b3 b1 (by omega) (by omega) (by omega) (by omega) (by omega) (by omega) (by omega) (by omega) (by omega)
    · exact C' (ea.trans (eb.trans ec)) o3'' (o2'.ext ec) ((o1.ext eb).ext ec) b3 b2 b1 (by omega) (by omega) (by omega) (by omega) (by omega) (by omega) (by omega) (by omega) (by omega)
end Go.Sh

namespace Go.Sh
open Go Go.Lift
inductive KK (K : Nat → Prop) (h : Heap) : Heap → Prop
  | refl : KK K h h
  | step {h1 h2 : Heap} {o : Option Nat} : KK K h h1 → Keep o h1 h2 → (∀ k, o = some k → K k ∨ h.size ≤ k) → KK K h h2
section
variable {K K' : Nat → Prop} {h h1 h' : Heap}
theorem KK.size (k : KK K h h') : h.size ≤ h'.size := by
  induction k with
  | refl => exact Nat.le_refl _
  | step _ e _ ih => exact Nat.le_trans ih e.size
theorem KK.trans (a : KK K h h1) (b : KK K h1 h') : KK K h h' := by
  induction b with
  | refl => exact a
  | step _ e ho ih => exact .step ih e fun k hk => (ho k hk).imp id (Nat.le_trans a.size)
theorem KK.keep {o : Option Nat} (e : Keep o h h') (ho : ∀ k, o = some k → K k ∨ h.size ≤ k) : KK K h h' := .step .refl e ho
theorem KK.ext (e : Ext h h') : KK K h h' := .keep e (by simp)
theorem KK.mono (a : KK K h h') (hk : ∀ k, K k → K' k) : KK K' h h' := by
  induction a with
  | refl => exact .refl
  | step _ e ho ih => exact .step ih e fun k hh => (ho k hh).imp (hk k) id
theorem KK.cell (a : KK K h h') {p : Addr} {v : Value} (hc : cell? h p = some v) (hn : ¬ K p.block) : cell? h' p = some v := by
  have hl := bV hc
  induction a with
  | refl => exact hc
  | step _ e ho ih => exact ag e ih fun hh => (ho _ hh.symm).elim hn (by omega)
theorem KK.frozen (a : KK K h h') {p : Addr} {f : Bool} (hl : p.block < h.size) (hc : frozen? h p = f) (hn : ¬ K p.block) : frozen? h' p = f := by
  induction a with
  | refl => exact hc
  | step a e ho ih => exact bL e (Nat.lt_of_lt_of_le hl a.size) ih fun hh => (ho _ hh.symm).elim hn (by omega)
theorem KK.rj {s : Sl} {xs : List Int} (a : KK K h h') (hr : RJ h s xs) (hn : ∀ b, s.blk = some b → ¬ K b) : RJ h' s xs := by
  have hl : ∀ x, s.a = some x → xs ≠ [] → x.block < h.size := fun x hx hne => R.lt hr hx hne
  induction a with
  | refl => exact hr
  | @step _ _ o a e ho ih =>
    cases o with
    | none => exact R.ext ih e
    | some n => exact R.keepB ih e fun x hx hne hh => (ho n rfl).elim (fun hk => hn x.block (by simp [Sl.blk, hx]) (hh ▸ hk)) (fun hg => by have := hl x hx hne; omega)
theorem KK.rs {α : Type} {toC : α → List Value} {sz : Nat} {s : Sl} {xs : List α} (a : KK K h h') (h0 : 0 < sz) (hr : RS toC sz h s xs) (hn : xs ≠ [] → ∀ b, s.blk = some b → ¬ K b) : RS toC sz h' s xs := by
  have hl : ∀ b, xs ≠ [] → s.blk = some b → b < h.size := fun b hne hb => RS.lt hr h0 hne hb
  induction a with
  | refl => exact hr
  | step a e ho ih =>
    refine RS.keep ih e fun hne x hx hh => ?_
    have hb : s.blk = some x.block := by simp [Sl.blk, hx]
    exact (ho _ hh.symm).elim (hn hne _ hb) (fun hg => by have := hl _ hne hb; omega)
theorem KK.own {α : Type} {toC : α → List Value} {sz B : Nat} {s : Sl} {xs : List α} (a : KK K h h') (hr : OwnS toC sz B h s xs) (hn : ∀ b, s.blk = some b → ¬ K b) : OwnS toC sz B h' s xs := by
  have hl : ∀ b, s.blk = some b → b < h.size := fun b hb => (hr.lt hb).2
  induction a with
  | refl => exact hr
  | step a e ho ih => exact ih.keep e fun b hb hh => (ho _ hh.symm).elim (hn _ hb) (fun hg => by have := hl _ hb; omega)
theorem KK.rk {x : X3} {q : Rat} (a : KK K h h') (hr : RK K h x q) : RK K h' x q := by
  have h0 : RK (fun k => K k ∨ h.size ≤ k) h x q := hr.raise fun k hk => hk
  have : RK (fun k => K k ∨ h.size ≤ k) h' x q := by
    induction a with
    | refl => exact h0
    | step a e ho ih => exact ih.keep e ho
  exact this.raise fun k hk => .inl (.inl hk)
theorem KK.mk {s : Sl} {q : PL} (a : KK K h h') (hr : MK K h s q) : MK K h' s q := by
  have h0 : MK (fun k => K k ∨ h.size ≤ k) h s q := hr.raise fun k hk => hk
  have : MK (fun k => K k ∨ h.size ≤ k) h' s q := by
    induction a with
    | refl => exact h0
    | step a e ho ih => exact ih.keep e ho
  exact this.raise fun k hk => .inl (.inl hk)
theorem KK.pk {y : X4} {p : Rat × PL} (a : KK K h h') (q : PK K h y p) : PK K h' y p := ⟨a.rk q.1, a.mk q.2⟩
theorem KK.dk {y : X6} {p : Rat × Rat} (a : KK K h h') (q : DK K h y p) : DK K h' y p := ⟨a.rk q.1, a.rk q.2⟩
theorem KK.ek {y : E7} {p : Eg} (a : KK K h h') (q : EK K h y p) : EK K h' y p := ⟨q.1, a.dk q.2⟩
end
theorem w5 {ms : PL} {v : Int} (hs : Srt ms) {k : Nat} (hk : k < ms.length) (h : (ms[k]'hk).1 = v) : ak ms v = (ms[k]'hk).2 := by
  induction ms generalizing k with
  | nil => simp at hk
  | cons m ms ih =>
    have hs' := List.pairwise_cons.1 hs
    cases k with
    | zero => simp only [List.getElem_cons_zero] at h ⊢; simp [ak, h]
    | succ k =>
      simp only [List.getElem_cons_succ] at h ⊢
      have hk' : k < ms.length := by simpa using hk
      have := hs'.1 (ms[k]'hk') (List.getElem_mem _)
      rw [bK (by omega), ih hs'.2 hk' h]
theorem dC {ms : PL} {v : Int} (h : ∀ m ∈ ms, m.1 ≠ v) : ak ms v = 0 := by
  induction ms with
  | nil => rfl
  | cons m ms ih => rw [bK (h m (by simp)), ih fun m hm => h m (by simp [hm])]
theorem acq {K : Nat → Prop} {s : Sl} {ms : PL} {v : Int} {h : Heap} {Q : (Int × Bool) → Heap → Prop} (hm : MK K h s ms) (hs : Srt ms) (hv : ∀ m ∈ ms, 0 ≤ m.1 ∧ m.1 ≤ 1099511627776) (hvl : -9223372036854775808 ≤ v ∧ v ≤ 9223372036854775807) (hl : ms.length ≤ 1048576)
    (C1 : (∀ m ∈ ms, m.1 ≠ v) → ∀ i h', Ext h h' → Q (i, false) h') (C2 : ∀ k (hk : k < ms.length), ms[k].1 = v → ∀ h', Ext h h' → Q ((k : Int), true) h') : aj s v h Q := by
  have hlen := hm.len
  intro n hn
  rw [hlen] at hn
  have hsl : ∀ i j (hj : j < ms.length) (hi : i < j), (ms[i]'(by omega)).1 < ms[j].1 := fun i j hj hi => List.pairwise_iff_getElem.1 hs i j (by omega) hj hi
  refine loop.inv (fun (s' : Int × Int) h' => Ext h h' ∧ ∃ i j : Nat, s' = ((i : Int), (j : Int)) ∧ i ≤ j ∧ j ≤ ms.length ∧ ∀ k (hk : k < ms.length), ms[k].1 = v → i ≤ k ∧ k ≤ j) (fun s' _ => (s'.2 - s'.1).toNat) ⟨Keep.refl _ _, 0, ms.length, by rw [hn]; rfl, by omega, Nat.le_refl _, fun k hk _ => ⟨by omega, by omega⟩⟩ ?_
  rintro ⟨s1, s2⟩ h1 ⟨e1, i, j, hij, hi, hj, inv⟩
  cases hij
  dsimp only
  refine ⟨fun hlt => ?_, fun hge => ?_⟩
  · simp only [decide_eq_true_eq] at hlt
    rintro c hc
    have hc : c = (((i + j) / 2 : Nat) : Int) := by
      rw [hc, w64 (n := (i : Int) + j) (by omega) (by omega)]
      have h2 : IntKind.wrap .u64 ((i : Int) + j) = (((i + j : Nat)) : Int) := by
        rw [wu64 (by omega) (by omega)]; omega
      rw [h2]
      have h3 : (2 : Int) ^ (min (Int.toNat 1) (IntKind.bits .u64)) = 2 := by decide
      rw [h3, Int.fdiv_eq_ediv_of_nonneg _ (by omega)]
      have : ((i + j : Nat) : Int) / 2 = (((i + j) / 2 : Nat) : Int) := by omega
      rw [this, w64 (by omega) (by omega)]
    have hm1 : i ≤ (i + j) / 2 := by omega
    have hm2 : (i + j) / 2 < j := by omega
    generalize (i + j) / 2 = md at *
    refine hm.atE e1 hc (show md < ms.length by omega) fun a y hy hy1 _ => ⟨y, hy, ?_⟩
    refine ae fun h2 e2 => ?_
    have e02 := e1.trans e2
    have hvm := hv ms[md] (List.getElem_mem _)
    have hwr : ∀ k (hk : k < ms.length), ms[k].1 = v → IntKind.wrap .i64 (y.1 - v) = ms[md].1 - ms[k].1 := fun k hk hkv => by
      have := hv ms[k] (List.getElem_mem _)
      rw [hy1, ← hkv, w64 (by omega) (by omega)]
    dsimp only
    refine ⟨fun hcm => ?_, fun hcm => ?_⟩
    · simp only [decide_eq_true_eq] at hcm
      rintro c2 hc2
      rw [hc, w64 (by omega) (by omega)] at hc2
      refine ⟨⟨e02, md + 1, j, by rw [hc2]; rfl, by omega, hj, fun k hk hkv => ⟨?_, (inv k hk hkv).2⟩⟩, by (try dsimp only); omega⟩
      have h5 := hwr k hk hkv
      rcases Nat.lt_trichotomy k md with g | g | g
      · have := hsl k md (by omega) g; omega
      · subst g; omega
      · omega
    · simp only [decide_eq_false_iff_not] at hcm
      refine ⟨⟨e02, i, md, by rw [hc], by omega, by omega, fun k hk hkv => ⟨(inv k hk hkv).1, ?_⟩⟩, by (try dsimp only); omega⟩
      have h5 := hwr k hk hkv
      rcases Nat.lt_trichotomy md k with g | g | g
      · have := hsl md k hk g; omega
      · omega
      · omega
  · simp only [decide_eq_false_iff_not] at hge
    have hij : i = j := by omega
    subst hij
    rw [hn]
    refine seq.dup ?_
    refine ⟨fun hlt => ?_, fun hge => ?_⟩
    · simp only [decide_eq_true_eq] at hlt
      have hlt : i < ms.length := by omega
      refine hm.atE e1 rfl hlt fun a y hy hy1 _ => ⟨y, hy, ?_⟩
      refine ae fun h2 e2 => ?_
      have e02 := e1.trans e2
      have hvm := hv ms[i] (List.getElem_mem _)
      dsimp only
      by_cases hev : ms[i].1 = v
      · have : (IntKind.wrap .i64 (y.1 - v) == 0) = true := by rw [hy1, hev, Int.sub_self, w64 (by omega) (by omega)]; rfl
        rw [this]
        exact C2 i hlt hev h2 e02
      · have : (IntKind.wrap .i64 (y.1 - v) == 0) = false := by
          rw [beq_eq_false_iff_ne, hy1]
          intro hw
          rw [IntKind.wrap_i64] at hw
          omega
        rw [this]
        refine C1 (fun m hm' hv' => ?_) _ h2 e02
        obtain ⟨k, hk, rfl⟩ := List.getElem_of_mem hm'
        have := inv k hk hv'
        have : k = i := by omega
        subst this
        exact hev hv'
    · simp only [decide_eq_false_iff_not] at hge
      refine C1 (fun m hm' hv' => ?_) _ h1 e1
      obtain ⟨k, hk, rfl⟩ := List.getElem_of_mem hm'
      have := inv k hk hv'
      omega
theorem kn {K : Nat → Prop} {p : X4} {ms : PL} {v : Int} {h : Heap} {Q : X3 → Heap → Prop} (hm : MK K h p.2.2.2 ms) (hs : Srt ms) (hv : ∀ m ∈ ms, 0 ≤ m.1 ∧ m.1 ≤ 1099511627776) (hvl : -9223372036854775808 ≤ v ∧ v ≤ 9223372036854775807) (hl : ms.length ≤ 1048576)
    (C : ∀ r h', RK K h' r (ak ms v) → Ext h h' → Q r h') : cU p v h Q := by
  refine ae fun h1 e1 => acq (hm.ext e1) hs hv hvl hl (fun hn i h2 e2 => ⟨fun _ => ?_, nofun⟩) (fun k hk hkv h2 e2 => ⟨nofun, fun _ => ?_⟩)
  · exact C _ h2 (by rw [dC hn]; exact RK.zero) (e1.trans e2)
  · refine ((hm.ext e1).ext e2).at rfl hk fun a y hy hy1 hy2 => ⟨co y, yt hy, ?_⟩
    exact C _ h2 (by rw [w5 hs hk hkv]; exact hy2) (e1.trans e2)
def wo (v : Int) (ms : PL) : PL := ms.filter fun m => m.1 != v
theorem acf {v : Int} {ms : PL} {i : Nat} (hi : i < ms.length) : wo v (ms.take (i + 1)) = wo v (ms.take i) ++ (if ms[i].1 != v then [ms[i]] else []) := by
  rw [List.take_succ_eq_append_getElem hi, wo, List.filter_append]
  congr 1
  by_cases h : (ms[i].1 != v) = true <;> simp [h]
theorem kA {K : Nat → Prop} {p : X4} {ms : PL} {v : Int} {h : Heap} {Q : X4 → Heap → Prop} (hm : MK K h p.2.2.2 ms) (hK : ∀ k, K k → k < h.size) (hl : ms.length ≤ 1048576)
    (C : ∀ s h', MK K h' s (wo v ms) → Ext h h' → Q (p.1, p.2.1, p.2.2.1, s) h') : cF p v h Q := by
  have hlen := hm.len
  refine ae fun h1 e1 => ae fun h2 e2 => ?_
  have e02 := e1.trans e2
  refine loop.inv (fun (s : Int × Bool × Sl × Sl × Sl) h' => Ext h h' ∧ ∃ i : Nat, s.1 = (i : Int) ∧ i ≤ ms.length ∧ s.2.1 = p.1 ∧ s.2.2.1 = p.2.1 ∧ s.2.2.2.1 = p.2.2.1 ∧ OM K h.size h' s.2.2.2.2 (wo v (ms.take i))) (fun s _ => ms.length - s.1.toNat) ⟨e02, 0, rfl, by omega, rfl, rfl, rfl, by simpa [wo] using OM.nil hK⟩ ?_
  rintro ⟨_, s1, s2, s3, s4⟩ h3 ⟨e3, i, rfl, hi, rfl, rfl, rfl, ho⟩
  dsimp only at ho ⊢
  rw [hlen]
  refine ⟨fun hlt => ?_, fun hge => ?_⟩
  · simp only [decide_eq_true_eq] at hlt
    have hlt : i < ms.length := by omega
    refine seq.cut (fun (t : Bool × Sl × Sl × Sl) h' => Ext h h' ∧ t.1 = p.1 ∧ t.2.1 = p.2.1 ∧ t.2.2.1 = p.2.2.1 ∧ OM K h.size h' t.2.2.2 (wo v (ms.take (i + 1)))) ?_ (fun t h4 ⟨e4, t1, t2, t3, t4⟩ => ?_)
    · refine hm.atE e3 rfl hlt fun a y hy hy1 hy2 => ⟨y, hy, ae fun h4 e4 => ?_⟩
      have e04 := e3.trans e4
      rw [acf hlt, ← hy1]
      have hlw : (wo v (ms.take i)).length ≤ 1048576 := Nat.le_trans (List.length_filter_le _ _) (by rw [List.length_take]; omega)
      refine ⟨fun hne => ?_, fun heq => ?_⟩
      · refine (ho.ext e4).push (x := co y) e04.size ((hy2.raise fun k hk => ?_).ext e04) hlw fun s' h5 o5 k5 _ => ?_
        · rcases hk with hk | hk
          · exact .inl hk
          · exact .inr (ho.lt hk).1
        · refine ⟨Keep.freshB e04 (fun n hn => (ho.lt hn).1) k5, rfl, rfl, rfl, ?_⟩
          rw [if_pos hne]; have := o5; rw [hy1] at this; exact this
      · refine ⟨e04, rfl, rfl, rfl, ?_⟩
        rw [if_neg (by simp [heq]), List.append_nil]
        exact ho.ext e4
    · exact ⟨⟨e4, i + 1, w64 (by omega) (by omega), by omega, t1, t2, t3, t4⟩, by rw [w64 (by omega) (by omega)]; omega⟩
  · simp only [decide_eq_false_iff_not] at hge
    have : i = ms.length := by omega
    subst this
    rw [List.take_length] at ho
    exact C _ h3 ho.mk' e3
end Go.Sh

namespace Go.Sh
open Go Go.Lift
structure Cs (h : Heap) (p : Addr) (cs : List Value) : Prop where
  spot : p.spot = none
  cell : ∀ k (hk : k < cs.length), cell? h (p.add k) = some cs[k] ∧ frozen? h (p.add k) = false
theorem Cs.set {h : Heap} {p : Addr} {cs : List Value} (q : Cs h p cs) (j : Nat) (v : Value) (hj : j < cs.length) : Cs (aW h (p.add j) v) p (cs.set j v) := by
  refine ⟨q.spot, fun k hk => ?_⟩
  have hk' : k < cs.length := by simpa using hk
  obtain ⟨h1, h2⟩ := q.cell k hk'
  refine ⟨?_, by rw [jX]; exact h2⟩
  by_cases hkj : j = k
  · subst hkj
    rw [cy h1, List.getElem_set_self]
  · rw [eQ (.inr (.inl (by rw [aT _ _ q.spot, aT _ _ q.spot]; simpa using hkj))), h1, List.getElem_set_ne hkj]
theorem Cs.st {h : Heap} {p : Addr} {cs : List Value} (q : Cs h p cs) {j : Nat} {v : Value} {k : Heap → Prop} (hj : j < cs.length)
    (K : ∀ h', Cs h' p (cs.set j v) → Keep (some p.block) h h' → h'.size = h.size → k h') : Lift.ady (p.add j) v h k := by
  obtain ⟨h1, h2⟩ := q.cell j hj
  refine ⟨⟨_, h1⟩, h2, K _ (q.set j v hj) ?_ (by simp [aW])⟩
  have := Keep.setCell h (p.add j) v
  rwa [af] at this
theorem aby {cs : List Value} {h : Heap} {k : Addr → Heap → Prop} (K : ∀ a h', Cs h' a cs → a.block = h.size → Ext h h' → h'.size = h.size + 1 → k a h') : new cs h k := by
  intro T
  refine K _ _ ⟨rfl, fun j hj => ?_⟩ rfl (Ext.push _ _) (by simp)
  rw [aT _ _ rfl]
  refine ⟨?_, dz (T := T) (c := cs.toArray) (by simp)⟩
  simp [cell?, hj]
theorem Cs.sts {h : Heap} {p : Addr} {v0 v1 v2 v3 v4 : Value} {cs : List Value} {k : Heap → Prop} (q : Cs h p cs) (hl : cs.length = 5)
    (K : ∀ h', Cs h' p [v0, v1, v2, v3, v4] → Keep (some p.block) h h' → k h') : dU p [v0, v1, v2, v3, v4] h k := by
  refine ⟨?_, ?_⟩
  · have : ∀ n i, i + n ≤ 5 → dV h p n i := by
      intro n
      induction n with
      | zero => intro i _; trivial
      | succ n ih => intro i hi; exact ⟨⟨_, (q.cell i (by omega)).1⟩, (q.cell i (by omega)).2, ih _ (by omega)⟩
    exact this 5 0 (by omega)
  · have a0 := q.set 0 v0 (by omega)
    have a1 := a0.set 1 v1 (by simp; omega)
    have a2 := a1.set 2 v2 (by simp; omega)
    have a3 := a2.set 3 v3 (by simp; omega)
    have a4 := a3.set 4 v4 (by simp; omega)
    refine K _ ?_ ?_
    · have hc : ((((cs.set 0 v0).set 1 v1).set 2 v2).set 3 v3).set 4 v4 = [v0, v1, v2, v3, v4] := by
        match cs, hl with
        | [_, _, _, _, _], _ => rfl
      rw [hc] at a4
      exact a4
    · exact jp p _ 0 h
theorem act (q : Rat) : szQ (-q) = szQ q := by simp [szQ, dn]
theorem nm (m : Int × Rat) (l : PL) : (nzc m l).length ≤ l.length + 1 := by unfold nzc; split <;> simp
theorem acn (p q : PL) : (mrg p q).length ≤ p.length + q.length := by
  induction p, q using mrg.induct with
  | case1 => rw [pH]; simp
  | case2 a as ih => rw [pJ]; have := nm a (mrg as []); simp at *; omega
  | case3 b bs ih => rw [pA]; have := nm b (mrg [] bs); simp at *; omega
  | case4 a as b bs h ih => rw [ct, if_pos h]; have := nm a (mrg as (b :: bs)); simp at *; omega
  | case5 a as b bs h h' ih => rw [ct, if_neg h, if_pos h']; have := nm b (mrg (a :: as) bs); simp at *; omega
  | case6 a as b bs h h' ih => rw [ct, if_neg h, if_neg h']; have := nm (a.1, a.2 + b.2) (mrg as bs); simp at *; omega
theorem abg (p q : Rat × PL) (c : Rat) : (addP p c q).2.length ≤ p.2.length + q.2.length := by
  have h1 := acn p.2 (scP c q).2
  have h2 := uL (c := c) (p := q)
  unfold addP; dsimp only; omega
theorem zZ {lim : Nat} {p : Rat × PL} : bg lim p = true ↔ szQ p.1 ≤ lim ∧ ∀ m ∈ p.2, szQ m.2 ≤ lim := by
  simp [bg]
theorem xD {lim : Nat} {o : Bool} {p : Rat × PL} (h : o = false → bg lim p = true) : szQ (valP o p).1 ≤ lim ∧ ∀ m ∈ (valP o p).2, szQ m.2 ≤ lim := by
  cases o with
  | true => refine ⟨?_, fun m hm => ?_⟩
            · show szQ (0 : Rat) ≤ lim
              rw [bP]; omega
            · simp [valP] at hm
  | false => exact zZ.1 (h rfl)
theorem w9 {o : Bool} {p : Rat × PL} : (valP o p).2.length ≤ p.2.length := by cases o <;> simp [valP]
theorem zL {v : Int} {ms : PL} : (wo v ms).length ≤ ms.length := List.length_filter_le _ _
theorem te {v : Int} {ms : PL} {m : Int × Rat} (h : m ∈ wo v ms) : m ∈ ms := (List.mem_filter.1 h).1
theorem aaV {K : Nat → Prop} {v : Int} {h : Heap} {Q : X4 → Heap → Prop} (hK : ∀ k, K k → k < h.size) (C : ∀ r h', PK K h' r (0, [(v, 1)]) → Ext h h' → Q r h') : lT v h Q := by
  refine ae fun h1 e1 => OfQ (by decide) (by decide) fun r h2 hr fr e2 => ?_
  have e02 := e1.trans e2
  have hr1 : RK K h2 r 1 := RK.fresh (h0 := h1) hr fr fun k hk => Nat.lt_of_lt_of_le (hK k hk) e1.size
  intro T
  refine C _ _ ⟨RK.zero, Nat.le_refl _, ⟨[(v, r.1, r.2.1, r.2.2)], RS.new len4 rfl rfl, .cons ⟨rfl, hr1.ext (Ext.push _ _)⟩ .nil⟩, fun _ k hk hb => ?_⟩ (e02.trans (Ext.push _ _))
  have := hK k hk
  have := e02.size
  simp [Sl.blk] at hb
  omega
section
variable {h0 h h' : Heap} {V : Vol} {lim : Nat} {ov ov' : Bool} {x : S5} {t : TT} {K : Nat → Prop}
theorem TM.kkA (q : TM h0 V lim ov h x t) (k : KK (· = V.a.block) h h') (hb : BO h0 V.a lim ov' h') : TM h0 V lim ov' h' x t := by
  have kV : KK V.K h h' := k.mono fun _ hk => .inl hk
  obtain ⟨ys, r1, r2⟩ := q.rows
  obtain ⟨vs, v1, v2⟩ := q.vals
  obtain ⟨ls, l1, l2⟩ := q.lo
  obtain ⟨us, u1, u2⟩ := q.up
  exact { bo := hb, old := q.old, lt := fun b hk => Nat.lt_of_lt_of_le (q.lt b hk) k.size, ap := q.ap, av := q.av, al := q.al, au := q.au, pv := q.pv, pl := q.pl, pu := q.pu, vl := q.vl, vu := q.vu, lu := q.lu, spot := q.spot
          root := fun j hj => by
            have := q.root j hj
            have hn : ¬ (V.p.add j).block = V.a.block := by rw [af]; exact fun e => q.ap e.symm
            exact ⟨k.cell this.1 hn, k.frozen (bV this.1) this.2 hn⟩
          bas := kV.rj q.bas q.basn, basn := q.basn, rcap := q.rcap, rows := ⟨ys, kV.rs (by decide) r1 fun _ => q.rown, r2.imp fun y m h => kV.pk h⟩, rown := q.rown
          valb := q.valb, vals := ⟨vs, k.own v1 fun b hb' e => by rw [q.valb] at hb'; cases hb'; exact q.av e.symm, v2.imp fun y m h => kV.dk h⟩
          lob := q.lob, lo := ⟨ls, k.own l1 fun b hb' e => by rw [q.lob] at hb'; cases hb'; exact q.al e.symm, l2.imp fun y m h => kV.ek h⟩
          upb := q.upb, up := ⟨us, k.own u1 fun b hb' e => by rw [q.upb] at hb'; cases hb'; exact q.au e.symm, u2.imp fun y m h => kV.ek h⟩ }
theorem xO {ys : List X4} {ps : List (Rat × PL)} {s : Sl} (hs : RS CP 4 h s ys) (ha : All2 (PK K h) ys ps) {i : Int} {j : Nat} {k : Addr → Prop} (hij : i = (j : Int)) (hj : j < ps.length)
    (C : ∀ a y, (∀ b, s.blk = some b → a.block = b) → s.blk = some a.block → cells? h a 4 0 = some (CP y) → PK K h y ps[j] → k a) : idxS s i 4 k := by
  subst hij
  have hlen := ha.length
  obtain ⟨a, ha', hc⟩ := hs.cells j (by omega)
  have hl := hs.len
  refine ⟨a, ha', ⟨by omega, by omega⟩, ?_⟩
  have hb : s.blk = some (a.add ((j : Int).toNat * 4)).block := by rw [af]; simp [Sl.blk, ha']
  exact C _ ys[j] (fun b hb' => by rw [hb] at hb'; exact Option.some.inj hb') hb (by simpa using hc) (ha.get j (by omega) hj)
theorem KK.cells {p : Addr} : ∀ {n i : Nat} {l : List Value}, KK K h h' → ¬ K p.block → cells? h p n i = some l → cells? h' p n i = some l := by
  intro n i l k hn hc
  by_cases h0 : n = 0
  · subst h0; simpa [cells?] using hc
  · have hl : p.block < h.size := by
      cases n with
      | zero => exact absurd rfl h0
      | succ n =>
        rw [cells?] at hc
        split at hc
        · rename_i v r h1 h2
          have := bV h1
          rwa [af] at this
        · cases hc
    induction k with
    | refl => exact hc
    | step a e ho ih => exact ce e (fun hh => (ho _ hh.symm).elim hn (by omega)) ih
end
end Go.Sh
