/-
  Laws that the proof of this claim's statement leans on, each proved under the conditions that it states.
-/
import Derived.Test.YtkjcocjkcjmafaaSpB
set_option linter.unusedVariables false
set_option linter.unusedSimpArgs false
namespace Go.Sh
open Go Go.Lift Go.Cla
variable {h h' h1 h2 : Heap} {p : Addr} {x x1 x2 : Nm → Sl} {vs : Nm → List Value} {S S0 : SS} {n : Nat}
theorem To.step {ι : Type} {x x1 x2 : ι → Sl} {o : Option Nat} (t : To p n h x h1 x1) (k : Keep o h1 h2) (hp : p.block < h.size) (ho : ∀ b, o = some b → (∃ i, (x1 i).blk = some b ∧ b ≠ p.block) ∨ h.size ≤ b)
    (hf : ∀ i b, (x2 i).blk = some b → (∃ j, (x1 j).blk = some b) ∨ h.size ≤ b) : To p n h x h2 x2 := by
  have hne : ∀ b, b < h.size → (∀ i, (x i).blk ≠ some b) → some b ≠ o := by
    intro b hb hx e
    rcases ho b e.symm with ⟨i, hi, _⟩ | hb2
    · rcases t.foot i b hi with ⟨j, hj⟩ | hb3
      · exact hx j hj
      · omega
    · omega
  have hpo : some p.block ≠ o := by
    intro e
    rcases ho _ e.symm with ⟨i, _, hi⟩ | hb2
    · exact hi rfl
    · omega
  refine ⟨Nat.le_trans t.size k.size, fun b hb hbp hx => ?_, fun i b hb => ?_, fun a ha hr => ?_⟩
  · rw [k.same b (Nat.lt_of_lt_of_le hb t.size) (hne b hb hx)]; exact t.same b hb hbp hx
  · rcases hf i b hb with ⟨j, hj⟩ | hb2
    · exact t.foot j b hj
    · exact .inr hb2
  · have h1 := t.root a ha hr
    have := k.same a.block (by rw [ha]; exact Nat.lt_of_lt_of_le hp t.size) (by rw [ha]; exact hpo)
    unfold cell? frozen? at *
    rw [this]; exact h1
theorem SM.keepO (q : SM h p x vs S) {o : Option Nat} (k : Keep o h h') (ho : ∀ b, o = some b → Out p x b) : SM h' p x vs S :=
  ⟨q.ns.keep k (fun i b hb e => (ho b e.symm).2 i hb), q.spot, q.root.keep k (fun e => (ho _ e.symm).1 rfl), q.pn, q.enc⟩
theorem Own.out {α : Type} {toV : α → Value} {s : Sl} {xs : List α} (ho : Own toV 0 h s xs) (t : To p n h x h' x1) (hb : ∀ b, s.blk = some b → Out p x b) : Own toV 0 h' s xs := by
  refine ⟨R.to ho.r t hb, ?_⟩
  rcases ho.own with g | ⟨b, c, T, g1, g2, g3, g4⟩
  · exact .inl g
  · refine .inr ⟨b, c, T, g1, g2, ?_, g4⟩
    have ob := hb b (by simp [Sl.blk, g1])
    rw [t.same b (Array.getElem?_eq_some_iff.1 g3).1 ob.1 ob.2]; exact g3
def setWt (S : SS) (w : Nat) (l : List Int) : SS := { S with wat := S.wat.set w l }
theorem SM.putW (q : SM h p x vs S) {w : Nat} {i : Int} (hi : i = (w : Int)) (hw : w < S.wat.length) {r : Sl} {l : List Int} (o : Own toI 0 h r l) (hb : ∀ b, r.blk = some b → Out p x b) {k : Heap → Prop}
    (K : ∀ h' vs', SM h' p (upd x (.w w) r) vs' (setWt S w l) → Keep (x .wat).blk h h' → k h') : idxS (x .wat) i 1 fun a => Lift.store a (Sl.toV r) h k := by
  subst hi
  have g1 := q.ns.own .wat
  rw [show Nm.sc .wat = 1 from rfl, Sl.sc_one] at g1
  have hl : w < (vs .wat).length := by rw [q.enc.wlen]; exact hw
  obtain ⟨b, ha, hc⟩ := g1.get hl
  refine ⟨_, ha, ⟨by omega, by rw [q.watLen]; omega⟩, ?_⟩
  simp only [Int.toNat_natCast, Nat.mul_one]
  refine g1.st hl ha rfl fun h' o' k' hs => ?_
  have ns1 := (q.ns.put .wat (s' := x .wat) (l' := (vs .wat).set w (Sl.toV r)) (h' := h') k' (by rw [show Nm.sc .wat = 1 from rfl, Sl.sc_one]; exact o') (fun b hb => .inl hb))
  rw [upd_self] at ns1
  have orr : Own toI 0 h' r l := o.keep k' (fun b hbr e => (hb b hbr).2 .wat e.symm)
  have pn' : ∀ i, (upd x (.w w) r i).blk ≠ some p.block := by
    intro i
    by_cases e : i = .w w
    · subst e; rw [upd_at]; intro hv; exact (hb _ hv).1 rfl
    · rw [upd_ne e]; exact q.pn i
  have ns2 : NS Nm.sc h' (upd x (.w w) r) (upd (upd vs (.w w) (l.map toI)) .wat ((vs .wat).set w (Sl.toV r))) := by
    refine ⟨fun i => ?_, fun i j b hib hjb => ?_⟩
    · by_cases e : i = .w w
      · subst e
        rw [upd_at, upd_ne (by simp), upd_at, show Nm.sc (.w w) = 1 from rfl, Sl.sc_one]
        exact OwnV.of one_toI orr
      · rw [upd_ne e]
        have := ns1.own i
        by_cases e2 : i = .wat
        · subst e2; rw [upd_at] at this ⊢; exact this
        · rw [upd_ne e2] at this ⊢; rw [upd_ne e]; exact this
    · by_cases e : i = .w w
      · by_cases e2 : j = .w w
        · rw [e, e2]
        · subst e; rw [upd_at] at hib; rw [upd_ne e2] at hjb
          exact absurd hjb ((hb b hib).2 j)
      · by_cases e2 : j = .w w
        · subst e2; rw [upd_at] at hjb; rw [upd_ne e] at hib
          exact absurd hib ((hb b hjb).2 i)
        · rw [upd_ne e] at hib; rw [upd_ne e2] at hjb
          exact q.ns.inj i j b hib hjb
  refine K h' _ ⟨ns2, q.spot, ?_, pn', q.enc.setW hw r l⟩ k'
  intro i hi
  rw [rootV_ne (by simp)]
  exact (q.root.keep k' (fun e => q.pn _ e.symm)) i hi
theorem SM.cutW (q : SM h p x vs S) {w : Nat} {i : Int} (hi : i = (w : Int)) (hw : w < S.wat.length) {k : Heap → Prop}
    (K : ∀ h' vs', SM h' p (upd x (.w w) Sl.nil) vs' (setWt S w []) → Keep (x .wat).blk h h' → Own toI 0 h' (x (.w w)) (S.wt w) → (∀ b, (x (.w w)).blk = some b → Out p (upd x (.w w) Sl.nil) b) → k h') : idxS (x .wat) i 1 fun a => Lift.store a (Sl.toV Sl.nil) h k :=
  q.putW hi hw (r := Sl.nil) (l := []) Own.nil nofun fun h' vs' q' k' => K h' vs' q' k' ((q.wt w).keep k' (fun b hb e => by have := q.ns.inj (.w w) .wat b hb e.symm; cases this)) (fun b hb => ⟨fun e => q.pn _ (by rw [hb, e]), fun i hi => by
    by_cases e : i = .w w
    · subst e; rw [upd_at] at hi; cases hi
    · rw [upd_ne e] at hi; exact e (q.ns.inj i (.w w) b hi hb)⟩)
def setU (S : SS) (j : Nat) (u : Int) : SS := { S with cls := S.cls.set j { S.cl j with use := u } }
theorem SM.useAt (q : SM h p x vs S) {j : Nat} (hj : j < S.cls.length) {u : Int} {i : Int} (hi : i = (j : Int)) {k : Heap → Prop} (K : ∀ h' vs', SM h' p x vs' (setU S j u) → To p 8 h x h' x → k h') : idxS (x .cls) i 3 fun a => Lift.store (a.add 2) (toI u) h k := by
  refine q.clsAt hi hj fun a ha _ _ _ => ?_
  rw [addr_add_add, show j * 3 + 2 = 3 * j + 2 by omega]
  have g1 := q.ns.own .cls
  refine g1.st (by rw [q.enc.clen]; omega) (show (Sl.sc (Nm.sc .cls) (x .cls)).a = some a from ha) rfl fun h' o' k' hs => ?_
  have ns1 := q.ns.put .cls (s' := x .cls) (h' := h') k' o' (fun b hb => .inl hb)
  rw [upd_self] at ns1
  have t1 := To.row (p := p) (n := 8) (x := x) .cls (s' := x .cls) (h := h) (h' := h') k' (q.pn _) (fun b hb => .inl hb) q.plt
  rw [upd_self] at t1
  exact K h' _ ⟨ns1, q.spot, q.root.keep k' (fun e => q.pn .cls e.symm), q.pn, q.enc.setU hj u⟩ t1
theorem Grow0uspec {m : Nat} {Q : Sl → Heap → Prop} (hm : m ≤ 1073741824) (K : ∀ r h', Own toI h.size h' r [] → Ext h h' → Q r h') : slices_Grow_int_int Sl.nil (m : Int) h Q := by
  refine seq.cut (fun (_ : Unit) h2 => h2 = h) ⟨fun hc => ?_, fun _ => rfl⟩ ?_
  · simp only [decide_eq_true_eq] at hc; omega
  rintro _ h2 rfl
  refine seq.cut (fun (r : Sl) h3 => Own toI h2.size h3 r [] ∧ Ext h2 h3) ?_ (fun r h3 ⟨a, b⟩ => K r h3 a b)
  rintro m1 rfl
  have e1 : IntKind.wrap .i64 ((m : Int) - IntKind.wrap .i64 (((Sl.nil.cap : Nat) : Int) - ((Sl.nil.len : Nat) : Int))) = (m : Int) := by
    simp only [Sl.nil]
    rw [w64 (n := ((0 : Nat) : Int) - ((0 : Nat) : Int)) (by omega) (by omega), w64 (by omega) (by omega)]; omega
  rw [e1]
  refine ⟨fun hp => ?_, fun _ => ⟨Own.nil, Keep.refl _ _⟩⟩
  simp only [gt_iff_lt, decide_eq_true_eq] at hp
  refine ⟨⟨by simp [Sl.nil], by simp [Sl.nil]⟩, ⟨by simp, .inr (by simp [Sl.nil])⟩, ⟨by simp, by simp⟩, ?_⟩
  simp only [Option.getD_none, Option.getD_some, Int.toNat_zero, Sl.nil]
  refine ⟨⟨hp, by omega, by simp; omega⟩, ?_, fun hc => ?_, fun _ => ⟨[], rfl, fun cap T rest hcap hrest => ?_⟩⟩
  · simp [oneCells, one]
  · simp only [Int.toNat_natCast] at hc; omega
  · simp only [Int.toNat_natCast] at hcap hrest ⊢
    refine ⟨⟨by simp, by simp⟩, ⟨by simp, .inr (by simp)⟩, ⟨by simp, by simp⟩, ?_, Ext.push _ _⟩
    simp only [Option.getD_none, Option.getD_some, Int.toNat_zero, Nat.sub_zero]
    refine ⟨⟨by simp, by simp, ?_⟩, .inr ⟨h2.size, _, T, ?_, Nat.le_refl _, by simp; rfl, ?_⟩⟩
    · split <;> rfl
    · split <;> simp [Addr.add]
    · simp at hrest ⊢
      omega
theorem R.drop {α : Type} {toV : α → Value} {h : Heap} {s : Sl} {xs : List α} (hr : R toV h s xs) {i : Int} {j : Nat} {k : Sl → Prop} (hij : i = (j : Int)) (hj : j ≤ xs.length) (K : ∀ s', R toV h s' (xs.drop j) → s'.blk = s.blk → k s') : sliceOf s (some i) none none 1 k := by
  subst hij
  have hl := hr.len
  have hcap := hr.cap
  refine ⟨⟨by simp, by simp⟩, ⟨by simp, .inl rfl⟩, ⟨by simp, by simp; omega⟩, ?_⟩
  simp only [Option.getD_none, Option.getD_some, Int.toNat_natCast, Nat.mul_one]
  by_cases hcj : (s.cap : Int) = (j : Int)
  · rw [if_pos hcj]
    have hx : xs.drop j = [] := List.drop_eq_nil_of_le (by omega)
    refine K _ ?_ rfl
    rw [hx]
    exact R.nil_of (by dsimp only; omega) |> fun r => ⟨r.len, by dsimp only; omega, r.cells⟩
  · rw [if_neg hcj]
    cases ha : s.a with
    | none =>
      have hx : xs = [] := by
        have := hr.cells; rw [ha] at this
        simp only [cellsO?, Option.some.injEq] at this
        cases xs with
        | nil => rfl
        | cons x xs => simp at this
      subst hx
      refine K _ ?_ (by simp [Sl.blk, ha])
      have hj0 : j = 0 := by simpa using hj
      subst hj0
      simp only [List.length_nil] at hl
      exact ⟨by simpa using hl, by dsimp only; omega, by simp [cellsO?]⟩
    | some a =>
      refine K _ (R.mk' (by simp; omega) (by dsimp only; omega) (a.add j) rfl (fun i hi => ?_)) (by simp [Sl.blk, ha, addr_add_block])
      simp only [List.length_drop] at hi
      obtain ⟨a', ha', hc⟩ := hr.get (i := j + i) (by omega)
      rw [ha] at ha'; cases ha'
      rw [addr_add_add, hc, List.getElem_drop]
theorem R.ld2 {α : Type} {toV : α → Value} {s : Sl} {xs : List α} (hr : R toV h s xs) {i : Int} {j : Nat} {k : α → Prop} (hij : i = (j : Int)) (hj : j < xs.length) (K : k xs[j]) : idxS s i 1 fun a => Lift.load toV a h k := by
  subst hij
  exact R.load hr (by omega) (by omega) K
theorem Concat_spec {s : Sl} {ss : List Sl} {xss : List (List Int)} {Q : Sl → Heap → Prop} (hs : R Sl.toV h s ss) (hl : ss.length = xss.length) (hx : ∀ i (h1 : i < ss.length) (h2 : i < xss.length), RJ h ss[i] xss[i]) (hb : (xss.flatten).length ≤ 1073741824) (hn : ss.length ≤ 1000)
    (K : ∀ r h', Own toI h.size h' r xss.flatten → Ext h h' → Q r h') : slices_Concat_int_int s h Q := by
  have hsl := hs.len
  have flen : ∀ i, i < xss.length → ((xss.take (i + 1)).flatten).length = ((xss.take i).flatten).length + (xss[i]!).length := by
    intro i hi
    rw [List.take_succ_eq_append_getElem hi, List.flatten_append]
    simp [hi]
  have fle : ∀ i, ((xss.take i).flatten).length ≤ xss.flatten.length := by
    intro i
    have : xss.flatten = (xss.take i).flatten ++ (xss.drop i).flatten := by rw [← List.flatten_append, List.take_append_drop]
    rw [this, List.length_append]; omega
  refine loop.inv (fun (t : Int × Int) h2 => h2 = h ∧ ∃ i : Nat, t.2 = (i : Int) ∧ i ≤ ss.length ∧ t.1 = (((xss.take i).flatten).length : Int)) (fun t _ => ss.length - t.2.toNat) ⟨rfl, 0, rfl, Nat.zero_le _, by simp⟩ ?_
  rintro ⟨sz, i0⟩ h2 ⟨rfl, i, rfl, hi, rfl⟩
  dsimp only
  rw [hsl]
  refine ⟨fun hlt => ?_, fun hge => ?_⟩
  · simp only [decide_eq_true_eq] at hlt
    have hi' : i < ss.length := by omega
    refine seq.cut (fun (t : Int) h3 => h3 = h2 ∧ t = (((xss.take (i + 1)).flatten).length : Int)) ?_ ?_
    · refine R.ld2 hs (j := i) rfl hi' ?_
      have hlen := (hx i hi' (by omega)).len
      rintro t rfl
      have f1 := flen i (by omega)
      have f2 := fle (i + 1)
      have f3 : (xss[i]!).length = xss[i].length := by simp [show i < xss.length by omega]
      rw [hlen, w64 (by omega) (by omega)]
      refine ⟨fun hc => ?_, fun _ => ⟨rfl, by omega⟩⟩
      simp only [decide_eq_true_eq] at hc; omega
    · rintro t h3 ⟨rfl, rfl⟩
      rw [w64 (by omega) (by omega)]
      exact ⟨⟨rfl, i + 1, by simp, by omega, rfl⟩, by simp only [Int.toNat_natCast]; omega⟩
  · simp only [decide_eq_false_iff_not] at hge
    have : i = ss.length := by omega
    subst this
    rw [hl, List.take_length]
    refine Grow0uspec (by omega) fun r0 h3 o3 e3 => ?_
    refine loop.inv (fun (t : Sl × Int) h4 => ∃ i : Nat, t.2 = (i : Int) ∧ i ≤ ss.length ∧ Own toI h2.size h4 t.1 ((xss.take i).flatten) ∧ Ext h2 h4) (fun t _ => ss.length - t.2.toNat) ⟨0, rfl, Nat.zero_le _, by simpa using o3, e3⟩ ?_
    rintro ⟨r, i0⟩ h4 ⟨i, rfl, hi, o4, e4⟩
    dsimp only
    refine ⟨fun hlt => ?_, fun hge => ?_⟩
    · simp only [decide_eq_true_eq] at hlt
      have hi' : i < ss.length := by omega
      refine R.ld2 (R.ext hs e4) (j := i) rfl hi' ?_
      have f1 := flen i (by omega)
      have f2 := fle (i + 1)
      have f3 : (xss[i]!).length = xss[i].length := by simp [show i < xss.length by omega]
      refine Own.append o4 (by have := e4.size; omega) (R.ext (hx i hi' (by omega)) e4) (fun _ => rfl) (by omega) fun r' h5 o5 k5 _ => ?_
      rw [w64 (by omega) (by omega)]
      refine ⟨⟨i + 1, by simp, by omega, ?_, ?_⟩, by simp only [Int.toNat_natCast]; omega⟩
      · rw [List.take_succ_eq_append_getElem (by omega), List.flatten_append]
        simpa using o5
      · exact ⟨Nat.le_trans e4.size k5.size, fun b hb _ => (k5.same b (Nat.lt_of_lt_of_le hb e4.size) (fun e => by have := (o4.lt e.symm).1; omega)).trans (e4.same b hb (by simp))⟩
    · simp only [decide_eq_false_iff_not] at hge
      have : i = ss.length := by omega
      subst this
      rw [hl, List.take_length] at o4
      exact K r h4 o4 e4
end Go.Sh

namespace Go.Sh
open Go Go.Lift Go.Cla
variable {h h' : Heap} {p : Addr} {x : Nm → Sl} {vs : Nm → List Value} {S S0 : SS} {n : Nat}
def none2 : Nat → Nat → Prop := fun _ _ => False
structure Ask (n : Nat) (S : SS) : Prop where
  t : Tok n S
  w : Wok n S S.wt
  p : Proc S S.nxt none2
  hd : ∀ hd ∈ S.hea, hd ≤ (S.nxt : Int)
structure Bad (n : Nat) (S : SS) (j : Nat) : Prop where
  t : Tok n S
  w : Wok n S S.wt
  p : Proc S (S.nxt - 1) none2
  pos : 0 < S.nxt
  hd : ∀ hd ∈ S.hea, hd ≤ ((S.nxt - 1 : Nat) : Int)
  f : FalseC S.val (S.cl j).lits
theorem Tok.ri (t : Tok n S) : RI n S S := ⟨t, rfl, fun _ _ _ => Iff.rfl, fun _ => ⟨rfl, rfl⟩, fun l hl => .told (t.vl_iff.2 hl), ⟨[], by simp⟩, rfl, ⟨fun q h1 h2 => absurd h2 (by omega), fun _ _ => ⟨rfl, rfl⟩, fun q h1 h2 => absurd h2 (by omega), fun _ _ => ⟨rfl, rfl⟩⟩⟩
theorem setWt_wt (S : SS) (w : Nat) (l : List Int) (i : Nat) (hw : w < S.wat.length) : (setWt S w l).wt i = if i = w then l else S.wt i := getD_set _ _ _ _ _ hw
theorem Tok.setWt (t : Tok n S) (w : Nat) (l : List Int) : Tok n (setWt S w l) :=
  { nb := t.nb, vn := t.vn, ln := t.ln, rn := t.rn, wn := by show (S.wat.set _ _).length = _; rw [List.length_set]; exact t.wn, tri := t.tri, cn := t.cn, fit := t.fit, tt := t.tt, tn := t.tn, tv := t.tv, nx := t.nx, hn := t.hn }
theorem RI.setWt (r : RI n S0 S) (w : Nat) (l : List Int) : RI n S0 (setWt S w l) := ⟨r.t.setWt w l, r.cl, r.sl, r.lu, r.der, r.pre, r.hea, r.why⟩
def nxOf (hh : Heap) (p : Addr) : Nat := match cell? hh (p.add 7) with
  | some (Value.int _ i) => i.toNat
  | _ => 0
theorem SM.nxOf (q : SM h p x vs S) : nxOf h p = S.nxt := by
  unfold Sh.nxOf
  rw [(q.root 7 (by decide)).1]
  show Int.toNat (S.nxt : Int) = _
  simp
theorem blk_of {s : Sl} {a : Addr} (h : s.a = some a) : s.blk = some a.block := by simp [Sl.blk, h]
theorem round_spec {h0 : Heap} {x0 : Nm → Sl} {m : Nat} {gone : Int} {v8 : Sl} {L0 : List Int} {K0 K1 : Int → Heap → Prop} (hp0 : p.block < h0.size) (q : SM h p x vs S) (t0 : To p 8 h0 x0 h x) (hr : RJ h v8 L0) (ho : ∀ b, v8.blk = some b → Out p x b ∧ b < h.size)
    (r : RIn n S0 S m gone [] L0) (hw : wch gone < 2 * n)
    (KE : ∀ h' x' vs' S', SM h' p x' vs' S' → To p 8 h0 x0 h' x' → RI n S0 S' → Wok n S' S'.wt → Proc S' (m + 1) none2 → S'.nxt = m + 1 → (∀ hd ∈ S'.hea, hd ≤ (m : Int)) → K1 (-1) h')
    (KB : ∀ (j : Nat) h' x' vs' S', SM h' p x' vs' S' → To p 8 h0 x0 h' x' → RI n S0 S' → j < S'.cls.length → S'.nxt = m + 1 → Bad n S' j → K0 (j : Int) h') :
    loop (fun (s0u2 : Int × Sl × Int) h0u6 (K0u2 : (Int × Sl × Int) → Heap → Prop) =>
      iteB (decide (s0u2.2.2 < ((v8.len : Nat) : Int))) (
       idxS v8 s0u2.2.2 1 fun a_11 =>
       Lift.load (Value.int .i64) a_11 h0u6 fun v_11 =>
       clause_ask (some p) v_11 gone h0u6 fun v_12 h0u7 =>
       seq (fun (K0u3 : Sl → Heap → Prop) =>
        iteB (v_12 != 1) (
         new [Value.int .i64 v_11] h0u7 fun a_12 h0u9 =>
         appendS 1 8 s0u2.2.1 (⟨some a_12, 1, 1⟩ : Sl) h0u9 fun v_14 h0u10 =>
         K0u3 v_14 h0u10
        ) (
         K0u3 s0u2.2.1 h0u7
        )
       ) (fun t0u1 h0u8 =>
        iteB (v_12 == 2) (
         nilChk (some p) fun a_13 =>
         Lift.load Sl.toV (a_13.add 1) h0u8 fun v_15 =>
         sliceOf v8 (some (IntKind.wrap .i64 (s0u2.2.2 + 1))) none none 1 fun v_16 =>
         nilChk (some p) fun a_14 =>
         Lift.load Sl.toV (a_14.add 1) h0u8 fun v_17 =>
         clause_watch gone h0u8 fun v_18 h0u11 =>
         (cell? h0u11 (a_13.add 1) = some (Sl.toV v_15)) ∧
         (cell? h0u11 (a_14.add 1) = some (Sl.toV v_17)) ∧
         clause_watch gone h0u11 fun v_19 h0u12 =>
         (cell? h0u12 (a_13.add 1) = some (Sl.toV v_15)) ∧
         (cell? h0u12 (a_14.add 1) = some (Sl.toV v_17)) ∧
         idxS v_17 v_19 1 fun a_15 =>
         Lift.load Sl.toV a_15 h0u12 fun v_20 =>
         new [Sl.toV t0u1, Sl.toV v_16, Sl.toV v_20] h0u12 fun a_16 h0u13 =>
         (cell? h0u13 (a_13.add 1) = some (Sl.toV v_15)) ∧
         slices_Concat_int_int (⟨some a_16, 3, 3⟩ : Sl) h0u13 fun v_22 h0u14 =>
         (cell? h0u14 (a_13.add 1) = some (Sl.toV v_15)) ∧
         idxS v_15 v_18 1 fun a_17 =>
         Lift.store a_17 (Sl.toV v_22) h0u14 fun h0u15 =>
         K0 v_11 h0u15
        ) (
         K0u2 (s0u2.1, t0u1, IntKind.wrap .i64 (s0u2.2.2 + 1)) h0u8
        )
       )
      ) (
       nilChk (some p) fun a_18 =>
       Lift.load Sl.toV (a_18.add 1) h0u6 fun v_23 =>
       nilChk (some p) fun a_19 =>
       Lift.load Sl.toV (a_19.add 1) h0u6 fun v_24 =>
       clause_watch gone h0u6 fun v_25 h0u16 =>
       (cell? h0u16 (a_18.add 1) = some (Sl.toV v_23)) ∧
       (cell? h0u16 (a_19.add 1) = some (Sl.toV v_24)) ∧
       clause_watch gone h0u16 fun v_26 h0u17 =>
       (cell? h0u17 (a_18.add 1) = some (Sl.toV v_23)) ∧
       (cell? h0u17 (a_19.add 1) = some (Sl.toV v_24)) ∧
       idxS v_24 v_26 1 fun a_20 =>
       Lift.load Sl.toV a_20 h0u17 fun v_27 =>
       appendS 1 8 s0u2.2.1 v_27 h0u17 fun v_28 h0u18 =>
       (cell? h0u18 (a_18.add 1) = some (Sl.toV v_23)) ∧
       idxS v_23 v_25 1 fun a_21 =>
       Lift.store a_21 (Sl.toV v_28) h0u18 fun h0u19 =>
       K1 s0u2.1 h0u19
      )
     ) (-1, Sl.nil, 0) h := by
  have hlen := hr.len
  have hgth := r.gth
  have hn := r.ri.t.nb
  refine loop.inv (fun (s : Int × Sl × Int) hh => s.1 = -1 ∧ ∃ (i : Nat) (x' : Nm → Sl) (vs' : Nm → List Value) (S' : SS) (ls : List Int), s.2.2 = (i : Int) ∧ i ≤ L0.length ∧ SM hh p x' vs' S' ∧ To p 8 h0 x0 hh x' ∧ To p 8 h x hh x' ∧ RIn n S0 S' m gone ls (L0.drop i) ∧
      Own toI 0 hh s.2.1 ls ∧ (∀ b, s.2.1.blk = some b → Out p x' b ∧ h0.size ≤ b ∧ h.size ≤ b) ∧ RJ hh v8 L0 ∧ (∀ b, v8.blk = some b → Out p x' b ∧ b < h.size)) (fun s _ => L0.length - s.2.2.toNat)
    ⟨rfl, 0, x, vs, S, [], rfl, Nat.zero_le _, q, t0, To.refl, by simpa using r, Own.nil, nofun, hr, ho⟩ ?_
  rintro ⟨bad, left, i0⟩ hh ⟨hbad, i, x', vs', S', ls, hi0, hi, q', t0', t', r', lo, lout, hr', ho'⟩
  dsimp only at hbad hi0 lo lout
  subst hbad hi0
  dsimp only
  rw [hlen]
  have hcn := r'.ri.t.cn
  have hll : ls.length + (L0.drop i).length ≤ 1073741824 := by
    have := r'.w.len hw
    simp only [if_true, List.length_append] at this
    omega
  have hsz := t'.size
  have hsz0 := t0'.size
  have hwl : wch gone < S'.wat.length := by rw [r'.ri.t.wn]; exact hw
  have bnd : Bnd S' := r'.ri.t.bnd r'.w (fun w => by
    by_cases e : w = wch gone
    · subst e; rw [r'.we]; simp
    · simp only [if_neg e]; omega)
  have hL : L0.length ≤ 1073741824 := by
    have := r.w.len hw
    simp only [if_true, List.nil_append] at this
    have := r.ri.t.cn
    omega
  refine ⟨fun hlt => ?_, fun hge => ?_⟩
  · simp only [decide_eq_true_eq] at hlt
    have hi' : i < L0.length := by omega
    have hdrop := List.drop_eq_getElem_cons hi'
    have hmem : L0[i] ∈ L0.drop i := by rw [hdrop]; exact List.mem_cons_self ..
    obtain ⟨j, hj, hje⟩ := r'.w.rng (wch gone) hw (L0[i]) (by simp only [if_true]; exact List.mem_append_right _ hmem)
    refine RJ.ld hr' (j := i) rfl hi' ?_
    rw [at_get hi', hje]
    have r2 : RIn n S0 S' m gone ls ((j : Int) :: L0.drop (i + 1)) := by rw [← hje, ← hdrop]; exact r'
    -- what is so behind the asking, where the clause stays
    have stay : ∀ (v12 : Int) {h9 : Heap} {x9 : Nm → Sl} {vs9 : Nm → List Value} {S9 : SS}, v12 ≠ 1 → SM h9 p x9 vs9 S9 → To p 8 hh x' h9 x9 → ∀ {J : Sl → Heap → Prop},
        (∀ left' h11, SM h11 p x9 vs9 S9 → To p 8 h0 x0 h11 x9 → To p 8 h x h11 x9 → Own toI 0 h11 left' (ls ++ [(j : Int)]) → (∀ b, left'.blk = some b → Out p x9 b ∧ h0.size ≤ b ∧ h.size ≤ b) → RJ h11 v8 L0 → (∀ b, v8.blk = some b → Out p x9 b ∧ b < h.size) → J left' h11) →
        iteB (v12 != 1) (new [Value.int .i64 (j : Int)] h9 fun a_12 h0u9 => appendS 1 8 left (⟨some a_12, 1, 1⟩ : Sl) h0u9 fun v_14 h0u10 => J v_14 h0u10) (J left h9) := by
      intro v12 h9 x9 vs9 S9 hv q9 t9 J HJ
      refine ⟨fun _ => ?_, fun hc => ?_⟩
      · have lo9 := Own.out lo t9 (fun b hb => (lout b hb).1)
        have hr9 := R.to hr' t9 (fun b hb => (ho' b hb).1)
        have out9 : ∀ b, left.blk = some b → Out p x9 b := fun b hb => t9.out (lo.lt hb).2 (lout b hb).1
        have vout9 : ∀ b, v8.blk = some b → Out p x9 b ∧ b < h.size := fun b hb => ⟨t9.out (by have := (ho' b hb).2; omega) (ho' b hb).1, (ho' b hb).2⟩
        have s9 := t9.size
        refine newJ fun h10 hrow e10 hs10 => ?_
        have lo10 := lo9.ext e10
        refine Own.append lo10 (Nat.zero_le _) hrow (fun _ => rfl) (by simp; rw [hdrop] at hll; simp at hll; omega) fun left' h11 lo11 k11 hb11 => ?_
        have q10 := q9.ext e10
        have q11 := q10.keepO k11 (fun b hb => out9 b hb)
        have hfresh : ∀ b, left'.blk = some b → left.blk = some b ∨ h10.size ≤ b := fun b hb => by
          rcases hb11 with g | ⟨g, _⟩
          · exact .inl (by rw [← g]; exact hb)
          · rw [g] at hb; injection hb with hb; exact .inr (by omega)
        have e10s := e10.size
        have tt0 : To p 8 h0 x0 h11 x9 := by
          refine To.step ((t0'.trans t9).trans (q9.toExt e10)) k11 hp0 (fun b hb => .inr (lout b hb).2.1) (fun i b hb => .inl ⟨i, hb⟩)
        have tt : To p 8 h x h11 x9 := by
          refine To.step ((t'.trans t9).trans (q9.toExt e10)) k11 q.plt (fun b hb => .inr (lout b hb).2.2) (fun i b hb => .inl ⟨i, hb⟩)
        refine HJ left' h11 q11 tt0 tt lo11 (fun b hb => ?_) ?_ vout9
        · rcases hfresh b hb with g | g
          · exact ⟨out9 b g, (lout b g).2⟩
          · refine ⟨⟨fun e => ?_, fun i hi => ?_⟩, by omega, by omega⟩
            · have := q10.plt; omega
            · have := q10.ns.lt hi; omega
        · exact R.keep (R.ext hr9 e10) k11 (fun a ha e => by
            have h1 := (lout _ e.symm).2.2
            have h2 := (ho' a.block (blk_of ha)).2
            omega)
      · exfalso
        have : v12 = 1 := by simpa using hc
        exact hv this
    have go : ∀ {h11 : Heap} {left' : Sl} {x9 : Nm → Sl} {vs9 : Nm → List Value} {S9 : SS} {ls' : List Int}, SM h11 p x9 vs9 S9 → To p 8 h0 x0 h11 x9 → To p 8 h x h11 x9 → RIn n S0 S9 m gone ls' (L0.drop (i + 1)) → Own toI 0 h11 left' ls' → (∀ b, left'.blk = some b → Out p x9 b ∧ h0.size ≤ b ∧ h.size ≤ b) → RJ h11 v8 L0 → (∀ b, v8.blk = some b → Out p x9 b ∧ b < h.size) →
        ((-1 : Int) = -1 ∧ ∃ (i1 : Nat) (x' : Nm → Sl) (vs' : Nm → List Value) (S' : SS) (ls : List Int), IntKind.wrap .i64 ((i : Int) + 1) = (i1 : Int) ∧ i1 ≤ L0.length ∧ SM h11 p x' vs' S' ∧ To p 8 h0 x0 h11 x' ∧ To p 8 h x h11 x' ∧ RIn n S0 S' m gone ls (L0.drop i1) ∧
          Own toI 0 h11 left' ls ∧ (∀ b, left'.blk = some b → Out p x' b ∧ h0.size ≤ b ∧ h.size ≤ b) ∧ RJ h11 v8 L0 ∧ (∀ b, v8.blk = some b → Out p x' b ∧ b < h.size)) ∧ L0.length - (IntKind.wrap .i64 ((i : Int) + 1)).toNat < L0.length - ((i : Int)).toNat := by
      intro h11 left' x9 vs9 S9 ls' A B C D E F G H
      rw [w64 (by omega) (by omega)]
      exact ⟨⟨rfl, i + 1, x9, vs9, S9, ls', by omega, by omega, A, B, C, D, E, F, G, H⟩, by omega⟩
    refine ask_spec q' r'.ri.t bnd hj (fun hv h9 vs9 q9 t9 => ?_) (fun _ k hk2 hkl hv h9 x9 vs9 q9 t9 => ?_) (fun hv hall h9 x9 vs9 q9 t9 => ?_) (fun hv hall h9 vs9 q9 t9 => ?_)
    · refine seq.cut (fun (l' : Sl) h11 => SM h11 p x' vs9 (setL S' j (fr S' j gone)) ∧ To p 8 h0 x0 h11 x' ∧ To p 8 h x h11 x' ∧ Own toI 0 h11 l' (ls ++ [(j : Int)]) ∧ (∀ b, l'.blk = some b → Out p x' b ∧ h0.size ≤ b ∧ h.size ≤ b) ∧ RJ h11 v8 L0 ∧ (∀ b, v8.blk = some b → Out p x' b ∧ b < h.size))
        (stay 0 (by decide) q9 t9 fun l' h11 A B C D E F G => ⟨A, B, C, D, E, F, G⟩) ?_
      rintro l' h11 ⟨A, B, C, D, E, F, G⟩
      exact ⟨fun hc => by simp at hc, fun _ => go A B C (r2.kept hj hv) D E F G⟩
    · refine seq.cut (fun (l' : Sl) h11 => l' = left ∧ h11 = h9) ⟨fun hc => by simp at hc, fun _ => ⟨rfl, rfl⟩⟩ ?_
      rintro l' h11 ⟨rfl, rfl⟩
      refine ⟨fun hc => by simp at hc, fun _ => ?_⟩
      have lo9 := Own.out lo t9 (fun b hb => (lout b hb).1)
      have hr9 := R.to hr' t9 (fun b hb => (ho' b hb).1)
      refine go q9 (t0'.trans t9) (t'.trans t9) (r2.moved hj hk2 hkl hv) lo9 (fun b hb => ⟨t9.out (lo.lt hb).2 (lout b hb).1, (lout b hb).2⟩) hr9 (fun b hb => ⟨t9.out (by have := (ho' b hb).2; omega) (ho' b hb).1, (ho' b hb).2⟩)
    · refine seq.cut (fun (l' : Sl) h11 => SM h11 p x9 vs9 (putS (setL S' j (fr S' j gone)) (atI (fr S' j gone) 0) j) ∧ To p 8 h0 x0 h11 x9 ∧ To p 8 h x h11 x9 ∧ Own toI 0 h11 l' (ls ++ [(j : Int)]) ∧ (∀ b, l'.blk = some b → Out p x9 b ∧ h0.size ≤ b ∧ h.size ≤ b) ∧ RJ h11 v8 L0 ∧ (∀ b, v8.blk = some b → Out p x9 b ∧ b < h.size))
        (stay 0 (by decide) q9 t9 fun l' h11 A B C D E F G => ⟨A, B, C, D, E, F, G⟩) ?_
      rintro l' h11 ⟨A, B, C, D, E, F, G⟩
      exact ⟨fun hc => by simp at hc, fun _ => go A B C (r2.unit hj hv hall) D E F G⟩
    · refine seq.cut (fun (l' : Sl) h11 => SM h11 p x' vs9 (setL S' j (fr S' j gone)) ∧ To p 8 h0 x0 h11 x' ∧ To p 8 h x h11 x' ∧ Own toI 0 h11 l' (ls ++ [(j : Int)]) ∧ (∀ b, l'.blk = some b → Out p x' b ∧ h0.size ≤ b ∧ h.size ≤ b) ∧ RJ h11 v8 L0 ∧ (∀ b, v8.blk = some b → Out p x' b ∧ b < h.size))
        (stay 2 (by decide) q9 t9 fun l' h11 A B C D E F G => ⟨A, B, C, D, E, F, G⟩) ?_
      rintro l' h11 ⟨A, B, C, D, E, F, G⟩
      refine ⟨fun _ => ?_, fun hc => by simp at hc⟩
      obtain ⟨f, g1, hm, hp⟩ := r2.pair hj
      have r1 : ∀ {hz : Heap} {vz}, SM hz p x' vz (setL S' j (fr S' j gone)) → cell? hz (p.add 1) = some (Sl.toV (x' .wat)) := fun qz => (qz.root 1 (by decide)).1
      rw [w64 (by omega) (by omega)]
      refine A.ld1 ?_
      refine R.drop F (j := i + 1) (by omega) (by omega) fun v16 h16 hb16 => A.ld1 ?_
      have hwl9 : wch gone < (setL S' j (fr S' j gone)).wat.length := hwl
      refine watch_spec hgth hn ⟨r1 A, r1 A, watch_spec hgth hn ⟨r1 A, r1 A, A.watLd rfl hwl9 ?_⟩⟩
      intro T
      have e12 := Ext.push h11 (.cells [Sl.toV l', Sl.toV v16, Sl.toV (x' (.w (wch gone)))].toArray T (0, 0))
      have hrow := (Own.new (toV := Sl.toV) (h := h11) (ys := [l', v16, x' (.w (wch gone))]) (cs := [Sl.toV l', Sl.toV v16, Sl.toV (x' (.w (wch gone)))]) (T := T) rfl).r
      have hs12 : (h11.push (.cells [Sl.toV l', Sl.toV v16, Sl.toV (x' (.w (wch gone)))].toArray T (0, 0)) : Heap).size = h11.size + 1 := by simp
      generalize (h11.push (.cells [Sl.toV l', Sl.toV v16, Sl.toV (x' (.w (wch gone)))].toArray T (0, 0)) : Heap) = h12 at *
      have q12 := A.ext e12
      refine ⟨r1 q12, ?_⟩
      have hwe : (setL S' j (fr S' j gone)).wt (wch gone) = [] := r'.we
      have hwr := (q12.wt (wch gone)).r
      rw [hwe] at hwr
      have hflat : ([ls ++ [(j : Int)], L0.drop (i + 1), []] : List (List Int)).flatten = ls ++ [(j : Int)] ++ L0.drop (i + 1) := by simp
      refine Concat_spec (ss := [l', v16, x' (.w (wch gone))]) (xss := [ls ++ [(j : Int)], L0.drop (i + 1), []]) hrow rfl (fun k h1 h2 => ?_) (by rw [hflat]; rw [hdrop] at hll; simp at hll ⊢; omega) (by simp) fun rr h13 o13 e13 => ?_
      · match k, h1 with
        | 0, _ => exact (D.ext e12).r
        | 1, _ => exact R.ext h16 e12
        | 2, _ => exact hwr
      rw [hflat] at o13
      have q13 := q12.ext e13
      refine ⟨r1 q13, ?_⟩
      have hrb : ∀ b, rr.blk = some b → Out p x' b := fun b hb => ⟨fun e => by have := q12.plt; have := (o13.lt hb).1; omega, fun i hi => by have := q12.ns.lt hi; have := (o13.lt hb).1; omega⟩
      refine q13.putW rfl hwl9 (o13.mono (Nat.zero_le _)) hrb fun h14 vs14 q14 k14 => ?_
      have s11 := B.size
      have s12 := e12.size
      have s13 := e13.size
      have ri9 := (r2.ri.setL hj f hm).setWt (wch gone) (ls ++ [(j : Int)] ++ L0.drop (i + 1))
      have tt0 : To p 8 h0 x0 h14 (upd x' (.w (wch gone)) rr) := by
        refine To.step ((B.trans (A.toExt e12)).trans (q12.toExt e13)) k14 hp0 (fun b hb => .inl ⟨.wat, hb, fun e => q13.pn .wat (by rw [hb, e])⟩) (fun i b hb => ?_)
        by_cases e : i = .w (wch gone)
        · subst e; rw [upd_at] at hb; have := (o13.lt hb).1; exact .inr (by omega)
        · rw [upd_ne e] at hb; exact .inl ⟨i, hb⟩
      have hcl : (setWt (setL S' j (fr S' j gone)) (wch gone) (ls ++ [(j : Int)] ++ L0.drop (i + 1))).cls.length = S'.cls.length := setL_clen _ _ _
      have W := r2.w.swap hj hp
      have P := r2.p.swap hj hp
      refine KB j h14 _ vs14 _ q14 tt0 ri9 (by rw [hcl]; exact hj) r'.nx ⟨ri9.t, ?_, ?_, by show 0 < S'.nxt; rw [r'.nx]; omega, ?_, ?_⟩
      · refine ⟨fun w hw' y hy => ?_, fun w hw' i1 hi1 => ?_⟩
        · have := W.rng w hw' y (by
            rw [setWt_wt _ _ _ _ hwl9] at hy
            by_cases e : w = wch gone
            · rw [if_pos e] at hy; simp only [if_pos e]; simpa using hy
            · rw [if_neg e] at hy; simp only [if_neg e]; exact hy)
          exact this
        · have h3 := W.cnt w hw' i1 hi1
          rw [setWt_wt _ _ _ _ hwl9]
          refine Eq.trans ?_ h3
          by_cases e : w = wch gone
          · rw [if_pos e]; simp only [if_pos e]; simp
          · rw [if_neg e]; simp only [if_neg e]; rfl
      · intro i1 hi1 k hk _
        have hk : k < S'.nxt - 1 := hk
        rw [r'.nx] at hk
        exact P i1 hi1 k (by omega) (fun h => by omega)
      · intro hd hh
        show hd ≤ ((S'.nxt - 1 : Nat) : Int)
        rw [r'.nx]
        exact r'.hd hd hh
      · intro l hl
        have hl2 : l ∈ fr S' j gone := by
          have e : ((setWt (setL S' j (fr S' j gone)) (wch gone) (ls ++ [(j : Int)] ++ L0.drop (i + 1))).cl j).lits = fr S' j gone := by
            show ((setL S' j (fr S' j gone)).cl j).lits = _
            rw [setL_cl _ _ _ _ hj, if_pos rfl]
          rw [e] at hl; exact hl
        show vl S'.val l = -1
        obtain ⟨k, hk, e⟩ := mem_at hl2
        by_cases e0 : k = 0
        · subst e0; rw [← e]; exact hv
        · by_cases e1 : k = 1
          · subst e1
            rw [← e, g1]
            refine r'.ri.t.vlf_iff.2 ?_
            rw [← r'.ga]; exact at_mem r'.mt
          · rw [← e]; exact hall k (by omega) (by rw [fr_len] at hk; exact hk)
  · simp only [decide_eq_false_iff_not] at hge
    have hi2 : i = L0.length := by omega
    subst hi2
    rw [List.drop_length] at r'
    have r1 : ∀ {hz : Heap} {vz}, SM hz p x' vz S' → cell? hz (p.add 1) = some (Sl.toV (x' .wat)) := fun qz => (qz.root 1 (by decide)).1
    refine q'.ld1 (q'.ld1 ?_)
    refine watch_spec hgth hn ⟨r1 q', r1 q', watch_spec hgth hn ⟨r1 q', r1 q', q'.watLd rfl hwl ?_⟩⟩
    have hwr := (q'.wt (wch gone)).r
    rw [r'.we] at hwr
    refine Own.append lo (Nat.zero_le _) hwr (fun _ => rfl) (by simp at hll ⊢; omega) fun l' h11 lo11 k11 hb11 => ?_
    rw [List.append_nil] at lo11
    have q11 := q'.keepO k11 (fun b hb => (lout b hb).1)
    refine ⟨r1 q11, ?_⟩
    have lout' : ∀ b, l'.blk = some b → Out p x' b ∧ h0.size ≤ b := fun b hb => by
      rcases hb11 with g | ⟨g, _⟩
      · have := lout b (by rw [← g]; exact hb); exact ⟨this.1, this.2.1⟩
      · rw [g] at hb; injection hb with hb
        exact ⟨⟨fun e => by have := q'.plt; omega, fun i hi => by have := q'.ns.lt hi; omega⟩, by omega⟩
    refine q11.putW rfl hwl lo11 (fun b hb => (lout' b hb).1) fun h14 vs14 q14 k14 => ?_
    have t11 : To p 8 h0 x0 h11 x' := To.step t0' k11 hp0 (fun b hb => .inr (lout b hb).2.1) (fun i b hb => .inl ⟨i, hb⟩)
    have tt0 : To p 8 h0 x0 h14 (upd x' (.w (wch gone)) l') := by
      refine To.step t11 k14 hp0 (fun b hb => .inl ⟨.wat, hb, fun e => q11.pn .wat (by rw [hb, e])⟩) (fun i b hb => ?_)
      by_cases e : i = .w (wch gone)
      · subst e; rw [upd_at] at hb; exact .inr (lout' b hb).2
      · rw [upd_ne e] at hb; exact .inl ⟨i, hb⟩
    refine KE h14 _ vs14 _ q14 tt0 (r'.ri.setWt _ _) ?_ ?_ r'.nx r'.hd
    · refine ⟨fun w hw' y hy => ?_, fun w hw' i1 hi1 => ?_⟩
      · have := r'.w.rng w hw' y (by
          rw [setWt_wt _ _ _ _ hwl] at hy
          by_cases e : w = wch gone
          · rw [if_pos e] at hy; simp only [if_pos e]; simpa using hy
          · rw [if_neg e] at hy; simp only [if_neg e]; exact hy)
        exact this
      · have h3 := r'.w.cnt w hw' i1 hi1
        rw [setWt_wt _ _ _ _ hwl]
        refine Eq.trans ?_ h3
        by_cases e : w = wch gone
        · rw [if_pos e]; simp only [if_pos e]; simp
        · rw [if_neg e]; simp only [if_neg e]
    · intro i1 hi1 k hk _
      exact r'.p i1 hi1 k hk (fun h => by have := h.2; simp at this)
set_option maxHeartbeats 400000 in
theorem Run_spec {Q : Int → Heap → Prop} (q : SM h p x vs S) (a : Ask n S) (hu : ∀ j, 0 ≤ (S.cl j).use ∧ (S.cl j).use ≤ 4611686018427387904)
    (K0 : ∀ h' x' vs' S', SM h' p x' vs' S' → To p 8 h x h' x' → RI n S S' → Ask n S' → S'.nxt = S'.tra.length → Q (-1) h')
    (K1 : ∀ (j : Nat) h' x' vs' S', j < S.cls.length → SM h' p x' vs' (setU S' j ((S.cl j).use + 1)) → To p 8 h x h' x' → RI n S S' → Bad n S' j → Q (j : Int) h') : clause_Run (some p) h Q := by
  refine seq.cut (fun (t : Int) h1 => (t = -1 ∧ ∃ x' vs' S', SM h1 p x' vs' S' ∧ To p 8 h x h1 x' ∧ RI n S S' ∧ Ask n S' ∧ S'.nxt = S'.tra.length) ∨ (∃ (j : Nat) (x' : Nm → Sl) (vs' : Nm → List Value) (S' : SS), t = (j : Int) ∧ j < S'.cls.length ∧ SM h1 p x' vs' S' ∧ To p 8 h x h1 x' ∧ RI n S S' ∧ Bad n S' j)) ?_ ?_
  · refine loop.inv (fun (s : Int) hh => s = -1 ∧ ∃ x' vs' S', SM hh p x' vs' S' ∧ To p 8 h x hh x' ∧ RI n S S' ∧ Ask n S') (fun _ hh => n - nxOf hh p) ⟨rfl, x, vs, S, q, To.refl, a.t.ri, a⟩ ?_
    rintro s hh ⟨rfl, x', vs', S', q', t', r', a'⟩
    have hnx := q'.nxOf
    have hb : Bnd S' := a'.t.bnd a'.w (fun w => Nat.le_refl _)
    have htl := a'.t.tlen
    have hn := a'.t.nb
    refine q'.ld7 (q'.ld5 ?_)
    rw [q'.tra.r.len]
    refine ⟨fun hlt => ?_, fun hge => ?_⟩
    · simp only [decide_eq_true_eq] at hlt
      have hlt' : S'.nxt < S'.tra.length := by omega
      refine q'.ld5 (q'.ld7 (RJ.ld q'.tra.r (j := S'.nxt) rfl hlt' ?_))
      rw [at_atI]
      have hth := (a'.t.tt _ (at_mem hlt')).1
      have hng : There n (- atI S'.tra S'.nxt) := hth.neg
      have hwr : IntKind.wrap .i64 (0 - atI S'.tra S'.nxt) = - atI S'.tra S'.nxt := by
        unfold There at hth
        rw [w64 (by omega) (by omega)]; omega
      rintro gone rfl
      rw [hwr]
      generalize hg : - atI S'.tra S'.nxt = gone at *
      refine q'.ld7 ?_
      rw [w64 (by omega) (by omega)]
      refine q'.setNxt (m := S'.nxt + 1) (by omega) fun h2 q2 t2 => ?_
      have hw : wch gone < 2 * n := wch_lt hng
      have hwl : wch gone < ({ S' with nxt := S'.nxt + 1 } : SS).wat.length := by show wch gone < S'.wat.length; rw [a'.t.wn]; exact hw
      refine q2.ld1 (watch_spec hng hn ⟨(q2.root 1 (by decide)).1, q2.watLd rfl hwl (q2.ld1 (watch_spec hng hn ⟨(q2.root 1 (by decide)).1, ?_⟩))⟩)
      refine q2.cutW rfl hwl fun h3 vs3 q3 k3 o3 out3 => ?_
      have t3 : To p 8 h x h3 (upd x' (.w (wch gone)) Sl.nil) := by
        refine To.step (t'.trans t2) k3 q.plt (fun b hb => .inl ⟨.wat, hb, fun e => q2.pn .wat (by rw [hb, e])⟩) (fun i b hb => ?_)
        by_cases e : i = .w (wch gone)
        · subst e; rw [upd_at] at hb; cases hb
        · rw [upd_ne e] at hb; exact .inl ⟨i, hb⟩
      have tok2 : Tok n { S' with nxt := S'.nxt + 1 } := { a'.t with nx := by show S'.nxt + 1 ≤ S'.tra.length; omega }
      have ri2 : RI n S { S' with nxt := S'.nxt + 1 } := ⟨tok2, r'.cl, r'.sl, r'.lu, r'.der, r'.pre, r'.hea, r'.why⟩
      have hwt : ∀ w, (setWt { S' with nxt := S'.nxt + 1 } (wch gone) []).wt w = if w = wch gone then [] else S'.wt w := fun w => by rw [setWt_wt _ _ _ _ hwl]; rfl
      refine round_spec (K0 := fun (t : Int) h1 => (t = -1 ∧ ∃ x' vs' S', SM h1 p x' vs' S' ∧ To p 8 h x h1 x' ∧ RI n S S' ∧ Ask n S' ∧ S'.nxt = S'.tra.length) ∨ (∃ (j : Nat) (x' : Nm → Sl) (vs' : Nm → List Value) (S' : SS), t = (j : Int) ∧ j < S'.cls.length ∧ SM h1 p x' vs' S' ∧ To p 8 h x h1 x' ∧ RI n S S' ∧ Bad n S' j)) (K1 := fun (s : Int) h4 => (s = -1 ∧ ∃ x' vs' S', SM h4 p x' vs' S' ∧ To p 8 h x h4 x' ∧ RI n S S' ∧ Ask n S') ∧ n - nxOf h4 p < n - nxOf hh p) (S0 := S) (m := S'.nxt) (L0 := S'.wt (wch gone)) q.plt q3 t3 o3.r (fun b hb => ⟨out3 b hb, (o3.lt hb).2⟩) ⟨ri2.setWt _ _, rfl, hlt', (by show atI S'.tra S'.nxt = _; omega), hng, ?_, by rw [hwt, if_pos rfl], ?_, a'.hd⟩ hw ?_ ?_
      · refine ⟨fun w hw' y hy => ?_, fun w hw' j hj => ?_⟩
        · refine a'.w.rng w hw' y ?_
          by_cases e : w = wch gone
          · simp only [if_pos e] at hy; rw [e]; simpa using hy
          · simp only [if_neg e] at hy; rw [hwt, if_neg e] at hy; exact hy
        · refine Eq.trans ?_ (a'.w.cnt w hw' j hj)
          by_cases e : w = wch gone
          · simp only [if_pos e]; rw [e]; simp
          · simp only [if_neg e]; rw [hwt, if_neg e]
      · intro j hj k hk hex
        have hj' : j < S'.cls.length := hj
        by_cases e : k = S'.nxt
        · subst e
          -- a clause that doesn't watch it
          have hno : ¬ watches S' j (wch gone) := fun hwt2 => by
            have := a'.w.cnt (wch gone) hw j hj'
            rw [if_pos hwt2] at this
            exact hex ⟨rfl, List.count_pos_iff.1 (by omega)⟩
          have e0 : ∀ u, lit (setWt { S' with nxt := S'.nxt + 1 } (wch gone) []) j u = lit S' j u := fun u => rfl
          refine ⟨fun e1 => ?_, fun e1 => ?_⟩
          · exfalso
            have e2 : atI S'.tra S'.nxt = - lit S' j 0 := e1
            exact hno (.inl (by congr 1; omega))
          · exfalso
            have e2 : atI S'.tra S'.nxt = - lit S' j 1 := e1
            exact hno (.inr (by congr 1; omega))
        · exact a'.p j hj' k (by omega) id
      · intro h9 x9 vs9 S9 q9 t9 ri9 w9 p9 nx9 hd9
        refine ⟨⟨rfl, x9, vs9, S9, q9, t9, ri9, ⟨ri9.t, w9, by rw [nx9]; exact p9, fun hd hh => by rw [nx9]; have := hd9 hd hh; omega⟩⟩, ?_⟩
        rw [q9.nxOf, hnx, nx9]; omega
      · intro j h9 x9 vs9 S9 q9 t9 ri9 hj9 _ bad9
        exact .inr ⟨j, x9, vs9, S9, rfl, hj9, q9, t9, ri9, bad9⟩
    · simp only [decide_eq_false_iff_not] at hge
      have := a'.t.nx
      exact .inl ⟨rfl, x', vs', S', q', t', r', a', by omega⟩
  · rintro t h1 hcase
    rcases hcase with ⟨rfl, x', vs', S', q', t', r', a', hnx⟩ | ⟨j, x', vs', S', rfl, hj, q', t', r', bad⟩
    · refine seq.cut (fun (_ : Unit) h2 => h2 = h1) ⟨fun hc => by simp at hc, fun _ => rfl⟩ ?_
      rintro _ h2 rfl
      exact K0 h2 x' vs' S' q' t' r' a' hnx
    · refine seq.cut (fun (_ : Unit) h2 => ∃ vs2, SM h2 p x' vs2 (setU S' j ((S.cl j).use + 1)) ∧ To p 8 h x h2 x') ⟨fun _ => ?_, fun hc => ?_⟩ ?_
      · refine q'.ld0 (q'.clsAt rfl hj fun a ha _ _ hc => ⟨_, hc, ?_⟩)
        have hus := (r'.lu j).2
        have := hu j
        dsimp only
        rw [hus, w64 (by omega) (by omega)]
        refine q'.useAt hj rfl fun h2 vs2 q2 t2 => ⟨vs2, q2, t'.trans t2⟩
      · exfalso
        simp at hc
      · rintro _ h2 ⟨vs2, q2, t2⟩
        exact K1 j h2 x' vs2 S' (by rw [← r'.cl]; exact hj) q2 t2 r' bad
end Go.Sh
