/-
  Laws that the proof of this claim's statement leans on, each proved under the conditions that it states.
-/
import Derived.Test.YtgnojmbjepffiaaSpD
import Derived.Test.YtgnojmbjepffiaaFwF
set_option linter.unusedVariables false
set_option linter.unusedSimpArgs false
namespace Go.Sh
open Go Go.Lift Go.Cla
variable {h h' g0 h0 h1 h2 : Heap} {p p' : Addr} {x x' x1 x2 : Nm → Sl} {vs vs' : Nm → List Value} {S S0 T : SS} {n N : Nat}

/-- More memory: what was there is as it was, but for what lies behind a mark. -/
theorem ext_of_to (e : Ext h0 h) (t : To p n h x h' x1) (hp : h0.size ≤ p.block) (hx : ∀ i b, (x i).blk = some b → h0.size ≤ b) : Ext h0 h' :=
  ⟨Nat.le_trans e.size t.size, fun b hb _ => (t.same b (Nat.lt_of_lt_of_le hb e.size) (by omega) (fun i hi => by have := hx i b hi; omega)).trans (e.same b hb (by simp))⟩
theorem far_of_to (t : To p n h x h' x1) (hh : h0.size ≤ h.size) (hx : ∀ i b, (x i).blk = some b → h0.size ≤ b) : ∀ i b, (x1 i).blk = some b → h0.size ≤ b := fun i b hb => by
  rcases t.foot i b hb with ⟨j, g⟩ | g
  · exact hx j b g
  · omega
theorem fits_12 : FitsL 2 [1, 2] := ⟨by decide, by decide, by decide⟩
theorem value_spec (q : SM h p x vs S) {l : Int} {Q : Int → Heap → Prop} (hn : S.val.length ≤ 1048576) (ht : Tri S.val) (K : ∀ h', Ext h h' → Q (vl S.val l) h') :
    loadS C_sl_sl_sl_sl_sl_sl_sl_i64 8 p h fun v => clause_Value (v.1, v.2.1, v.2.2.1, v.2.2.2.1, v.2.2.2.2.1, v.2.2.2.2.2.1, v.2.2.2.2.2.2.1, v.2.2.2.2.2.2.2) l h Q := by
  obtain ⟨a, ha, hk⟩ := q.value (l := l) hn ht K
  cases ha; exact hk
theorem speaks18uspec {Q : Bool → Heap → Prop} (K : ∀ h', Ext h h' → Q true h') : law18uspeaks h Q := by
  refine cNew_spec (N := 2) (by decide) fun t h1 x vs q1 => ?_
  refine new8 fun h2 T hb e2 hs2 => ?_
  refine lay8 q1 e2 hb (Nat.le_refl _) fun h3 q3 k3 => ?_
  have e03 : Ext h h3 := ⟨by have := q1.ext.size; have := e2.size; have := k3.size; omega, fun b hb _ => (k3.same b (by have := q1.ext.size; have := e2.size; omega) (by have := q1.ext.size; simp; omega)).trans ((q1.ext.trans e2).same b hb (by simp))⟩
  have hp0 : h.size ≤ h1.size := q1.ext.size
  intro T2
  have e4 := Ext.push h3 (.cells [Value.int .i64 1, Value.int .i64 2].toArray T2 (0, 0))
  have hrow := (Own.new (toV := toI) (h := h3) (ys := [1, 2]) (cs := [Value.int .i64 1, Value.int .i64 2]) (T := T2) rfl).r
  generalize (h3.push (.cells [Value.int .i64 1, Value.int .i64 2].toArray T2 (0, 0)) : Heap) = h4 at *
  have q4 := q3.ext e4
  have a0 : Ask 2 (emptyS 2) := empty_ask (by decide)
  have len2 : (emptyS 2).val.length = 2 := by decide
  refine cAdd_spec q4 (a0.t.bnd a0.w (fun w => Nat.le_refl _)) (by decide) (by decide) hrow (by decide) (fun hno => absurd (len2 ▸ fits_12) hno) fun _ h5 x5 vs5 q5 t5 => ?_
  have a1 : Ask 2 (addS (emptyS 2) [1, 2] false) := a0.add rfl fits_12 (by decide)
  have v1 : (addS (emptyS 2) [1, 2] false).val = [0, 0] := rfl
  refine Tell_spec q5 (a1.t.bnd a1.w (fun w => Nat.le_refl _)) a1.t.tri (by rw [a1.t.ln, a1.t.vn]) (by rw [a1.t.rn, a1.t.vn]) (fun hno => ?_) (fun _ hv => ?_) fun hth hv h6 x6 vs6 q6 t6 => ?_
  · exfalso
    rw [v1] at hno
    revert hno; decide
  · exfalso
    rw [v1] at hv
    revert hv; decide
  have a2 : Ask 2 (putS (addS (emptyS 2) [1, 2] false) (-1) (-1)) := a1.tell (by decide) hv
  have v2 : (putS (addS (emptyS 2) [1, 2] false) (-1) (-1)).val = [-1, 0] := rfl
  have t2 : (putS (addS (emptyS 2) [1, 2] false) (-1) (-1)).tra = [-1] := rfl
  have c2 : ∀ c, C0 (putS (addS (emptyS 2) [1, 2] false) (-1) (-1)) c → c = [1, 2] := by
    rintro c ⟨j, hj, rfl⟩
    have hj : j < 1 := hj
    have : j = 0 := by omega
    subst this; rfl
  have c2' : C0 (putS (addS (emptyS 2) [1, 2] false) (-1) (-1)) [1, 2] := ⟨0, by decide, rfl⟩
  have cl2 : (putS (addS (emptyS 2) [1, 2] false) (-1) (-1)).cls.length = 1 := rfl
  have u2 : ∀ j, 0 ≤ ((putS (addS (emptyS 2) [1, 2] false) (-1) (-1)).cl j).use ∧ ((putS (addS (emptyS 2) [1, 2] false) (-1) (-1)).cl j).use ≤ 4611686018427387904 := by
    intro j
    have : ((putS (addS (emptyS 2) [1, 2] false) (-1) (-1)).cl j).use = 0 := by
      show ((addS (emptyS 2) [1, 2] false).cl j).use = 0
      rw [addS_cl]; split
      · rfl
      · unfold SS.cl; simp [emptyS]
    omega
  generalize putS (addS (emptyS 2) [1, 2] false) (-1) (-1) = S2 at *
  have t06 : To ⟨h1.size, 0, none⟩ 8 h3 x h6 x6 := (q3.toExt e4).trans (t5.trans t6)
  have told1 : ∀ l, vl S2.val l = 1 → l = -1 := by
    intro l hl
    rw [v2] at hl
    have hth := vl_there (by rw [hl]; decide : vl [-1, 0] l ≠ 0)
    unfold There at hth
    simp only [List.length_cons, List.length_nil] at hth
    have : l = 1 ∨ l = 2 ∨ l = -1 ∨ l = -2 := by omega
    rcases this with g | g | g | g
    · subst g; revert hl; decide
    · subst g; revert hl; decide
    · exact g
    · subst g; revert hl; decide
  refine seq.cut (fun (b : Bool) hh => b = true ∧ Ext h hh) ⟨fun _ => ⟨fun _ => ⟨fun _ => ?_, fun hb => by simp at hb⟩, fun hb => absurd hb (by decide)⟩, fun hb => by simp at hb⟩ (fun t hh ⟨e, g⟩ => e ▸ K hh g)
  refine Run_spec q6 a2 u2 (fun h7 x7 vs7 S7 q7 t7 r7 a7 hx7 => ⟨fun _ => ?_, fun hb => by simp at hb⟩) (fun j h7 x7 vs7 S7 hj q7 t7 r7 bad => ?_)
  · have st := r7.stand a7 hx7 [1, 2] c2'
    have tl := r7.told a2.t (-1) (by rw [v2]; decide)
    have f1 : vl S7.val 1 = -1 := by have := vl_neg S7.val 1; rw [tl] at this; omega
    have f2 : vl S7.val 2 = 1 := by
      rcases st with ⟨l, hl, hv⟩ | ⟨l, hl, m, hm, hne, g2, g3⟩
      · simp only [List.mem_cons, List.not_mem_nil, or_false] at hl
        rcases hl with rfl | rfl
        · rw [f1] at hv; cases hv
        · exact hv
      · simp only [List.mem_cons, List.not_mem_nil, or_false] at hl hm
        rcases hl with rfl | rfl
        · rw [f1] at g2; cases g2
        · rcases hm with rfl | rfl
          · rw [f1] at g3; cases g3
          · exact absurd rfl hne
    have e7 : Ext h h7 := ext_of_to e03 (t06.trans t7) (by simpa using hp0) q1.fresh
    refine value_spec q7 (by rw [a7.t.vn]; decide) a7.t.tri fun h8 e8 => ⟨fun _ => ?_, fun hb => by rw [f2] at hb; simp at hb⟩
    have q8 := q7.ext e8
    refine ⟨_, (q8.root 4 (by decide)).1, ?_⟩
    have hlen : S7.rea.length = 2 := a7.t.rn
    refine RJ.ld q8.rea.r (j := 1) rfl (by omega) ?_
    obtain ⟨m, hm, hm2⟩ := mem_at (a7.t.vl_iff.1 f2)
    have hm1 : S2.tra.length ≤ m := by
      rw [t2]
      by_cases e : m = 0
      · exfalso
        obtain ⟨u, hu⟩ := r7.pre
        rw [e, hu, t2] at hm2
        have : atI ([-1] ++ u) 0 = -1 := rfl
        rw [this] at hm2; cases hm2
      · simp only [List.length_cons, List.length_nil]; omega
    obtain ⟨j, hj, hj2, _⟩ := r7.why.rs m hm1 hm
    rw [cl2] at hj
    rw [hm2] at hj2
    have : j = 0 := by omega
    subst this
    have hj2 : at0 S7.rea 1 = 0 := hj2
    rw [hj2]
    exact ⟨rfl, e7.trans e8⟩
  · exfalso
    obtain ⟨c, hc, hf⟩ := r7.bad (by rw [r7.cl]; exact hj) bad
    refine no_clash (C := C0 S2) (T := fun l => vl S2.val l = 1) (V := [-1, 1]) (W := S7.val) (fun c hc => ?_) (fun l hl => ?_) r7.derV hc hf
    · rw [c2 c hc]; exact .inl ⟨2, by simp, by decide⟩
    · rw [told1 l hl]; decide
end Go.Sh

namespace Go.Sh
open Go Go.Lift Go.Cla
variable {h h' h0 h1 h2 : Heap} {p p' : Addr} {x x' x1 x2 : Nm → Sl} {vs vs' vs1 : Nm → List Value} {S S0 T S1 : SS} {n N m : Nat}

/-! ### Rows of rows -/
structure RR (h : Heap) (s : Sl) (ss : List Sl) (xss : List (List Int)) : Prop where
  r : R Sl.toV h s ss
  len : ss.length = xss.length
  i : ∀ i (h1 : i < ss.length) (h2 : i < xss.length), RJ h ss[i] xss[i]
theorem RR.ext {s : Sl} {ss : List Sl} {xss : List (List Int)} (q : RR h s ss xss) (e : Ext h h') : RR h' s ss xss := ⟨R.ext q.r e, q.len, fun i h1 h2 => R.ext (q.i i h1 h2) e⟩
theorem RR.ld {s : Sl} {ss : List Sl} {xss : List (List Int)} (q : RR h s ss xss) {i : Int} {j : Nat} {k : Sl → Prop} (hij : i = (j : Int)) (hj : j < xss.length) (K : ∀ v, RJ h v (xss[j]) → k v) : idxS s i 1 fun a => Lift.load Sl.toV a h k :=
  R.ld2 q.r hij (by rw [q.len]; exact hj) (K _ (q.i j (by rw [q.len]; exact hj) hj))
theorem Great18uspec {s : Sl} {ss : List Sl} {xss : List (List Int)} {Q : Bool → Heap → Prop} (q : RR h s ss xss) (K : ∀ b, (b = false → xss.length ≤ 60 ∧ ∀ i (hi : i < xss.length), (xss[i]).length ≤ 20) → Q b h) : law18uGreat s h Q := by
  have hl : s.len = xss.length := by rw [q.r.len, q.len]
  refine ⟨fun _ => K true nofun, fun hle => ?_⟩
  simp only [gt_iff_lt, decide_eq_false_iff_not] at hle
  rw [hl] at hle ⊢
  refine loop.inv (fun (s0 : Int) hh => hh = h ∧ ∃ i : Nat, s0 = (i : Int) ∧ i ≤ xss.length ∧ ∀ j (hj : j < xss.length), j < i → (xss[j]).length ≤ 20) (fun s0 _ => xss.length - s0.toNat) ⟨rfl, 0, rfl, Nat.zero_le _, fun j _ hj => absurd hj (by omega)⟩ ?_
  rintro s0 hh ⟨rfl, i, rfl, hi, hall⟩
  refine ⟨fun hlt => ?_, fun hge => ?_⟩
  · simp only [decide_eq_true_eq] at hlt
    refine q.ld (j := i) rfl (by omega) fun v hv => ?_
    rw [hv.len]
    refine ⟨fun _ => K true nofun, fun h20 => ?_⟩
    simp only [gt_iff_lt, decide_eq_false_iff_not] at h20
    rw [w64 (by omega) (by omega)]
    refine ⟨⟨rfl, i + 1, by omega, by omega, fun j hj hji => ?_⟩, by omega⟩
    by_cases e : j = i
    · subst e; omega
    · exact hall j hj (by omega)
  · simp only [decide_eq_false_iff_not] at hge
    exact K false fun _ => ⟨by omega, fun i hi => hall i hi (by omega)⟩
theorem SameInts_spec {s t : Sl} {xs : List Int} {Q : Bool → Heap → Prop} (hs : RJ h s xs) (ht : RJ h t xs) (hn : xs.length ≤ 1048576) (K : Q true h) : ref18uSameInts s t h Q := by
  have hl := hs.len
  have hl2 := ht.len
  refine ⟨fun hne => absurd hne (by rw [hl, hl2]; simp), fun _ => ?_⟩
  rw [hl]
  refine loop.inv (fun (s0 : Int) hh => hh = h ∧ ∃ i : Nat, s0 = (i : Int) ∧ i ≤ xs.length) (fun s0 _ => xs.length - s0.toNat) ⟨rfl, 0, rfl, Nat.zero_le _⟩ ?_
  rintro s0 hh ⟨rfl, i, rfl, hi⟩
  refine ⟨fun hlt => ?_, fun _ => K⟩
  simp only [decide_eq_true_eq] at hlt
  refine RJ.ld hs (j := i) rfl (by omega) (RJ.ld ht (j := i) rfl (by omega) ⟨fun hne => by simp at hne, fun _ => ?_⟩)
  rintro i' rfl
  rw [w64 (by omega) (by omega)]
  exact ⟨⟨rfl, i + 1, by omega, by omega⟩, by omega⟩

/-! ### Two searches -/
structure Two (h0 h : Heap) (p p' : Addr) (x x' : Nm → Sl) (vs vs' : Nm → List Value) (S T : SS) : Prop where
  q1 : SM h p x vs S
  q2 : SM h p' x' vs' T
  sep : Sep p x p' x'
  ext : Ext h0 h
  p1 : h0.size ≤ p.block
  p2 : h0.size ≤ p'.block
  f1 : ∀ i b, (x i).blk = some b → h0.size ≤ b
  f2 : ∀ i b, (x' i).blk = some b → h0.size ≤ b
theorem Two.symm (w : Two h0 h p p' x x' vs vs' S T) : Two h0 h p' p x' x vs' vs T S := ⟨w.q2, w.q1, w.sep.symm, w.ext, w.p2, w.p1, w.f2, w.f1⟩
theorem Two.left (w : Two h0 h p p' x x' vs vs' S T) (q : SM h' p x1 vs1 S1) (t : To p 8 h x h' x1) : Two h0 h' p p' x1 x' vs1 vs' S1 T :=
  ⟨q, w.q2.too t w.sep, w.sep.to w.q2 t, ext_of_to w.ext t w.p1 w.f1, w.p1, w.p2, far_of_to t w.ext.size w.f1, w.f2⟩
/-- A search to which nothing was told; its clauses. -/
structure Laid (n : Nat) (S : SS) (m : Nat) (P : List Int → Prop) : Prop where
  a : Ask n S
  nx : S.nxt = 0
  val : S.val = List.replicate n 0
  len : S.cls.length ≤ m
  use : ∀ j, (S.cl j).use = 0
  c : ∀ c, C0 S c ↔ P c
theorem empty_laid (hn : n ≤ 1048576) : Laid n (emptyS n) 0 (fun _ => False) :=
  ⟨empty_ask hn, rfl, rfl, by simp [emptyS], fun j => by unfold SS.cl; simp [emptyS], fun c => ⟨fun h => empty_C0 n c h, fun h => h.elim⟩⟩
theorem add_step {P : List Int → Prop} {s : Sl} {L : List Int} {lr : Bool} {Q : Int × Int → Heap → Prop} (q : SM h p x vs S) (l : Laid n S m P) (hm : m ≤ 1000000) (hr : RJ h s L) (hl : L.length ≤ 1048576)
    (K : ∀ r h' x' vs' S', SM h' p x' vs' S' → To p 8 h x h' x' → Laid n S' (m + 1) (fun c => P c ∨ (c = L ∧ FitsL n c)) → Q r h') : clause_Add (some p) s lr h Q := by
  have hvn := l.a.t.vn
  have hle := l.len
  refine cAdd_spec q (l.a.t.bnd l.a.w (fun w => Nat.le_refl _)) (by omega) (by rw [l.a.t.wn, hvn]) hr hl (fun hno h2 e2 => ?_) (fun hy h2 x2 vs2 q2 t2 => ?_)
  · rw [hvn] at hno
    refine K _ h2 x vs S (q.ext e2) (q.toExt e2) ⟨l.a, l.nx, l.val, by omega, l.use, fun c => (l.c c).trans ⟨.inl, fun h => ?_⟩⟩
    rcases h with h | ⟨rfl, h⟩
    · exact h
    · exact absurd h hno
  · rw [hvn] at hy
    refine K _ h2 x2 vs2 _ q2 t2 ⟨l.a.add l.nx hy (by omega), l.nx, l.val, by rw [addS_cls]; simp; omega, fun j => ?_, fun c => ?_⟩
    · rw [addS_cl]; split
      · rfl
      · exact l.use j
    · rw [C0uadd, l.c]
      constructor
      · rintro (h | rfl)
        · exact .inl h
        · exact .inr ⟨rfl, hy⟩
      · rintro (h | ⟨h, _⟩)
        · exact .inl h
        · exact .inr h
/-- A search to which something was told; its clauses, its truths. -/
structure Told (n : Nat) (S : SS) (P : List Int → Prop) (V : List Int) : Prop where
  a : Ask n S
  val : S.val = V
  use : ∀ j, (S.cl j).use = 0
  c : ∀ c, C0 S c ↔ P c
open Classical in
noncomputable def tellB (V : List Int) (l : Int) : Bool := decide (There V.length l ∧ vl V l ≠ -1)
open Classical in
noncomputable def tellV (V : List Int) (l : Int) : List Int := if There V.length l ∧ vl V l = 0 then V.set (tr l) (sg l) else V
theorem tell_step {P : List Int → Prop} {V : List Int} {l r : Int} {Q : Bool → Heap → Prop} (q : SM h p x vs S) (d : Told n S P V)
    (K : ∀ h' x' vs' S', SM h' p x' vs' S' → To p 8 h x h' x' → Told n S' P (tellV V l) → Q (tellB V l) h') : clause_Tell (some p) l r h Q := by
  have t := d.a.t
  have hv := d.val
  subst hv
  have tri := t.tri.vl l
  refine Tell_spec q (t.bnd d.a.w (fun w => Nat.le_refl _)) t.tri (by rw [t.ln, t.vn]) (by rw [t.rn, t.vn]) (fun hno h2 e2 => ?_) (fun hth hv h2 e2 => ?_) (fun hth hv h2 x2 vs2 q2 t2 => ?_)
  · have e1 : tellB S.val l = false := by
      unfold tellB
      rw [decide_eq_false_iff_not]
      rintro ⟨h1, h3⟩
      rcases hno with g | g
      · exact g h1
      · exact h3 g
    have e3 : tellV S.val l = S.val := by
      unfold tellV
      rw [if_neg]
      rintro ⟨h1, h3⟩
      rcases hno with g | g
      · exact g h1
      · rw [g] at h3; cases h3
    have := K h2 x vs S (q.ext e2) (q.toExt e2) ⟨d.a, e3.symm, d.use, d.c⟩
    rw [e1] at this; exact this
  · have e1 : tellB S.val l = true := by
      unfold tellB
      rw [decide_eq_true_eq]
      exact ⟨hth, by rw [hv]; decide⟩
    have e3 : tellV S.val l = S.val := by
      unfold tellV
      rw [if_neg]
      rintro ⟨h1, h3⟩
      rw [hv] at h3; cases h3
    have := K h2 x vs S (q.ext e2) (q.toExt e2) ⟨d.a, e3.symm, d.use, d.c⟩
    rw [e1] at this; exact this
  · have e1 : tellB S.val l = true := by
      unfold tellB
      rw [decide_eq_true_eq]
      exact ⟨hth, by rw [hv]; decide⟩
    have e3 : tellV S.val l = S.val.set (tr l) (sg l) := by
      unfold tellV
      rw [if_pos ⟨hth, hv⟩]
    have := K h2 x2 vs2 _ q2 t2 ⟨d.a.tell (by rw [← t.vn]; exact hth) hv, e3.symm, d.use, d.c⟩
    rw [e1] at this; exact this
end Go.Sh

namespace Go.Sh
open Go Go.Lift Go.Cla
variable {h h' h0 h1 h2 : Heap} {p p' : Addr} {x x' x1 x2 : Nm → Sl} {vs vs' vs1 : Nm → List Value} {S S0 T S1 : SS} {n N m : Nat}

def msk16 (v : Int) : Int := IntKind.wrap .i64 (((BitVec.ofInt (IntKind.bits .i64) v &&& BitVec.ofInt (IntKind.bits .i64) 65535).toNat : Int))
theorem msk16urng (v : Int) : 0 ≤ msk16 v ∧ msk16 v ≤ 65535 := by
  unfold msk16
  have h1 : (BitVec.ofInt (IntKind.bits .i64) v &&& BitVec.ofInt (IntKind.bits .i64) 65535).toNat ≤ 65535 := by
    rw [BitVec.toNat_and]
    exact Nat.and_le_right
  rw [w64 (by omega) (by omega)]
  omega
/-- The other row, as far as it is laid: each clause is, as literals, one of the row. -/
structure Oth (h0 h : Heap) (s : Sl) (os : List Sl) (xss yss : List (List Int)) (N K i : Nat) : Prop where
  own : Own Sl.toV h0.size h s os
  len : os.length = i
  ylen : yss.length = i
  rows : ∀ j (h1 : j < os.length) (h2 : j < yss.length), Own toI h0.size h os[j] yss[j] ∧ (∀ b, (os[j]).blk = some b → s.blk ≠ some b)
  sim : ∀ j (h2 : j < yss.length) (h3 : (j + K) % xss.length < xss.length), Sim N (xss[(j + K) % xss.length]) (yss[j])
theorem Oth.ext {s : Sl} {os : List Sl} {xss yss : List (List Int)} {K i : Nat} (q : Oth h0 h s os xss yss N K i) (e : Ext h h') : Oth h0 h' s os xss yss N K i :=
  ⟨q.own.ext e, q.len, q.ylen, fun j h1 h2 => ⟨(q.rows j h1 h2).1.ext e, (q.rows j h1 h2).2⟩, q.sim⟩
theorem Oth.rr {s : Sl} {os : List Sl} {xss yss : List (List Int)} {K i : Nat} (q : Oth h0 h s os xss yss N K i) : RR h s os yss :=
  ⟨q.own.r, by rw [q.len, q.ylen], fun j h1 h2 => (q.rows j h1 h2).1.r⟩
theorem addrow {α : Type} {toV : α → Value} {a : α} {k : Addr → Heap → Prop} (hone : one (toV a) = true) (K : ∀ h', R toV h' ⟨some ⟨h.size, 0, none⟩, 1, 1⟩ [a] → Ext h h' → h'.size = h.size + 1 → k ⟨h.size, 0, none⟩ h') : new [toV a] h k := by
  intro T
  have := (Own.new (toV := toV) (h := h) (ys := [a]) (cs := [toV a]) (T := T) rfl).r
  exact K _ this (Ext.push _ _) (by simp)

theorem build_spec {list : Sl} {ss : List Sl} {xss : List (List Int)} {K0 : Nat} {N : Nat} {Q : Sl × Int → Heap → Prop} (hl : RR h0 list ss xss) (hm : xss.length ≤ 60) (hx : ∀ i (hi : i < xss.length), (xss[i]).length ≤ 20) (hK : K0 < xss.length)
    (K : ∀ s os yss h', Oth h0 h' s os xss yss N K0 xss.length → Ext h0 h' → ∀ i, Q (s, i) h') :
    new [] h0 fun a h0u3 =>
     Let ((⟨some a, 0, 0⟩ : Sl) : Sl) fun other =>
     loop (fun (s0 : Sl × Int) h0u4 (K0u1 : (Sl × Int) → Heap → Prop) =>
      iteB (decide (s0.2 < ((list.len : Nat) : Int))) (
       new [] h0u4 fun a_1 h0u5 =>
       (((list.len : Nat) : Int) ≠ 0) ∧
       idxS list (Int.tmod (IntKind.wrap .i64 (s0.2 + (K0 : Int))) ((list.len : Nat) : Int)) 1 fun a_2 =>
       Lift.load Sl.toV a_2 h0u5 fun v_4 =>
       appendS 1 8 (⟨some a_1, 0, 0⟩ : Sl) v_4 h0u5 fun v_5 h0u6 =>
       Let (IntKind.wrap .i64 (((v_5.len : Nat) : Int) - 1) : Int) fun b =>
       loop (fun (s0u1 : Int × Int) h0u7 (K0u2 : (Int × Int) → Heap → Prop) =>
        iteB (decide (s0u1.1 < s0u1.2)) (
         idxS v_5 s0u1.2 1 fun a_3 =>
         Lift.load (Value.int .i64) a_3 h0u7 fun v_6 =>
         idxS v_5 s0u1.1 1 fun a_4 =>
         Lift.load (Value.int .i64) a_4 h0u7 fun v_7 =>
         idxS v_5 s0u1.1 1 fun a_5 =>
         Lift.store a_5 (Value.int .i64 v_6) h0u7 fun h0u8 =>
         idxS v_5 s0u1.2 1 fun a_6 =>
         Lift.store a_6 (Value.int .i64 v_7) h0u8 fun h0u9 =>
         Let (IntKind.wrap .i64 (s0u1.1 + 1) : Int) fun a_7 =>
         Let (IntKind.wrap .i64 (s0u1.2 - 1) : Int) fun b_1 =>
         K0u2 (a_7, b_1) h0u9
        ) (
         new [Sl.toV v_5] h0u7 fun a_8 h0u10 =>
         appendS 1 24 s0.1 (⟨some a_8, 1, 1⟩ : Sl) h0u10 fun v_9 h0u11 =>
         K0u1 (v_9, IntKind.wrap .i64 (s0.2 + 1)) h0u11
        )
       ) (0, b) h0u6
      ) (Q s0 h0u4)) (other, 0) h0u3 := by
  intro T
  have e1 : Ext h0 (h0.push (.cells ([] : List Value).toArray T (0, 0))) := Ext.push _ _
  have ho := Own.new (toV := Sl.toV) (h := h0) (ys := []) (cs := []) (T := T) rfl
  generalize (h0.push (.cells ([] : List Value).toArray T (0, 0)) : Heap) = h3 at *
  rintro other rfl
  have hll : list.len = xss.length := by rw [hl.r.len, hl.len]
  rw [hll]
  refine loop.inv (fun (s0 : Sl × Int) hh => ∃ (i : Nat) (os : List Sl) (yss : List (List Int)), s0.2 = (i : Int) ∧ i ≤ xss.length ∧ Oth h0 hh s0.1 os xss yss N K0 i ∧ Ext h0 hh) (fun s0 _ => xss.length - s0.2.toNat)
    ⟨0, [], [], rfl, Nat.zero_le _, ⟨ho, rfl, rfl, fun j h1 => absurd h1 (by simp), fun j h1 => absurd h1 (by simp)⟩, e1⟩ ?_
  rintro ⟨s, i0⟩ hh ⟨i, os, yss, rfl, hi, q, e⟩
  dsimp only at q ⊢
  refine ⟨fun hlt => ?_, fun hge => ?_⟩
  · simp only [decide_eq_true_eq] at hlt
    have hi' : i < xss.length := by omega
    intro T2
    have e2 : Ext hh (hh.push (.cells ([] : List Value).toArray T2 (0, 0))) := Ext.push _ _
    have ho2 := Own.new (toV := toI) (h := hh) (ys := []) (cs := []) (T := T2) rfl
    generalize (hh.push (.cells ([] : List Value).toArray T2 (0, 0)) : Heap) = h5 at *
    refine ⟨by omega, ?_⟩
    have hmod : Int.tmod (IntKind.wrap .i64 ((i : Int) + (K0 : Int))) ((xss.length : Nat) : Int) = (((i + K0) % xss.length : Nat) : Int) := by
      rw [w64 (by omega) (by omega), ← Int.natCast_add]
      exact Int.ofNat_tmod _ _
    rw [hmod]
    have hj : (i + K0) % xss.length < xss.length := Nat.mod_lt _ (by omega)
    refine (hl.ext (e.trans e2)).ld rfl hj fun v4 hv4 => ?_
    have hx20 := hx _ hj
    have hsim0 : Sim N (xss[(i + K0) % xss.length]) (xss[(i + K0) % xss.length]) := Sim.refl _ _
    generalize hxr : xss[(i + K0) % xss.length] = xr at *
    refine Own.append ho2 (by have := e2.size; omega) hv4 one_toI (by simp; omega) fun r h6 o6 k6 b6 => ?_
    rw [List.nil_append] at o6
    have e6 : Ext hh h6 := keepOwnX e2 ho2 (Nat.le_refl _) k6
    rintro b rfl
    rw [o6.r.len, w64 (n := (xr.length : Int) - 1) (by omega) (by omega)]
    refine loop.inv (fun (t : Int × Int) h7 => ∃ (a : Nat) (cur : List Int), t.1 = (a : Int) ∧ -1 ≤ t.2 ∧ t.2 < (xr.length : Int) ∧ Own toI hh.size h7 r cur ∧ Sim N xr cur ∧ Ext hh h7) (fun t _ => (t.2 + 1 - t.1).toNat)
      ⟨0, xr, rfl, by omega, by omega, o6, hsim0, e6⟩ ?_
    rintro ⟨a0, b0⟩ h7 ⟨a, cur, rfl, hb1, hb2, o7, sim7, e7⟩
    dsimp only at hb1 hb2 ⊢
    refine ⟨fun hlt2 => ?_, fun hge2 => ?_⟩
    · simp only [decide_eq_true_eq] at hlt2
      obtain ⟨bb, rfl⟩ : ∃ bb : Nat, b0 = (bb : Int) := ⟨b0.toNat, by omega⟩
      have hcl := sim7.len
      have ha : a < cur.length := by omega
      have hb : bb < cur.length := by omega
      refine RJ.ld o7.r (j := bb) rfl hb (RJ.ld o7.r (j := a) rfl ha ?_)
      rw [at_atI, at_atI]
      obtain ⟨ad, had, _⟩ := o7.r.get (i := a) ha
      refine ⟨ad, had, ⟨by omega, by rw [o7.r.len]; omega⟩, ?_⟩
      simp only [Int.toNat_natCast, Nat.mul_one]
      refine o7.store ha had (atI cur bb) fun h8 o8 k8 _ => ?_
      refine ⟨ad, had, ⟨by omega, by rw [o7.r.len]; omega⟩, ?_⟩
      simp only [Int.toNat_natCast, Nat.mul_one]
      refine o8.store (i := bb) (by simpa using hb) had (atI cur a) fun h9 o9 k9 _ => ?_
      rintro a7 rfl b1 rfl
      rw [w64 (by omega) (by omega), w64 (by omega) (by omega)]
      exact ⟨⟨a + 1, swapL cur a bb, by simp, by omega, by omega, o9, sim7.swap ha hb, keepOwnX e7 o7 (Nat.le_refl _) (k8.trans k9)⟩, by omega⟩
    · have q7 := q.ext e7
      have hrb : ∀ b, r.blk = some b → hh.size ≤ b ∧ b < h7.size := fun b hb => o7.lt hb
      refine addrow (toV := Sl.toV) rfl fun h10 hrow e10 hs10 => ?_
      have q10 := q7.ext e10
      refine Own.append q10.own (by have := (e.trans (e7.trans e10)).size; omega) hrow (fun _ => rfl) (by rw [q.len]; simp; omega) fun s' h11 o11 k11 b11 => ?_
      rw [w64 (n := (i : Int) + 1) (by omega) (by omega)]
      have hsb : ∀ b, s.blk = some b → b < hh.size := fun b hb => (q.own.lt hb).2
      have hs'b : ∀ b, s'.blk = some b → s.blk = some b ∨ h10.size ≤ b := fun b hb => by
        rcases b11 with g | ⟨g, _⟩
        · exact .inl (by rw [← g]; exact hb)
        · rw [g] at hb; injection hb with hb; exact .inr (by omega)
      refine ⟨⟨i + 1, os ++ [r], yss ++ [cur], by simp, by omega, ⟨o11, by simp [q.len], by simp [q.ylen], fun j g1 g2 => ?_, fun j g2 g3 => ?_⟩, keepOwnX ((e.trans e7).trans e10) q10.own (by omega) k11⟩, by omega⟩
      · by_cases ej : j = i
        · have c1 : (os ++ [r])[j] = r := by simp [ej, ← q.len]
          have c2 : (yss ++ [cur])[j] = cur := by simp [ej, ← q.ylen]
          rw [c1, c2]
          have o10 := (o7.mono e.size).ext e10
          refine ⟨o10.keep k11 (fun b hb e2 => ?_), fun b hb hb2 => ?_⟩
          · have := hsb b e2.symm; have := (hrb b hb).1; omega
          · rcases hs'b b hb2 with g | g
            · have := hsb b g; have := (hrb b hb).1; omega
            · have := (hrb b hb).2; have := e10.size; omega
        · have hjo : j < os.length := by simp at g1; have := q.len; omega
          have hjy : j < yss.length := by have := q.len; have := q.ylen; omega
          have c1 : (os ++ [r])[j] = os[j] := List.getElem_append_left hjo
          have c2 : (yss ++ [cur])[j] = yss[j] := List.getElem_append_left hjy
          rw [c1, c2]
          obtain ⟨r1, r2⟩ := q10.rows j hjo hjy
          refine ⟨r1.keep k11 (fun b hb e2 => r2 b hb e2.symm), fun b hb hb2 => ?_⟩
          rcases hs'b b hb2 with g | g
          · exact r2 b hb g
          · have := (r1.lt hb).2; omega
      · by_cases ej : j = i
        · have c2 : (yss ++ [cur])[j] = cur := by simp [ej, ← q.ylen]
          subst ej
          rw [c2, hxr]; exact sim7
        · have hjy : j < yss.length := by simp at g2; have := q.ylen; omega
          have c2 : (yss ++ [cur])[j] = yss[j] := List.getElem_append_left hjy
          rw [c2]
          exact q.sim j hjy g3
  · simp only [decide_eq_false_iff_not] at hge
    have : i = xss.length := by omega
    subst this
    exact K s os yss hh q e _
end Go.Sh

namespace Go.Sh
open Go Go.Lift Go.Cla
variable {h h' h0 h1 h2 : Heap} {p p' : Addr} {x x' x1 x2 : Nm → Sl} {vs vs' vs1 : Nm → List Value} {S S0 T S1 : SS} {n N m : Nat}

theorem Told.of {P : List Int → Prop} (l : Laid n S m P) : Told n S P (List.replicate n 0) := ⟨l.a, l.val, l.use, l.c⟩
theorem Laid.congr {P P' : List Int → Prop} (l : Laid n S m P) (e : ∀ c, P c ↔ P' c) : Laid n S m P' := ⟨l.a, l.nx, l.val, l.len, l.use, fun c => (l.c c).trans (e c)⟩
/-- The clauses of a row's first ones. -/
def Cs (N : Nat) (xss : List (List Int)) (i : Nat) (c : List Int) : Prop := (∃ j, ∃ hj : j < xss.length, j < i ∧ c = xss[j]) ∧ FitsL N c
theorem Cs.succ {xss : List (List Int)} {i : Nat} (hi : i < xss.length) (c : List Int) : (Cs N xss i c ∨ (c = xss[i] ∧ FitsL N c)) ↔ Cs N xss (i + 1) c := by
  unfold Cs
  constructor
  · rintro (⟨⟨j, hj, hji, rfl⟩, f⟩ | ⟨rfl, f⟩)
    · exact ⟨⟨j, hj, by omega, rfl⟩, f⟩
    · exact ⟨⟨i, hi, by omega, rfl⟩, f⟩
  · rintro ⟨⟨j, hj, hji, rfl⟩, f⟩
    by_cases e : j = i
    · subst e; exact .inr ⟨rfl, f⟩
    · exact .inl ⟨⟨j, hj, by omega, rfl⟩, f⟩
theorem Cs.zero {xss : List (List Int)} (c : List Int) : False ↔ Cs N xss 0 c := ⟨False.elim, fun ⟨⟨_, _, h, _⟩, _⟩ => by omega⟩
/-- One row's clauses, turned round and in another order, are the other one's. -/
theorem sim_cs {xss yss : List (List Int)} {K : Nat} (hlen : yss.length = xss.length) (hK : K < xss.length) (hs : ∀ j (h2 : j < yss.length) (h3 : (j + K) % xss.length < xss.length), Sim N (xss[(j + K) % xss.length]) (yss[j]))
    (hS : ∀ c, C0 S c ↔ Cs N xss xss.length c) (hT : ∀ c, C0 T c ↔ Cs N yss xss.length c) : SimC S T ∧ SimC T S := by
  constructor
  · intro c hc
    obtain ⟨⟨j, hj, _, rfl⟩, f⟩ := (hS c).1 hc
    -- the place in the other row
    have hi : (j + xss.length - K) % xss.length < yss.length := by rw [hlen]; exact Nat.mod_lt _ (by omega)
    have he : ((j + xss.length - K) % xss.length + K) % xss.length = j := by
      rw [Nat.mod_add_mod, show j + xss.length - K + K = j + xss.length by omega, Nat.add_mod_right, Nat.mod_eq_of_lt hj]
    have hs2 := hs _ hi (by rw [he]; exact hj)
    generalize (j + xss.length - K) % xss.length = i at *
    have hxe : xss[(i + K) % xss.length]'(by rw [he]; exact hj) = xss[j] := by congr 1
    rw [hxe] at hs2
    exact ⟨yss[i], (hT _).2 ⟨⟨i, hi, by omega, rfl⟩, hs2.fit.1 f⟩, hs2.mem⟩
  · intro c hc
    obtain ⟨⟨j, hj, _, rfl⟩, f⟩ := (hT c).1 hc
    have hi : (j + K) % xss.length < xss.length := Nat.mod_lt _ (by omega)
    have hs2 := hs j hj hi
    exact ⟨_, (hS _).2 ⟨⟨_, hi, hi, rfl⟩, hs2.fit.2 f⟩, fun l => (hs2.mem l).symm⟩

theorem seq_of {τ : Type} {m : (τ → Heap → Prop) → Prop} {k : τ → Heap → Prop} {J : τ → Heap → Prop} (h1 : m J) (h2 : ∀ t h, J t h → k t h) : seq m k := ⟨J, h1, h2⟩
theorem ClauseOrder_holds {nn turn : Int} {list told : Sl} {ss : List Sl} {xss : List (List Int)} {ts : List Int} {Q : Bool → Heap → Prop} (hl : RR h list ss xss) (ht : RJ h told ts) (K : ∀ h', Ext h h' → Q true h') : law18uClauseOrder nn list told turn h Q := by
  refine speaks18uspec fun h0 e0 => ⟨fun hb => by simp at hb, fun _ => ?_⟩
  have hl := hl.ext e0
  have ht := R.ext ht e0
  have hll : list.len = xss.length := by rw [hl.r.len, hl.len]
  refine seq.cut (fun (b : Bool) hh => hh = h0 ∧ (b = false → 0 ≤ nn ∧ nn ≤ 20 ∧ xss.length ≤ 60 ∧ (∀ i (hi : i < xss.length), (xss[i]).length ≤ 20) ∧ ts.length ≤ 30 ∧ 0 < xss.length)) ?_ ?_
  · refine ⟨fun _ => ⟨rfl, nofun⟩, fun h1 => ⟨fun _ => ⟨rfl, nofun⟩, fun h2 => ?_⟩⟩
    simp only [decide_eq_false_iff_not] at h1 h2
    refine Great18uspec hl fun b hb => ⟨fun _ => ⟨rfl, nofun⟩, fun hbf => ⟨fun _ => ⟨rfl, nofun⟩, fun h3 => ⟨rfl, fun h4 => ?_⟩⟩⟩
    simp only [decide_eq_false_iff_not] at h3
    rw [ht.len] at h3
    rw [hll] at h4
    obtain ⟨g1, g2⟩ := hb hbf
    have h4 : (xss.length : Int) ≠ 0 := by simpa using h4
    exact ⟨by omega, by omega, g1, g2, by omega, by omega⟩
  rintro b h1 ⟨rfl, hb⟩
  refine ⟨fun _ => K h1 e0, fun hbf => ?_⟩
  obtain ⟨hn0, hn20, hm60, hx20, ht30, hm0⟩ := hb hbf
  obtain ⟨N, rfl⟩ : ∃ N : Nat, nn = (N : Int) := ⟨nn.toNat, by omega⟩
  refine ⟨by omega, ?_⟩
  rintro k hk
  have hmr := msk16urng turn
  obtain ⟨M, hM⟩ : ∃ M : Nat, msk16 turn = (M : Int) := ⟨(msk16 turn).toNat, by omega⟩
  have hk : k = ((M % xss.length : Nat) : Int) := by
    rw [hk]
    show Int.tmod (msk16 turn) ((list.len : Nat) : Int) = _
    rw [hM, hll]
    exact Int.ofNat_tmod _ _
  subst hk
  have hK0 : M % xss.length < xss.length := Nat.mod_lt _ hm0
  generalize M % xss.length = K0 at *
  refine build_spec hl hm60 hx20 hK0 (N := N) fun other os yss h2 oth e2 _ => ?_
  have hyl := oth.ylen
  have hsim := oth.sim
  have hl2 := hl.ext e2
  have hy2 := oth.rr
  have ht2 := R.ext ht e2
  refine cNew_spec (N := N) (by omega) fun t1 h3 x vs n1 => ?_
  refine cNew_spec (N := N) (by omega) fun t2 h4 x' vs' n2 => ?_
  refine new8 fun h5 T5 hb5 e5 hs5 => new8 fun h6 T6 hb6 e6 hs6 => ?_
  have hb5' : h6[h4.size]? = some (.cells (zero8).toArray T5 (0, 0)) := (e6.same h4.size (by omega) (by simp)).trans hb5
  have s34 := n2.ext.size
  refine lay8 n1 (n2.ext.trans (e5.trans e6)) hb5' (by omega) fun h7 q7 k7 => ?_
  have s67 := k7.size
  have s56 := e6.size
  have hne : h5.size ≠ h4.size := by omega
  have e47 : Ext h4 h7 := ⟨by omega, fun b hb _ => (k7.same b (by omega) (by simp; omega)).trans ((e5.trans e6).same b hb (by simp))⟩
  have hb6' : h7[h5.size]? = some (.cells (zero8).toArray T6 (0, 0)) := (k7.same h5.size (by omega) (by simpa using hne)).trans hb6
  refine lay8 n2 e47 hb6' (by omega) fun h8 q8 k8 => ?_
  have s78 := k8.size
  have s23 := n1.ext.size
  have q7' : SM h8 ⟨h4.size, 0, none⟩ x vs (emptyS N) := q7.keepO k8 (fun b hb => by
    injection hb with hb
    refine ⟨by show b ≠ h4.size; omega, fun i hi => ?_⟩
    have := n1.ns.lt hi; omega)
  have e48 : Ext h4 h8 := ⟨by omega, fun b hb _ => (k8.same b (by omega) (by simp; omega)).trans (e47.same b hb (by simp))⟩
  have e28 : Ext h2 h8 := (n1.ext.trans n2.ext).trans e48
  have two8 : Two h2 h8 ⟨h4.size, 0, none⟩ ⟨h5.size, 0, none⟩ x x' vs vs' (emptyS N) (emptyS N) :=
    ⟨q7', q8, ⟨by show h4.size ≠ h5.size; omega, fun i hi => by have : h5.size < h3.size := n1.ns.lt hi; omega, fun i hi => by have : h4.size < h4.size := n2.ns.lt hi; omega, fun i j b h1 h2 => by have := n1.ns.lt h1; have := n2.fresh j b h2; omega⟩, e28, by show h2.size ≤ h4.size; omega, by show h2.size ≤ h5.size; omega, n1.fresh, fun i b hb => by have := n2.fresh i b hb; omega⟩
  generalize (⟨h4.size, 0, none⟩ : Addr) = p at *
  generalize (⟨h5.size, 0, none⟩ : Addr) = p' at *
  have hN : N ≤ 1048576 := by omega
  refine loop.inv (fun (s0 : Int) hh => ∃ (i : Nat) (x x' : Nm → Sl) (vs vs' : Nm → List Value) (S T : SS), s0 = (i : Int) ∧ i ≤ xss.length ∧ Two h2 hh p p' x x' vs vs' S T ∧ Laid N S i (Cs N xss i) ∧ Laid N T i (Cs N yss i)) (fun s0 _ => xss.length - s0.toNat)
    ⟨0, x, x', vs, vs', _, _, rfl, Nat.zero_le _, two8, (empty_laid hN).congr (fun c => Cs.zero c), (empty_laid hN).congr (fun c => Cs.zero c)⟩ ?_
  clear two8 q7' q8 q7
  rintro s0 h9 ⟨i, x, x', vs, vs', S, T, rfl, hi, two, lS, lT⟩
  rw [hll]
  refine ⟨fun hlt => ?_, fun hge => ?_⟩
  · simp only [decide_eq_true_eq] at hlt
    have hi' : i < xss.length := by omega
    refine (hl2.ext two.ext).ld (j := i) rfl hi' fun v hv => ?_
    refine add_step two.q1 lS (by omega) hv (by have := hx20 i hi'; omega) fun _ h10 x10 vs10 S10 q10 t10 l10 => ?_
    have two10 := two.left q10 t10
    refine (hy2.ext two10.ext).ld (j := i) rfl (by omega) fun v2 hv2 => ?_
    have hylen : (yss[i]'(by omega)).length ≤ 20 := by
      have hmod : (i + K0) % xss.length < xss.length := Nat.mod_lt _ (by omega)
      rw [(hsim i (by omega) hmod).len]
      exact hx20 _ hmod
    refine add_step two10.q2 lT (by omega) hv2 (by omega) fun _ h11 x11 vs11 T11 q11 t11 l11 => ?_
    have two11 := (two10.symm.left q11 t11).symm
    rw [w64 (by omega) (by omega)]
    exact ⟨⟨i + 1, _, _, _, _, S10, T11, by omega, by omega, two11, l10.congr (Cs.succ hi'), l11.congr (Cs.succ (by omega))⟩, by omega⟩
  · simp only [decide_eq_false_iff_not] at hge
    have : i = xss.length := by omega
    subst this
    have hl9 : list.len = xss.length := hll
    refine loop.inv (fun (s0 : Int) hh => ∃ (i : Nat) (x x' : Nm → Sl) (vs vs' : Nm → List Value) (S T : SS) (V : List Int), s0 = (i : Int) ∧ i ≤ ts.length ∧ Two h2 hh p p' x x' vs vs' S T ∧ Told N S (Cs N xss xss.length) V ∧ Told N T (Cs N yss xss.length) V) (fun s0 _ => ts.length - s0.toNat)
      ⟨0, x, x', vs, vs', S, T, _, rfl, Nat.zero_le _, two, .of lS, .of lT⟩ ?_
    clear two lS lT
    rintro s0 h10 ⟨i, x, x', vs, vs', S, T, V, rfl, hi, two, dS, dT⟩
    rw [ht.len]
    refine ⟨fun hlt => ?_, fun hge => ?_⟩
    · simp only [decide_eq_true_eq] at hlt
      refine RJ.ld (R.ext ht2 two.ext) (j := i) rfl (by omega) ?_
      refine tell_step two.q1 dS fun h11 x11 vs11 S11 q11 t11 d11 => ?_
      have two11 := two.left q11 t11
      refine tell_step two11.q2 dT fun h12 x12 vs12 T12 q12 t12 d12 => ?_
      have two12 := (two11.symm.left q12 t12).symm
      refine ⟨fun hb => by simp at hb, fun _ => ?_⟩
      rw [w64 (by omega) (by omega)]
      exact ⟨⟨i + 1, _, _, _, _, S11, T12, _, by omega, by omega, two12, d11, d12⟩, by omega⟩
    · obtain ⟨hs1, hs2⟩ := sim_cs (S := S) (T := T) hyl hK0 hsim dS.c dT.c
      have hV : S.val = T.val := by rw [dS.val, dT.val]
      have fin : ∀ (b : Bool) hh, (b = true ∧ Ext h2 hh) → Q b hh := fun b hh ⟨hb, e⟩ => by rw [hb]; exact K hh (e0.trans (e2.trans e))
      refine Run_spec two.q1 dS.a (fun j => by rw [dS.use]; decide) (fun h11 x11 vs11 S11 q11 t11 r11 a11 nx11 => ?_) (fun j h11 x11 vs11 S11 hj q11 t11 r11 b11 => ?_)
      · have two11 := two.left q11 t11
        refine Run_spec two11.q2 dT.a (fun j => by rw [dT.use]; decide) (fun h12 x12 vs12 T12 q12 t12 r12 a12 nx12 => ?_) (fun j h12 x12 vs12 T12 hj q12 t12 r12 b12 => ?_)
        · have two12 := (two11.symm.left q12 t12).symm
          refine seq_of (J := fun (b : Bool) hh => b = true ∧ Ext h2 hh) ?_ fin
          refine ⟨fun _ => ⟨fun hb => by simp at hb, fun _ => ?_⟩, fun hb => by simp at hb⟩
          refine ⟨_, (two12.q1.root 2 (by decide)).1, _, (two12.q2.root 2 (by decide)).1, ?_⟩
          have heq := order_same r11 a11 nx11 r12 a12 nx12 hs1 hs2 hV dS.a.t dT.a.t
          have g1 := two12.q1.val.r
          have g2 := two12.q2.val.r
          rw [← heq] at g2
          exact SameInts_spec g1 g2 (by rw [a11.t.vn]; omega) ⟨rfl, two12.ext⟩
        · exact (order_clash r11 a11 nx11 r12 (by rw [r12.cl]; exact hj) b12 hs2 hV dS.a.t).elim
      · have two11 := two.left q11 t11
        refine Run_spec two11.q2 dT.a (fun j => by rw [dT.use]; decide) (fun h12 x12 vs12 T12 q12 t12 r12 a12 nx12 => ?_) (fun j2 h12 x12 vs12 T12 hj2 q12 t12 r12 b12 => ?_)
        · exact (order_clash r12 a12 nx12 r11 (by rw [r11.cl]; exact hj) b11 hs1 hV.symm dT.a.t).elim
        · have two12 := (two11.symm.left q12 t12).symm
          refine seq_of (J := fun (b : Bool) hh => b = true ∧ Ext h2 hh) ?_ fin
          refine ⟨fun _ => ⟨fun _ => ⟨rfl, two12.ext⟩, fun hb => ?_⟩, fun hb => ?_⟩
          · simp only [ge_iff_le, decide_eq_false_iff_not] at hb; omega
          · have d1 : decide ((j : Int) < 0) = false := by rw [decide_eq_false_iff_not]; omega
            have d2 : decide ((j2 : Int) < 0) = false := by rw [decide_eq_false_iff_not]; omega
            rw [d1, d2] at hb; simp at hb
end Go.Sh

namespace Go.Sh
open Go Go.Lift
def RowJ (h : Heap) (s : Sl) : Prop := ∃ xs, RJ h s xs
def RowsJ (h : Heap) (s : Sl) : Prop := ∃ ss xss, RR h s ss xss
theorem is_i64s {h : Heap} {cs : List Value} (H : (Shape.slice (.int .i64)).Is h cs) : ∃ s : Sl, cs = [Sl.toV s] ∧ RowJ h s := by
  obtain ⟨s, rows, rfl, hr, hall⟩ := H
  have hrow : ∀ i (hi : i < rows.length), ∃ n : Int, rows[i] = [.int .i64 n] := by
    intro i hi
    obtain ⟨n, e, _⟩ := hall _ (List.getElem_mem hi)
    exact ⟨n, e⟩
  let xs : List Int := rows.map fun r => match r with | [.int _ n] => n | _ => 0
  have hlen : xs.length = rows.length := by simp [xs]
  have hx : ∀ i (hi : i < rows.length) (hj : i < xs.length), rows[i] = [.int .i64 xs[i]] := by
    intro i hi hj
    obtain ⟨n, e⟩ := hrow i hi
    have : xs[i] = n := by simp [xs, e]
    rw [this]; exact e
  refine ⟨s, rfl, xs, ?_⟩
  by_cases h0 : rows.length = 0
  · have : xs = [] := List.eq_nil_of_length_eq_zero (by omega)
    rw [this]
    exact R.nil_of (by rw [hr.len, h0]) |> fun r => ⟨by rw [hr.len, h0]; rfl, hr.cap, r.cells⟩
  · obtain ⟨a, ha, _⟩ := hr.cells 0 (by omega)
    refine R.mk' (by rw [hr.len, hlen]) hr.cap a ha fun i hi => ?_
    obtain ⟨a', ha', hc⟩ := hr.cells i (by omega)
    rw [ha] at ha'; cases ha'
    rw [hx i (by omega) hi] at hc
    simp only [Shape.size, Nat.mul_one, cells?] at hc
    split at hc
    · rename_i v r h1 h2
      simp only [Option.some.injEq, List.cons.injEq] at hc
      rw [hc.1, addr_add_add] at h1
      exact h1
    · cases hc
theorem is_i64ss {h : Heap} {cs : List Value} (H : (Shape.slice (.slice (.int .i64))).Is h cs) : ∃ s : Sl, cs = [Sl.toV s] ∧ RowsJ h s := by
  obtain ⟨s, rows, rfl, hr, hall⟩ := H
  have : ∃ (ss : List Sl) (xss : List (List Int)), rows = ss.map (fun x => [Sl.toV x]) ∧ ss.length = xss.length ∧ ∀ i (h1 : i < ss.length) (h2 : i < xss.length), RJ h ss[i] xss[i] := by
    clear hr
    induction rows with
    | nil => exact ⟨[], [], rfl, rfl, fun i hi => absurd hi (by simp)⟩
    | cons r rows ih =>
      obtain ⟨n, hn, v, hv⟩ := is_i64s (hall r (by simp))
      obtain ⟨ns, vs, h1, h2, h3⟩ := ih fun r hr => hall r (List.mem_cons_of_mem _ hr)
      refine ⟨n :: ns, v :: vs, by simp [hn, h1], by simp [h2], fun i g1 g2 => ?_⟩
      cases i with
      | zero => exact hv
      | succ i => exact h3 i (by simpa using g1) (by simpa using g2)
  obtain ⟨ss, xss, rfl, h2, h3⟩ := this
  refine ⟨s, rfl, ss, xss, ?_, h2, h3⟩
  have hlen : s.len = ss.length := by rw [hr.len]; simp
  by_cases h0 : ss.length = 0
  · have : ss = [] := List.eq_nil_of_length_eq_zero h0
    subst this
    exact R.nil_of (by rw [hlen]; rfl) |> fun r => ⟨by rw [hlen], hr.cap, r.cells⟩
  · obtain ⟨a, ha, _⟩ := hr.cells 0 (by simp; omega)
    refine R.mk' hlen hr.cap a ha fun i hi => ?_
    obtain ⟨a', ha', hc⟩ := hr.cells i (by simpa using hi)
    rw [ha] at ha'; cases ha'
    simp only [List.getElem_map, Shape.size, Nat.mul_one, cells?] at hc
    split at hc
    · rename_i v r h1 h2
      simp only [Option.some.injEq, List.cons.injEq] at hc
      rw [hc.1, addr_add_add] at h1
      exact h1
    · cases hc
end Go.Sh
