/-
  Laws that the proof of this claim's statement leans on, each proved under the conditions that it states.
-/
import Derived.Test.YtgnojmbjepffiaaSpD
import Derived.Test.YtgnojmbjepffiaaFwF
set_option linter.unusedVariables false
set_option linter.unusedSimpArgs false
namespace Go.Sh
open Go Go.Lift Go.Cla
variable {h h' g0 h0 h1 h2 : Heap} {p p' : Addr} {x x' x1 x2 : Nm → Sl} {vs vs' : Nm → List Value} {S S0 T : SS} {n N : Nat}

/-- More memory: what was there is as it was, but for what lies behind a mark. -/
theorem ext_of_to (e : Ext h0 h) (t : To p n h x h' x1) (hp : h0.size ≤ p.block) (hx : ∀ i b, (x i).blk = some b → h0.size ≤ b) : Ext h0 h' :=
  ⟨Nat.le_trans e.size t.size, fun b hb _ => (t.same b (Nat.lt_of_lt_of_le hb e.size) (by omega) (fun i hi => by have := hx i b hi; omega)).trans (e.same b hb (by simp))⟩
theorem far_of_to (t : To p n h x h' x1) (hh : h0.size ≤ h.size) (hx : ∀ i b, (x i).blk = some b → h0.size ≤ b) : ∀ i b, (x1 i).blk = some b → h0.size ≤ b := fun i b hb => by
  rcases t.foot i b hb with ⟨j, g⟩ | g
  · exact hx j b g
  · omega
theorem fits_12 : FitsL 2 [1, 2] := ⟨by decide, by decide, by decide⟩
theorem value_spec (q : SM h p x vs S) {l : Int} {Q : Int → Heap → Prop} (hn : S.val.length ≤ 1048576) (ht : Tri S.val) (K : ∀ h', Ext h h' → Q (vl S.val l) h') :
    loadS C_sl_sl_sl_sl_sl_sl_sl_i64 8 p h fun v => clause_Value (v.1, v.2.1, v.2.2.1, v.2.2.2.1, v.2.2.2.2.1, v.2.2.2.2.2.1, v.2.2.2.2.2.2.1, v.2.2.2.2.2.2.2) l h Q := by
  obtain ⟨a, ha, hk⟩ := q.value (l := l) hn ht K
  cases ha; exact hk
theorem speaks18uspec {Q : Bool → Heap → Prop} (K : ∀ h', Ext h h' → Q true h') : law18uspeaks h Q := by
  refine cNew_spec (N := 2) (by decide) fun t h1 x vs q1 => ?_
  refine new8 fun h2 T hb e2 hs2 => ?_
  refine lay8 q1 e2 hb (Nat.le_refl _) fun h3 q3 k3 => ?_
  have e03 : Ext h h3 := ⟨by have := q1.ext.size; have := e2.size; have := k3.size; omega, fun b hb _ => (k3.same b (by have := q1.ext.size; have := e2.size; omega) (by have := q1.ext.size; simp; omega)).trans ((q1.ext.trans e2).same b hb (by simp))⟩
  have hp0 : h.size ≤ h1.size := q1.ext.size
  intro T2
  have e4 := Ext.push h3 (.cells [Value.int .i64 1, Value.int .i64 2].toArray T2 (0, 0))
  have hrow := (Own.new (toV := toI) (h := h3) (ys := [1, 2]) (cs := [Value.int .i64 1, Value.int .i64 2]) (T := T2) rfl).r
  generalize (h3.push (.cells [Value.int .i64 1, Value.int .i64 2].toArray T2 (0, 0)) : Heap) = h4 at *
  have q4 := q3.ext e4
  have a0 : Ask 2 (emptyS 2) := empty_ask (by decide)
  have len2 : (emptyS 2).val.length = 2 := by decide
  refine cAdd_spec q4 (a0.t.bnd a0.w (fun w => Nat.le_refl _)) (by decide) (by decide) hrow (by decide) (fun hno => absurd (len2 ▸ fits_12) hno) fun _ h5 x5 vs5 q5 t5 => ?_
  have a1 : Ask 2 (addS (emptyS 2) [1, 2] false) := a0.add rfl fits_12 (by decide)
  have v1 : (addS (emptyS 2) [1, 2] false).val = [0, 0] := rfl
  refine Tell_spec q5 (a1.t.bnd a1.w (fun w => Nat.le_refl _)) a1.t.tri (by rw [a1.t.ln, a1.t.vn]) (by rw [a1.t.rn, a1.t.vn]) (fun hno => ?_) (fun _ hv => ?_) fun hth hv h6 x6 vs6 q6 t6 => ?_
  · exfalso
    rw [v1] at hno
    revert hno; decide
  · exfalso
    rw [v1] at hv
    revert hv; decide
  have a2 : Ask 2 (putS (addS (emptyS 2) [1, 2] false) (-1) (-1)) := a1.tell (by decide) hv
  have v2 : (putS (addS (emptyS 2) [1, 2] false) (-1) (-1)).val = [-1, 0] := rfl
  have t2 : (putS (addS (emptyS 2) [1, 2] false) (-1) (-1)).tra = [-1] := rfl
  have c2 : ∀ c, C0 (putS (addS (emptyS 2) [1, 2] false) (-1) (-1)) c → c = [1, 2] := by
    rintro c ⟨j, hj, rfl⟩
    have hj : j < 1 := hj
    have : j = 0 := by omega
    subst this; rfl
  have c2' : C0 (putS (addS (emptyS 2) [1, 2] false) (-1) (-1)) [1, 2] := ⟨0, by decide, rfl⟩
  have cl2 : (putS (addS (emptyS 2) [1, 2] false) (-1) (-1)).cls.length = 1 := rfl
  have u2 : ∀ j, 0 ≤ ((putS (addS (emptyS 2) [1, 2] false) (-1) (-1)).cl j).use ∧ ((putS (addS (emptyS 2) [1, 2] false) (-1) (-1)).cl j).use ≤ 4611686018427387904 := by
    intro j
    have : ((putS (addS (emptyS 2) [1, 2] false) (-1) (-1)).cl j).use = 0 := by
      show ((addS (emptyS 2) [1, 2] false).cl j).use = 0
      rw [addS_cl]; split
      · rfl
      · unfold SS.cl; simp [emptyS]
    omega
  generalize putS (addS (emptyS 2) [1, 2] false) (-1) (-1) = S2 at *
  have t06 : To ⟨h1.size, 0, none⟩ 8 h3 x h6 x6 := (q3.toExt e4).trans (t5.trans t6)
  have told1 : ∀ l, vl S2.val l = 1 → l = -1 := by
    intro l hl
    rw [v2] at hl
    have hth := vl_there (by rw [hl]; decide : vl [-1, 0] l ≠ 0)
    unfold There at hth
    simp only [List.length_cons, List.length_nil] at hth
    have : l = 1 ∨ l = 2 ∨ l = -1 ∨ l = -2 := by omega
    rcases this with g | g | g | g
    · subst g; revert hl; decide
    · subst g; revert hl; decide
    · exact g
    · subst g; revert hl; decide
  refine seq.cut (fun (b : Bool) hh => b = true ∧ Ext h hh) ⟨fun _ => ⟨fun _ => ⟨fun _ => ?_, fun hb => by simp at hb⟩, fun hb => absurd hb (by decide)⟩, fun hb => by simp at hb⟩ (fun t hh ⟨e, g⟩ => e ▸ K hh g)
  refine Run_spec q6 a2 u2 (fun h7 x7 vs7 S7 q7 t7 r7 a7 hx7 => ⟨fun _ => ?_, fun hb => by simp at hb⟩) (fun j h7 x7 vs7 S7 hj q7 t7 r7 bad => ?_)
  · have st := r7.stand a7 hx7 [1, 2] c2'
    have tl := r7.told a2.t (-1) (by rw [v2]; decide)
    have f1 : vl S7.val 1 = -1 := by have := vl_neg S7.val 1; rw [tl] at this; omega
    have f2 : vl S7.val 2 = 1 := by
      rcases st with ⟨l, hl, hv⟩ | ⟨l, hl, m, hm, hne, g2, g3⟩
      · simp only [List.mem_cons, List.not_mem_nil, or_false] at hl
        rcases hl with rfl | rfl
        · rw [f1] at hv; cases hv
        · exact hv
      · simp only [List.mem_cons, List.not_mem_nil, or_false] at hl hm
        rcases hl with rfl | rfl
        · rw [f1] at g2; cases g2
        · rcases hm with rfl | rfl
          · rw [f1] at g3; cases g3
          · exact absurd rfl hne
    have e7 : Ext h h7 := ext_of_to e03 (t06.trans t7) (by simpa using hp0) q1.fresh
    refine value_spec q7 (by rw [a7.t.vn]; decide) a7.t.tri fun h8 e8 => ⟨fun _ => ?_, fun hb => by rw [f2] at hb; simp at hb⟩
    have q8 := q7.ext e8
    refine ⟨_, (q8.root 4 (by decide)).1, ?_⟩
    have hlen : S7.rea.length = 2 := a7.t.rn
    refine RJ.ld q8.rea.r (j := 1) rfl (by omega) ?_
    obtain ⟨m, hm, hm2⟩ := mem_at (a7.t.vl_iff.1 f2)
    have hm1 : S2.tra.length ≤ m := by
      rw [t2]
      by_cases e : m = 0
      · exfalso
        obtain ⟨u, hu⟩ := r7.pre
        rw [e, hu, t2] at hm2
        have : atI ([-1] ++ u) 0 = -1 := rfl
        rw [this] at hm2; cases hm2
      · simp only [List.length_cons, List.length_nil]; omega
    obtain ⟨j, hj, hj2, _⟩ := r7.why.rs m hm1 hm
    rw [cl2] at hj
    rw [hm2] at hj2
    have : j = 0 := by omega
    subst this
    have hj2 : at0 S7.rea 1 = 0 := hj2
    rw [hj2]
    exact ⟨rfl, e7.trans e8⟩
  · exfalso
    obtain ⟨c, hc, hf⟩ := r7.bad (by rw [r7.cl]; exact hj) bad
    refine no_clash (C := C0 S2) (T := fun l => vl S2.val l = 1) (V := [-1, 1]) (W := S7.val) (fun c hc => ?_) (fun l hl => ?_) r7.derV hc hf
    · rw [c2 c hc]; exact .inl ⟨2, by simp, by decide⟩
    · rw [told1 l hl]; decide
end Go.Sh

namespace Go.Sh
open Go Go.Lift Go.Cla
variable {h h' h0 h1 h2 : Heap} {p p' : Addr} {x x' x1 x2 : Nm → Sl} {vs vs' vs1 : Nm → List Value} {S S0 T S1 : SS} {n N m : Nat}

/-! ### Rows of rows -/
structure RR (h : Heap) (s : Sl) (ss : List Sl) (xss : List (List Int)) : Prop where
  r : R Sl.toV h s ss
  len : ss.length = xss.length
  i : ∀ i (h1 : i < ss.length) (h2 : i < xss.length), RJ h ss[i] xss[i]
theorem RR.ext {s : Sl} {ss : List Sl} {xss : List (List Int)} (q : RR h s ss xss) (e : Ext h h') : RR h' s ss xss := ⟨R.ext q.r e, q.len, fun i h1 h2 => R.ext (q.i i h1 h2) e⟩
theorem RR.ld {s : Sl} {ss : List Sl} {xss : List (List Int)} (q : RR h s ss xss) {i : Int} {j : Nat} {k : Sl → Prop} (hij : i = (j : Int)) (hj : j < xss.length) (K : ∀ v, RJ h v (xss[j]) → k v) : idxS s i 1 fun a => Lift.load Sl.toV a h k :=
  R.ld2 q.r hij (by rw [q.len]; exact hj) (K _ (q.i j (by rw [q.len]; exact hj) hj))
theorem Great18uspec {s : Sl} {ss : List Sl} {xss : List (List Int)} {Q : Bool → Heap → Prop} (q : RR h s ss xss) (K : ∀ b, (b = false → xss.length ≤ 60 ∧ ∀ i (hi : i < xss.length), (xss[i]).length ≤ 20) → Q b h) : law18uGreat s h Q := by
  have hl : s.len = xss.length := by rw [q.r.len, q.len]
  refine ⟨fun _ => K true nofun, fun hle => ?_⟩
  simp only [gt_iff_lt, decide_eq_false_iff_not] at hle
  rw [hl] at hle ⊢
  refine loop.inv (fun (s0 : Int) hh => hh = h ∧ ∃ i : Nat, s0 = (i : Int) ∧ i ≤ xss.length ∧ ∀ j (hj : j < xss.length), j < i → (xss[j]).length ≤ 20) (fun s0 _ => xss.length - s0.toNat) ⟨rfl, 0, rfl, Nat.zero_le _, fun j _ hj => absurd hj (by omega)⟩ ?_
  rintro s0 hh ⟨rfl, i, rfl, hi, hall⟩
  refine ⟨fun hlt => ?_, fun hge => ?_⟩
  · simp only [decide_eq_true_eq] at hlt
    refine q.ld (j := i) rfl (by omega) fun v hv => ?_
    rw [hv.len]
    refine ⟨fun _ => K true nofun, fun h20 => ?_⟩
    simp only [gt_iff_lt, decide_eq_false_iff_not] at h20
    rw [w64 (by omega) (by omega)]
    refine ⟨⟨rfl, i + 1, by omega, by omega, fun j hj hji => ?_⟩, by omega⟩
    by_cases e : j = i
    · subst e; omega
    · exact hall j hj (by omega)
  · simp only [decide_eq_false_iff_not] at hge
    exact K false fun _ => ⟨by omega, fun i hi => hall i hi (by omega)⟩
theorem SameInts_spec {s t : Sl} {xs : List Int} {Q : Bool → Heap → Prop} (hs : RJ h s xs) (ht : RJ h t xs) (hn : xs.length ≤ 1048576) (K : Q true h) : ref18uSameInts s t h Q := by
  have hl := hs.len
  have hl2 := ht.len
  refine ⟨fun hne => absurd hne (by rw [hl, hl2]; simp), fun _ => ?_⟩
  rw [hl]
  refine loop.inv (fun (s0 : Int) hh => hh = h ∧ ∃ i : Nat, s0 = (i : Int) ∧ i ≤ xs.length) (fun s0 _ => xs.length - s0.toNat) ⟨rfl, 0, rfl, Nat.zero_le _⟩ ?_
  rintro s0 hh ⟨rfl, i, rfl, hi⟩
  refine ⟨fun hlt => ?_, fun _ => K⟩
  simp only [decide_eq_true_eq] at hlt
  refine RJ.ld hs (j := i) rfl (by omega) (RJ.ld ht (j := i) rfl (by omega) ⟨fun hne => by simp at hne, fun _ => ?_⟩)
  rintro i' rfl
  rw [w64 (by omega) (by omega)]
  exact ⟨⟨rfl, i + 1, by omega, by omega⟩, by omega⟩

/-! ### Two searches -/
structure Two (h0 h : Heap) (p p' : Addr) (x x' : Nm → Sl) (vs vs' : Nm → List Value) (S T : SS) : Prop where
  q1 : SM h p x vs S
  q2 : SM h p' x' vs' T
  sep : Sep p x p' x'
  ext : Ext h0 h
  p1 : h0.size ≤ p.block
  p2 : h0.size ≤ p'.block
  f1 : ∀ i b, (x i).blk = some b → h0.size ≤ b
  f2 : ∀ i b, (x' i).blk = some b → h0.size ≤ b
theorem Two.symm (w : Two h0 h p p' x x' vs vs' S T) : Two h0 h p' p x' x vs' vs T S := ⟨w.q2, w.q1, w.sep.symm, w.ext, w.p2, w.p1, w.f2, w.f1⟩
theorem Two.left (w : Two h0 h p p' x x' vs vs' S T) (q : SM h' p x1 vs1 S1) (t : To p 8 h x h' x1) : Two h0 h' p p' x1 x' vs1 vs' S1 T :=
  ⟨q, w.q2.too t w.sep, w.sep.to w.q2 t, ext_of_to w.ext t w.p1 w.f1, w.p1, w.p2, far_of_to t w.ext.size w.f1, w.f2⟩
/-- A search to which nothing was told; its clauses. -/
structure Laid (n : Nat) (S : SS) (m : Nat) (P : List Int → Prop) : Prop where
  a : Ask n S
  nx : S.nxt = 0
  val : S.val = List.replicate n 0
  len : S.cls.length ≤ m
  use : ∀ j, (S.cl j).use = 0
  c : ∀ c, C0 S c ↔ P c
theorem empty_laid (hn : n ≤ 1048576) : Laid n (emptyS n) 0 (fun _ => False) :=
  ⟨empty_ask hn, rfl, rfl, by simp [emptyS], fun j => by unfold SS.cl; simp [emptyS], fun c => ⟨fun h => empty_C0 n c h, fun h => h.elim⟩⟩
theorem add_step {P : List Int → Prop} {s : Sl} {L : List Int} {lr : Bool} {Q : Int × Int → Heap → Prop} (q : SM h p x vs S) (l : Laid n S m P) (hm : m ≤ 1000000) (hr : RJ h s L) (hl : L.length ≤ 1048576)
    (K : ∀ r h' x' vs' S', SM h' p x' vs' S' → To p 8 h x h' x' → Laid n S' (m + 1) (fun c => P c ∨ (c = L ∧ FitsL n c)) → Q r h') : clause_Add (some p) s lr h Q := by
  have hvn := l.a.t.vn
  have hle := l.len
  refine cAdd_spec q (l.a.t.bnd l.a.w (fun w => Nat.le_refl _)) (by omega) (by rw [l.a.t.wn, hvn]) hr hl (fun hno h2 e2 => ?_) (fun hy h2 x2 vs2 q2 t2 => ?_)
  · rw [hvn] at hno
    refine K _ h2 x vs S (q.ext e2) (q.toExt e2) ⟨l.a, l.nx, l.val, by omega, l.use, fun c => (l.c c).trans ⟨.inl, fun h => ?_⟩⟩
    rcases h with h | ⟨rfl, h⟩
    · exact h
    · exact absurd h hno
  · rw [hvn] at hy
    refine K _ h2 x2 vs2 _ q2 t2 ⟨l.a.add l.nx hy (by omega), l.nx, l.val, by rw [addS_cls]; simp; omega, fun j => ?_, fun c => ?_⟩
    · rw [addS_cl]; split
      · rfl
      · exact l.use j
    · rw [C0uadd, l.c]
      constructor
      · rintro (h | rfl)
        · exact .inl h
        · exact .inr ⟨rfl, hy⟩
      · rintro (h | ⟨h, _⟩)
        · exact .inl h
        · exact .inr h
/-- A search to which something was told; its clauses, its truths. -/
structure Told (n : Nat) (S : SS) (P : List Int → Prop) (V : List Int) : Prop where
  a : Ask n S
  val : S.val = V
  use : ∀ j, (S.cl j).use = 0
  c : ∀ c, C0 S c ↔ P c
open Classical in
noncomputable def tellB (V : List Int) (l : Int) : Bool := decide (There V.length l ∧ vl V l ≠ -1)
open Classical in
noncomputable def tellV (V : List Int) (l : Int) : List Int := if There V.length l ∧ vl V l = 0 then V.set (tr l) (sg l) else V
theorem tell_step {P : List Int → Prop} {V : List Int} {l r : Int} {Q : Bool → Heap → Prop} (q : SM h p x vs S) (d : Told n S P V)
    (K : ∀ h' x' vs' S', SM h' p x' vs' S' → To p 8 h x h' x' → Told n S' P (tellV V l) → Q (tellB V l) h') : clause_Tell (some p) l r h Q := by
  have t := d.a.t
  have hv := d.val
  subst hv
  have tri := t.tri.vl l
  refine Tell_spec q (t.bnd d.a.w (fun w => Nat.le_refl _)) t.tri (by rw [t.ln, t.vn]) (by rw [t.rn, t.vn]) (fun hno h2 e2 => ?_) (fun hth hv h2 e2 => ?_) (fun hth hv h2 x2 vs2 q2 t2 => ?_)
  · have e1 : tellB S.val l = false := by
      unfold tellB
      rw [decide_eq_false_iff_not]
      rintro ⟨h1, h3⟩
      rcases hno with g | g
      · exact g h1
      · exact h3 g
    have e3 : tellV S.val l = S.val := by
      unfold tellV
      rw [if_neg]
      rintro ⟨h1, h3⟩
      rcases hno with g | g
      · exact g h1
      · rw [g] at h3; cases h3
    have := K h2 x vs S (q.ext e2) (q.toExt e2) ⟨d.a, e3.symm, d.use, d.c⟩
    rw [e1] at this; exact this
  · have e1 : tellB S.val l = true := by
      unfold tellB
      rw [decide_eq_true_eq]
      exact ⟨hth, by rw [hv]; decide⟩
    have e3 : tellV S.val l = S.val := by
      unfold tellV
      rw [if_neg]
      rintro ⟨h1, h3⟩
      rw [hv] at h3; cases h3
    have := K h2 x vs S (q.ext e2) (q.toExt e2) ⟨d.a, e3.symm, d.use, d.c⟩
    rw [e1] at this; exact this
  · have e1 : tellB S.val l = true := by
      unfold tellB
      rw [decide_eq_true_eq]
      exact ⟨hth, by rw [hv]; decide⟩
    have e3 : tellV S.val l = S.val.set (tr l) (sg l) := by
      unfold tellV
      rw [if_pos ⟨hth, hv⟩]
    have := K h2 x2 vs2 _ q2 t2 ⟨d.a.tell (by rw [← t.vn]; exact hth) hv, e3.symm, d.use, d.c⟩
    rw [e1] at this; exact this
end Go.Sh

namespace Go.Sh
open Go Go.Lift Go.Cla
variable {h h' h0 h1 h2 : Heap} {p p' : Addr} {x x' x1 x2 : Nm → Sl} {vs vs' vs1 : Nm → List Value} {S S0 T S1 : SS} {n N m : Nat}

def msk16 (v : Int) : Int := IntKind.wrap .i64 (((BitVec.ofInt (IntKind.bits .i64) v &&& BitVec.ofInt (IntKind.bits .i64) 65535).toNat : Int))
theorem msk16urng (v : Int) : 0 ≤ msk16 v ∧ msk16 v ≤ 65535 := by
  unfold msk16
  have h1 : (BitVec.ofInt (IntKind.bits .i64) v &&& BitVec.ofInt (IntKind.bits .i64) 65535).toNat ≤ 65535 := by
    rw [BitVec.toNat_and]
    exact Nat.and_le_right
  rw [w64 (by omega) (by omega)]
  omega
/-- The other row, as far as it is laid: each clause is, as literals, one of the row. -/
structure Oth (h0 h : Heap) (s : Sl) (os : List Sl) (xss yss : List (List Int)) (N K i : Nat) : Prop where
  own : Own Sl.toV h0.size h s os
  len : os.length = i
  ylen : yss.length = i
  rows : ∀ j (h1 : j < os.length) (h2 : j < yss.length), Own toI h0.size h os[j] yss[j] ∧ (∀ b, (os[j]).blk = some b → s.blk ≠ some b)
  sim : ∀ j (h2 : j < yss.length) (h3 : (j + K) % xss.length < xss.length), Sim N (xss[(j + K) % xss.length]) (yss[j])
theorem Oth.ext {s : Sl} {os : List Sl} {xss yss : List (List Int)} {K i : Nat} (q : Oth h0 h s os xss yss N K i) (e : Ext h h') : Oth h0 h' s os xss yss N K i :=
  ⟨q.own.ext e, q.len, q.ylen, fun j h1 h2 => ⟨(q.rows j h1 h2).1.ext e, (q.rows j h1 h2).2⟩, q.sim⟩
theorem Oth.rr {s : Sl} {os : List Sl} {xss yss : List (List Int)} {K i : Nat} (q : Oth h0 h s os xss yss N K i) : RR h s os yss :=
  ⟨q.own.r, by rw [q.len, q.ylen], fun j h1 h2 => (q.rows j h1 h2).1.r⟩
theorem addrow {α : Type} {toV : α → Value} {a : α} {k : Addr → Heap → Prop} (hone : one (toV a) = true) (K : ∀ h', R toV h' ⟨some ⟨h.size, 0, none⟩, 1, 1⟩ [a] → Ext h h' → h'.size = h.size + 1 → k ⟨h.size, 0, none⟩ h') : new [toV a] h k := by
  intro T
  have := (Own.new (toV := toV) (h := h) (ys := [a]) (cs := [toV a]) (T := T) rfl).r
  exact K _ this (Ext.push _ _) (by simp)

theorem build_spec {list : Sl} {ss : List Sl} {xss : List (List Int)} {K0 : Nat} {N : Nat} {Q : Sl × Int → Heap → Prop} (hl : RR h0 list ss xss) (hm : xss.length ≤ 60) (hx : ∀ i (hi : i < xss.length), (xss[i]).length ≤ 20) (hK : K0 < xss.length)
    (K : ∀ s os yss h', Oth h0 h' s os xss yss N K0 xss.length → Ext h0 h' → ∀ i, Q (s, i) h') :
    new [] h0 fun a h0u3 =>
     Let ((⟨some a, 0, 0⟩ : Sl) : Sl) fun other =>
     loop (fun (s0 : Sl × Int) h0u4 (K0u1 : (Sl × Int) → Heap → Prop) =>
      iteB (decide (s0.2 < ((list.len : Nat) : Int))) (
       new [] h0u4 fun a_1 h0u5 =>
       (((list.len : Nat) : Int) ≠ 0) ∧
       idxS list (Int.tmod (IntKind.wrap .i64 (s0.2 + (K0 : Int))) ((list.len : Nat) : Int)) 1 fun a_2 =>
       Lift.load Sl.toV a_2 h0u5 fun v_4 =>
       appendS 1 8 (⟨some a_1, 0, 0⟩ : Sl) v_4 h0u5 fun v_5 h0u6 =>
       Let (IntKind.wrap .i64 (((v_5.len : Nat) : Int) - 1) : Int) fun b =>
       loop (fun (s0u1 : Int × Int) h0u7 (K0u2 : (Int × Int) → Heap → Prop) =>
        iteB (decide (s0u1.1 < s0u1.2)) (
         idxS v_5 s0u1.2 1 fun a_3 =>
         Lift.load (Value.int .i64) a_3 h0u7 fun v_6 =>
         idxS v_5 s0u1.1 1 fun a_4 =>
         Lift.load (Value.int .i64) a_4 h0u7 fun v_7 =>
         idxS v_5 s0u1.1 1 fun a_5 =>
         Lift.store a_5 (Value.int .i64 v_6) h0u7 fun h0u8 =>
         idxS v_5 s0u1.2 1 fun a_6 =>
         Lift.store a_6 (Value.int .i64 v_7) h0u8 fun h0u9 =>
         Let (IntKind.wrap .i64 (s0u1.1 + 1) : Int) fun a_7 =>
         Let (IntKind.wrap .i64 (s0u1.2 - 1) : Int) fun b_1 =>
         K0u2 (a_7, b_1) h0u9
        ) (
         new [Sl.toV v_5] h0u7 fun a_8 h0u10 =>
         appendS 1 24 s0.1 (⟨some a_8, 1, 1⟩ : Sl) h0u10 fun v_9 h0u11 =>
         K0u1 (v_9, IntKind.wrap .i64 (s0.2 + 1)) h0u11
        )
       ) (0, b) h0u6
      ) (Q s0 h0u4)) (other, 0) h0u3 := by
  intro T
  have e1 : Ext h0 (h0.push (.cells ([] : List Value).toArray T (0, 0))) := Ext.push _ _
  have ho := Own.new (toV := Sl.toV) (h := h0) (ys := []) (cs := []) (T := T) rfl
  generalize (h0.push (.cells ([] : List Value).toArray T (0, 0)) : Heap) = h3 at *
  rintro other rfl
  have hll : list.len = xss.length := by rw [hl.r.len, hl.len]
  rw [hll]
  refine loop.inv (fun (s0 : Sl × Int) hh => ∃ (i : Nat) (os : List Sl) (yss : List (List Int)), s0.2 = (i : Int) ∧ i ≤ xss.length ∧ Oth h0 hh s0.1 os xss yss N K0 i ∧ Ext h0 hh) (fun s0 _ => xss.length - s0.2.toNat)
    ⟨0, [], [], rfl, Nat.zero_le _, ⟨ho, rfl, rfl, fun j h1 => absurd h1 (by simp), fun j h1 => absurd h1 (by simp)⟩, e1⟩ ?_
  rintro ⟨s, i0⟩ hh ⟨i, os, yss, rfl, hi, q, e⟩
  dsimp only at q ⊢
  refine ⟨fun hlt => ?_, fun hge => ?_⟩
  · simp only [decide_eq_true_eq] at hlt
    have hi' : i < xss.length := by omega
    intro T2
    have e2 : Ext hh (hh.push (.cells ([] : List Value).toArray T2 (0, 0))) := Ext.push _ _
    have ho2 := Own.new (toV := toI) (h := hh) (ys := []) (cs := []) (T := T2) rfl
    generalize (hh.push (.cells ([] : List Value).toArray T2 (0, 0)) : Heap) = h5 at *
    refine ⟨by omega, ?_⟩
    have hmod : Int.tmod (IntKind.wrap .i64 ((i : Int) + (K0 : Int))) ((xss.length : Nat) : Int) = (((i + K0) % xss.length : Nat) : Int) := by
      rw [w64 (by omega) (by omega), ← Int.natCast_add]
      exact Int.ofNat_tmod _ _
    rw [hmod]
    have hj : (i + K0) % xss.length < xss.length := Nat.mod_lt _ (by omega)
    refine (hl.ext (e.trans e2)).ld rfl hj fun v4 hv4 => ?_
    have hx20 := hx _ hj
    have hsim0 : Sim N (xss[(i + K0) % xss.length]) (xss[(i + K0) % xss.length]) := Sim.refl _ _
    generalize hxr : xss[(i + K0) % xss.length] = xr at *
    refine Own.append ho2 (by have := e2.size; omega) hv4 one_toI (by simp; omega) fun r h6 o6 k6 b6 => ?_
    rw [List.nil_append] at o6
    have e6 : Ext hh h6 := keepOwnX e2 ho2 (Nat.le_refl _) k6
    rintro b rfl
    rw [o6.r.len, w64 (n := (xr.length : Int) - 1) (by omega) (by omega)]
    refine loop.inv (fun (t : Int × Int) h7 => ∃ (a : Nat) (cur : List Int), t.1 = (a : Int) ∧ -1 ≤ t.2 ∧ t.2 < (xr.length : Int) ∧ Own toI hh.size h7 r cur ∧ Sim N xr cur ∧ Ext hh h7) (fun t _ => (t.2 + 1 - t.1).toNat)
      ⟨0, xr, rfl, by omega, by omega, o6, hsim0, e6⟩ ?_
    rintro ⟨a0, b0⟩ h7 ⟨a, cur, rfl, hb1, hb2, o7, sim7, e7⟩
    dsimp only at hb1 hb2 ⊢
    refine ⟨fun hlt2 => ?_, fun hge2 => ?_⟩
    · simp only [decide_eq_true_eq] at hlt2
      obtain ⟨bb, rfl⟩ : ∃ bb : Nat, b0 = (bb : Int) := ⟨b0.toNat, by omega⟩
      have hcl := sim7.len
      have ha : a < cur.length := by omega
      have hb : bb < cur.length := by omega
      refine RJ.ld o7.r (j := bb) rfl hb (RJ.ld o7.r (j := a) rfl ha ?_)
      rw [at_atI, at_atI]
      obtain ⟨ad, had, _⟩ := o7.r.get (i := a) ha
      refine ⟨ad, had, ⟨by omega, by rw [o7.r.len]; omega⟩, ?_⟩
      simp only [Int.toNat_natCast, Nat.mul_one]
      refine o7.store ha had (atI cur bb) fun h8 o8 k8 _ => ?_
      refine ⟨ad, had, ⟨by omega, by rw [o7.r.len]; omega⟩, ?_⟩
      simp only [Int.toNat_natCast, Nat.mul_one]
      refine o8.store (i := bb) (by simpa using hb) had (atI cur a) fun h9 o9 k9 _ => ?_
      rintro a7 rfl b1 rfl
      rw [w64 (by omega) (by omega), w64 (by omega) (by omega)]
      exact ⟨⟨a + 1, swapL cur a bb, by simp, by omega, by omega, o9, sim7.swap ha hb, keepOwnX e7 o7 (Nat.le_refl _) (k8.trans k9)⟩, by omega⟩
    · have q7 := q.ext e7
      have hrb : ∀ b, r.blk = some b → hh.size ≤ b ∧ b < h7.size := fun b hb => o7.lt hb
      refine addrow (toV := Sl.toV) rfl fun h10 hrow e10 hs10 => ?_
      have q10 := q7.ext e10
      refine Own.append q10.own (by have := (e.trans (e7.trans e10)).size; omega) hrow (fun _ => rfl) (by rw [q.len]; simp; omega) fun s' h11 o11 k11 b11 => ?_
      rw [w64 (n := (i : Int) + 1) (by omega) (by omega)]
      have hsb : ∀ b, s.blk = some b → b < hh.size := fun b hb => (q.own.lt hb).2
      have hs'b : ∀ b, s'.blk = some b → s.blk = some b ∨ h10.size ≤ b := fun b hb => by
        rcases b11 with g | ⟨g, _⟩
        · exact .inl (by rw [← g]; exact hb)
        · rw [g] at hb; injection hb with hb; exact .inr (by omega)
      refine ⟨⟨i + 1, os ++ [r], yss ++ [cur], by simp, by omega, ⟨o11, by simp [q.len], by simp [q.ylen], fun j g1 g2 => ?_, fun j g2 g3 => ?_⟩, keepOwnX ((e.trans e7).trans e10) q10.own (by omega) k11⟩, by omega⟩
      · by_cases ej : j = i
        · have c1 : (os ++ [r])[j] = r := by simp [ej, ← q.len]
          have c2 : (yss ++ [cur])[j] = cur := by simp [ej, ← q.ylen]
          rw [c1, c2]
          have o10 := (o7.mono e.size).ext e10
          refine ⟨o10.keep k11 (fun b hb e2 => ?_), fun b hb hb2 => ?_⟩
          · have := hsb b e2.symm; have := (hrb b hb).1; omega
          · rcases hs'b b hb2 with g | g
            · have := hsb b g; have := (hrb b hb).1; omega
            · have := (hrb b hb).2; have := e10.size; omega
        · have hjo : j < os.length := by simp at g1; have := q.len; omega
          have hjy : j < yss.length := by have := q.len; have := q.ylen; omega
          have c1 : (os ++ [r])[j] = os[j] := List.getElem_append_left hjo
          have c2 : (yss ++ [cur])[j] = yss[j] := List.getElem_append_left hjy
          rw [c1, c2]
          obtain ⟨r1, r2⟩ := q10.rows j hjo hjy
          refine ⟨r1.keep k11 (fun b hb e2 => r2 b hb e2.symm), fun b hb hb2 => ?_⟩
          rcases hs'b b hb2 with g | g
          · exact r2 b hb g
          · have := (r1.lt hb).2; omega
      · by_cases ej : j = i
        · have c2 : (yss ++ [cur])[j] = cur := by simp [ej, ← q.ylen]
          subst ej
          rw [c2, hxr]; exact sim7
        · have hjy : j < yss.length := by simp at g2; have := q.ylen; omega
          have c2 : (yss ++ [cur])[j] = yss[j] := List.getElem_append_left hjy
          rw [c2]
          exact q.sim j hjy g3
  · simp only [decide_eq_false_iff_not] at hge
    have : i = xss.length := by omega
    subst this
    exact K s os yss hh q e _
end Go.Sh

namespace Go.Sh
open Go Go.Lift
def RowJ (h : Heap) (s : Sl) : Prop := ∃ xs, RJ h s xs
def RowsJ (h : Heap) (s : Sl) : Prop := ∃ ss xss, RR h s ss xss
theorem is_i64s {h : Heap} {cs : List Value} (H : (Shape.slice (.int .i64)).Is h cs) : ∃ s : Sl, cs = [Sl.toV s] ∧ RowJ h s := by
  obtain ⟨s, rows, rfl, hr, hall⟩ := H
  have hrow : ∀ i (hi : i < rows.length), ∃ n : Int, rows[i] = [.int .i64 n] := by
    intro i hi
    obtain ⟨n, e, _⟩ := hall _ (List.getElem_mem hi)
    exact ⟨n, e⟩
  let xs : List Int := rows.map fun r => match r with | [.int _ n] => n | _ => 0
  have hlen : xs.length = rows.length := by simp [xs]
  have hx : ∀ i (hi : i < rows.length) (hj : i < xs.length), rows[i] = [.int .i64 xs[i]] := by
    intro i hi hj
    obtain ⟨n, e⟩ := hrow i hi
    have : xs[i] = n := by simp [xs, e]
    rw [this]; exact e
  refine ⟨s, rfl, xs, ?_⟩
  by_cases h0 : rows.length = 0
  · have : xs = [] := List.eq_nil_of_length_eq_zero (by omega)
    rw [this]
    exact R.nil_of (by rw [hr.len, h0]) |> fun r => ⟨by rw [hr.len, h0]; rfl, hr.cap, r.cells⟩
  · obtain ⟨a, ha, _⟩ := hr.cells 0 (by omega)
    refine R.mk' (by rw [hr.len, hlen]) hr.cap a ha fun i hi => ?_
    obtain ⟨a', ha', hc⟩ := hr.cells i (by omega)
    rw [ha] at ha'; cases ha'
    rw [hx i (by omega) hi] at hc
    simp only [Shape.size, Nat.mul_one, cells?] at hc
    split at hc
    · rename_i v r h1 h2
      simp only [Option.some.injEq, List.cons.injEq] at hc
      rw [hc.1, addr_add_add] at h1
      exact h1
    · cases hc
theorem is_i64ss {h : Heap} {cs : List Value} (H : (Shape.slice (.slice (.int .i64))).Is h cs) : ∃ s : Sl, cs = [Sl.toV s] ∧ RowsJ h s := by
  obtain ⟨s, rows, rfl, hr, hall⟩ := H
  have : ∃ (ss : List Sl) (xss : List (List Int)), rows = ss.map (fun x => [Sl.toV x]) ∧ ss.length = xss.length ∧ ∀ i (h1 : i < ss.length) (h2 : i < xss.length), RJ h ss[i] xss[i] := by
    clear hr
    induction rows with
    | nil => exact ⟨[], [], rfl, rfl, fun i hi => absurd hi (by simp)⟩
    | cons r rows ih =>
      obtain ⟨n, hn, v, hv⟩ := is_i64s (hall r (by simp))
      obtain ⟨ns, vs, h1, h2, h3⟩ := ih fun r hr => hall r (List.mem_cons_of_mem _ hr)
      refine ⟨n :: ns, v :: vs, by simp [hn, h1], by simp [h2], fun i g1 g2 => ?_⟩
      cases i with
      | zero => exact hv
      | succ i => exact h3 i (by simpa using g1) (by simpa using g2)
  obtain ⟨ss, xss, rfl, h2, h3⟩ := this
  refine ⟨s, rfl, ss, xss, ?_, h2, h3⟩
  have hlen : s.len = ss.length := by rw [hr.len]; simp
  by_cases h0 : ss.length = 0
  · have : ss = [] := List.eq_nil_of_length_eq_zero h0
    subst this
    exact R.nil_of (by rw [hlen]; rfl) |> fun r => ⟨by rw [hlen], hr.cap, r.cells⟩
  · obtain ⟨a, ha, _⟩ := hr.cells 0 (by simp; omega)
    refine R.mk' hlen hr.cap a ha fun i hi => ?_
    obtain ⟨a', ha', hc⟩ := hr.cells i (by simpa using hi)
    rw [ha] at ha'; cases ha'
    simp only [List.getElem_map, Shape.size, Nat.mul_one, cells?] at hc
    split at hc
    · rename_i v r h1 h2
      simp only [Option.some.injEq, List.cons.injEq] at hc
      rw [hc.1, addr_add_add] at h1
      exact h1
    · cases hc
end Go.Sh
