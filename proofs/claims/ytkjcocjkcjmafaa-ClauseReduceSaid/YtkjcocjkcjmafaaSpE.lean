/-
  Laws that the proof of this claim's statement leans on, each proved under the conditions that it states.
-/
import Derived.Test.YtkjcocjkcjmafaaSpD
import Derived.Test.YtkjcocjkcjmafaaFwE
set_option linter.unusedVariables false
set_option linter.unusedSimpArgs false
namespace Go.Sh
open Go Go.Lift Go.Cla
variable {h h' g0 h0 h1 h2 : Heap} {p p' : Addr} {x x' x1 x2 : Nm → Sl} {vs vs' : Nm → List Value} {S S0 T : SS} {n N : Nat}
theorem ext_of_to (e : Ext h0 h) (t : To p n h x h' x1) (hp : h0.size ≤ p.block) (hx : ∀ i b, (x i).blk = some b → h0.size ≤ b) : Ext h0 h' :=
  ⟨Nat.le_trans e.size t.size, fun b hb _ => (t.same b (Nat.lt_of_lt_of_le hb e.size) (by omega) (fun i hi => by have := hx i b hi; omega)).trans (e.same b hb (by simp))⟩
theorem far_of_to (t : To p n h x h' x1) (hh : h0.size ≤ h.size) (hx : ∀ i b, (x i).blk = some b → h0.size ≤ b) : ∀ i b, (x1 i).blk = some b → h0.size ≤ b := fun i b hb => by
  rcases t.foot i b hb with ⟨j, g⟩ | g
  · exact hx j b g
  · omega
theorem fits_12 : FitsL 2 [1, 2] := ⟨by decide, by decide, by decide⟩
theorem value_spec (q : SM h p x vs S) {l : Int} {Q : Int → Heap → Prop} (hn : S.val.length ≤ 1048576) (ht : Tri S.val) (K : ∀ h', Ext h h' → Q (vl S.val l) h') :
    loadS C_sl_sl_sl_sl_sl_sl_sl_i64 8 p h fun v => clause_Value (v.1, v.2.1, v.2.2.1, v.2.2.2.1, v.2.2.2.2.1, v.2.2.2.2.2.1, v.2.2.2.2.2.2.1, v.2.2.2.2.2.2.2) l h Q := by
  obtain ⟨a, ha, hk⟩ := q.value (l := l) hn ht K
  cases ha; exact hk
theorem speaks18uspec {Q : Bool → Heap → Prop} (K : ∀ h', Ext h h' → Q true h') : law18uspeaks h Q := by
  refine cNew_spec (N := 2) (by decide) fun t h1 x vs q1 => ?_
  refine new8 fun h2 T hb e2 hs2 => ?_
  refine lay8 q1 e2 hb (Nat.le_refl _) fun h3 q3 k3 => ?_
  have e03 : Ext h h3 := ⟨by have := q1.ext.size; have := e2.size; have := k3.size; omega, fun b hb _ => (k3.same b (by have := q1.ext.size; have := e2.size; omega) (by have := q1.ext.size; simp; omega)).trans ((q1.ext.trans e2).same b hb (by simp))⟩
  have hp0 : h.size ≤ h1.size := q1.ext.size
  intro T2
  have e4 := Ext.push h3 (.cells [Value.int .i64 1, Value.int .i64 2].toArray T2 (0, 0))
  have hrow := (Own.new (toV := toI) (h := h3) (ys := [1, 2]) (cs := [Value.int .i64 1, Value.int .i64 2]) (T := T2) rfl).r
  generalize (h3.push (.cells [Value.int .i64 1, Value.int .i64 2].toArray T2 (0, 0)) : Heap) = h4 at *
  have q4 := q3.ext e4
  have a0 : Ask 2 (emptyS 2) := empty_ask (by decide)
  have len2 : (emptyS 2).val.length = 2 := by decide
  refine cAdd_spec q4 (a0.t.bnd a0.w (fun w => Nat.le_refl _)) (by decide) (by decide) hrow (by decide) (fun hno => absurd (len2 ▸ fits_12) hno) fun _ h5 x5 vs5 q5 t5 => ?_
  have a1 : Ask 2 (addS (emptyS 2) [1, 2] false) := a0.add rfl fits_12 (by decide)
  have v1 : (addS (emptyS 2) [1, 2] false).val = [0, 0] := rfl
  refine Tell_spec q5 (a1.t.bnd a1.w (fun w => Nat.le_refl _)) a1.t.tri (by rw [a1.t.ln, a1.t.vn]) (by rw [a1.t.rn, a1.t.vn]) (fun hno => ?_) (fun _ hv => ?_) fun hth hv h6 x6 vs6 q6 t6 => ?_
  · exfalso
    rw [v1] at hno
    revert hno; decide
  · exfalso
    rw [v1] at hv
    revert hv; decide
  have a2 : Ask 2 (putS (addS (emptyS 2) [1, 2] false) (-1) (-1)) := a1.tell (by decide) hv
  have v2 : (putS (addS (emptyS 2) [1, 2] false) (-1) (-1)).val = [-1, 0] := rfl
  have t2 : (putS (addS (emptyS 2) [1, 2] false) (-1) (-1)).tra = [-1] := rfl
  have c2 : ∀ c, C0 (putS (addS (emptyS 2) [1, 2] false) (-1) (-1)) c → c = [1, 2] := by
    rintro c ⟨j, hj, rfl⟩
    have hj : j < 1 := hj
    have : j = 0 := by omega
    subst this; rfl
  have c2' : C0 (putS (addS (emptyS 2) [1, 2] false) (-1) (-1)) [1, 2] := ⟨0, by decide, rfl⟩
  have cl2 : (putS (addS (emptyS 2) [1, 2] false) (-1) (-1)).cls.length = 1 := rfl
  have u2 : ∀ j, 0 ≤ ((putS (addS (emptyS 2) [1, 2] false) (-1) (-1)).cl j).use ∧ ((putS (addS (emptyS 2) [1, 2] false) (-1) (-1)).cl j).use ≤ 4611686018427387904 := by
    intro j
    have : ((putS (addS (emptyS 2) [1, 2] false) (-1) (-1)).cl j).use = 0 := by
      show ((addS (emptyS 2) [1, 2] false).cl j).use = 0
      rw [addS_cl]; split
      · rfl
      · unfold SS.cl; simp [emptyS]
    omega
  generalize putS (addS (emptyS 2) [1, 2] false) (-1) (-1) = S2 at *
  have t06 : To ⟨h1.size, 0, none⟩ 8 h3 x h6 x6 := (q3.toExt e4).trans (t5.trans t6)
  have told1 : ∀ l, vl S2.val l = 1 → l = -1 := by
    intro l hl
    rw [v2] at hl
    have hth := vl_there (by rw [hl]; decide : vl [-1, 0] l ≠ 0)
    unfold There at hth
    simp only [List.length_cons, List.length_nil] at hth
    have : l = 1 ∨ l = 2 ∨ l = -1 ∨ l = -2 := by omega
    rcases this with g | g | g | g
    · subst g; revert hl; decide
    · subst g; revert hl; decide
    · exact g
    · subst g; revert hl; decide
  refine seq.cut (fun (b : Bool) hh => b = true ∧ Ext h hh) ⟨fun _ => ⟨fun _ => ⟨fun _ => ?_, fun hb => by simp at hb⟩, fun hb => absurd hb (by decide)⟩, fun hb => by simp at hb⟩ (fun t hh ⟨e, g⟩ => e ▸ K hh g)
  refine Run_spec q6 a2 u2 (fun h7 x7 vs7 S7 q7 t7 r7 a7 hx7 => ⟨fun _ => ?_, fun hb => by simp at hb⟩) (fun j h7 x7 vs7 S7 hj q7 t7 r7 bad => ?_)
  · have st := r7.stand a7 hx7 [1, 2] c2'
    have tl := r7.told a2.t (-1) (by rw [v2]; decide)
    have f1 : vl S7.val 1 = -1 := by have := vl_neg S7.val 1; rw [tl] at this; omega
    have f2 : vl S7.val 2 = 1 := by
      rcases st with ⟨l, hl, hv⟩ | ⟨l, hl, m, hm, hne, g2, g3⟩
      · simp only [List.mem_cons, List.not_mem_nil, or_false] at hl
        rcases hl with rfl | rfl
        · rw [f1] at hv; cases hv
        · exact hv
      · simp only [List.mem_cons, List.not_mem_nil, or_false] at hl hm
        rcases hl with rfl | rfl
        · rw [f1] at g2; cases g2
        · rcases hm with rfl | rfl
          · rw [f1] at g3; cases g3
          · exact absurd rfl hne
    have e7 : Ext h h7 := ext_of_to e03 (t06.trans t7) (by simpa using hp0) q1.fresh
    refine value_spec q7 (by rw [a7.t.vn]; decide) a7.t.tri fun h8 e8 => ⟨fun _ => ?_, fun hb => by rw [f2] at hb; simp at hb⟩
    have q8 := q7.ext e8
    refine ⟨_, (q8.root 4 (by decide)).1, ?_⟩
    have hlen : S7.rea.length = 2 := a7.t.rn
    refine RJ.ld q8.rea.r (j := 1) rfl (by omega) ?_
    obtain ⟨m, hm, hm2⟩ := mem_at (a7.t.vl_iff.1 f2)
    have hm1 : S2.tra.length ≤ m := by
      rw [t2]
      by_cases e : m = 0
      · exfalso
        obtain ⟨u, hu⟩ := r7.pre
        rw [e, hu, t2] at hm2
        have : atI ([-1] ++ u) 0 = -1 := rfl
        rw [this] at hm2; cases hm2
      · simp only [List.length_cons, List.length_nil]; omega
    obtain ⟨j, hj, hj2, _⟩ := r7.why.rs m hm1 hm
    rw [cl2] at hj
    rw [hm2] at hj2
    have : j = 0 := by omega
    subst this
    have hj2 : at0 S7.rea 1 = 0 := hj2
    rw [hj2]
    exact ⟨rfl, e7.trans e8⟩
  · exfalso
    obtain ⟨c, hc, hf⟩ := r7.bad (by rw [r7.cl]; exact hj) bad
    refine no_clash (C := C0 S2) (T := fun l => vl S2.val l = 1) (V := [-1, 1]) (W := S7.val) (fun c hc => ?_) (fun l hl => ?_) r7.derV hc hf
    · rw [c2 c hc]; exact .inl ⟨2, by simp, by decide⟩
    · rw [told1 l hl]; decide
end Go.Sh

namespace Go.Sh
open Go Go.Lift Go.Cla
variable {h h' h0 h1 h2 : Heap} {p p' : Addr} {x x' x1 x2 : Nm → Sl} {vs vs' vs1 : Nm → List Value} {S S0 T S1 : SS} {n N m : Nat}
structure RR (h : Heap) (s : Sl) (ss : List Sl) (xss : List (List Int)) : Prop where
  r : R Sl.toV h s ss
  len : ss.length = xss.length
  i : ∀ i (h1 : i < ss.length) (h2 : i < xss.length), RJ h ss[i] xss[i]
theorem RR.ext {s : Sl} {ss : List Sl} {xss : List (List Int)} (q : RR h s ss xss) (e : Ext h h') : RR h' s ss xss := ⟨R.ext q.r e, q.len, fun i h1 h2 => R.ext (q.i i h1 h2) e⟩
theorem RR.ld {s : Sl} {ss : List Sl} {xss : List (List Int)} (q : RR h s ss xss) {i : Int} {j : Nat} {k : Sl → Prop} (hij : i = (j : Int)) (hj : j < xss.length) (K : ∀ v, RJ h v (xss[j]) → k v) : idxS s i 1 fun a => Lift.load Sl.toV a h k :=
  R.ld2 q.r hij (by rw [q.len]; exact hj) (K _ (q.i j (by rw [q.len]; exact hj) hj))
theorem Great18uspec {s : Sl} {ss : List Sl} {xss : List (List Int)} {Q : Bool → Heap → Prop} (q : RR h s ss xss) (K : ∀ b, (b = false → xss.length ≤ 60 ∧ ∀ i (hi : i < xss.length), (xss[i]).length ≤ 20) → Q b h) : law18uGreat s h Q := by
  have hl : s.len = xss.length := by rw [q.r.len, q.len]
  refine ⟨fun _ => K true nofun, fun hle => ?_⟩
  simp only [gt_iff_lt, decide_eq_false_iff_not] at hle
  rw [hl] at hle ⊢
  refine loop.inv (fun (s0 : Int) hh => hh = h ∧ ∃ i : Nat, s0 = (i : Int) ∧ i ≤ xss.length ∧ ∀ j (hj : j < xss.length), j < i → (xss[j]).length ≤ 20) (fun s0 _ => xss.length - s0.toNat) ⟨rfl, 0, rfl, Nat.zero_le _, fun j _ hj => absurd hj (by omega)⟩ ?_
  rintro s0 hh ⟨rfl, i, rfl, hi, hall⟩
  refine ⟨fun hlt => ?_, fun hge => ?_⟩
  · simp only [decide_eq_true_eq] at hlt
    refine q.ld (j := i) rfl (by omega) fun v hv => ?_
    rw [hv.len]
    refine ⟨fun _ => K true nofun, fun h20 => ?_⟩
    simp only [gt_iff_lt, decide_eq_false_iff_not] at h20
    rw [w64 (by omega) (by omega)]
    refine ⟨⟨rfl, i + 1, by omega, by omega, fun j hj hji => ?_⟩, by omega⟩
    by_cases e : j = i
    · subst e; omega
    · exact hall j hj (by omega)
  · simp only [decide_eq_false_iff_not] at hge
    exact K false fun _ => ⟨by omega, fun i hi => hall i hi (by omega)⟩
theorem SameInts_spec {s t : Sl} {xs : List Int} {Q : Bool → Heap → Prop} (hs : RJ h s xs) (ht : RJ h t xs) (hn : xs.length ≤ 1048576) (K : Q true h) : ref18uSameInts s t h Q := by
  have hl := hs.len
  have hl2 := ht.len
  refine ⟨fun hne => absurd hne (by rw [hl, hl2]; simp), fun _ => ?_⟩
  rw [hl]
  refine loop.inv (fun (s0 : Int) hh => hh = h ∧ ∃ i : Nat, s0 = (i : Int) ∧ i ≤ xs.length) (fun s0 _ => xs.length - s0.toNat) ⟨rfl, 0, rfl, Nat.zero_le _⟩ ?_
  rintro s0 hh ⟨rfl, i, rfl, hi⟩
  refine ⟨fun hlt => ?_, fun _ => K⟩
  simp only [decide_eq_true_eq] at hlt
  refine RJ.ld hs (j := i) rfl (by omega) (RJ.ld ht (j := i) rfl (by omega) ⟨fun hne => by simp at hne, fun _ => ?_⟩)
  rintro i' rfl
  rw [w64 (by omega) (by omega)]
  exact ⟨⟨rfl, i + 1, by omega, by omega⟩, by omega⟩
structure Two (h0 h : Heap) (p p' : Addr) (x x' : Nm → Sl) (vs vs' : Nm → List Value) (S T : SS) : Prop where
  q1 : SM h p x vs S
  q2 : SM h p' x' vs' T
  sep : Sep p x p' x'
  ext : Ext h0 h
  p1 : h0.size ≤ p.block
  p2 : h0.size ≤ p'.block
  f1 : ∀ i b, (x i).blk = some b → h0.size ≤ b
  f2 : ∀ i b, (x' i).blk = some b → h0.size ≤ b
theorem Two.symm (w : Two h0 h p p' x x' vs vs' S T) : Two h0 h p' p x' x vs' vs T S := ⟨w.q2, w.q1, w.sep.symm, w.ext, w.p2, w.p1, w.f2, w.f1⟩
theorem Two.left (w : Two h0 h p p' x x' vs vs' S T) (q : SM h' p x1 vs1 S1) (t : To p 8 h x h' x1) : Two h0 h' p p' x1 x' vs1 vs' S1 T :=
  ⟨q, w.q2.too t w.sep, w.sep.to w.q2 t, ext_of_to w.ext t w.p1 w.f1, w.p1, w.p2, far_of_to t w.ext.size w.f1, w.f2⟩
end Go.Sh

namespace Go.Sh
open Go Go.Lift Go.Cla
variable {h h' h0 h1 h2 : Heap} {p p' : Addr} {x x' x1 x2 : Nm → Sl} {vs vs' vs1 : Nm → List Value} {S S0 T S1 : SS} {n N m : Nat}
structure Oth (h0 h : Heap) (s : Sl) (os : List Sl) (xss yss : List (List Int)) (N K i : Nat) : Prop where
  own : Own Sl.toV h0.size h s os
  len : os.length = i
  ylen : yss.length = i
  rows : ∀ j (h1 : j < os.length) (h2 : j < yss.length), Own toI h0.size h os[j] yss[j] ∧ (∀ b, (os[j]).blk = some b → s.blk ≠ some b)
  sim : ∀ j (h2 : j < yss.length) (h3 : (j + K) % xss.length < xss.length), Sim N (xss[(j + K) % xss.length]) (yss[j])
theorem Oth.ext {s : Sl} {os : List Sl} {xss yss : List (List Int)} {K i : Nat} (q : Oth h0 h s os xss yss N K i) (e : Ext h h') : Oth h0 h' s os xss yss N K i :=
  ⟨q.own.ext e, q.len, q.ylen, fun j h1 h2 => ⟨(q.rows j h1 h2).1.ext e, (q.rows j h1 h2).2⟩, q.sim⟩
theorem Oth.rr {s : Sl} {os : List Sl} {xss yss : List (List Int)} {K i : Nat} (q : Oth h0 h s os xss yss N K i) : RR h s os yss :=
  ⟨q.own.r, by rw [q.len, q.ylen], fun j h1 h2 => (q.rows j h1 h2).1.r⟩
end Go.Sh

namespace Go.Sh
open Go Go.Lift
def RowJ (h : Heap) (s : Sl) : Prop := ∃ xs, RJ h s xs
def RowsJ (h : Heap) (s : Sl) : Prop := ∃ ss xss, RR h s ss xss
theorem is_i64s {h : Heap} {cs : List Value} (H : (Shape.slice (.int .i64)).Is h cs) : ∃ s : Sl, cs = [Sl.toV s] ∧ RowJ h s := by
  obtain ⟨s, rows, rfl, hr, hall⟩ := H
  have hrow : ∀ i (hi : i < rows.length), ∃ n : Int, rows[i] = [.int .i64 n] := by
    intro i hi
    obtain ⟨n, e, _⟩ := hall _ (List.getElem_mem hi)
    exact ⟨n, e⟩
  let xs : List Int := rows.map fun r => match r with | [.int _ n] => n | _ => 0
  have hlen : xs.length = rows.length := by simp [xs]
  have hx : ∀ i (hi : i < rows.length) (hj : i < xs.length), rows[i] = [.int .i64 xs[i]] := by
    intro i hi hj
    obtain ⟨n, e⟩ := hrow i hi
    have : xs[i] = n := by simp [xs, e]
    rw [this]; exact e
  refine ⟨s, rfl, xs, ?_⟩
  by_cases h0 : rows.length = 0
  · have : xs = [] := List.eq_nil_of_length_eq_zero (by omega)
    rw [this]
    exact R.nil_of (by rw [hr.len, h0]) |> fun r => ⟨by rw [hr.len, h0]; rfl, hr.cap, r.cells⟩
  · obtain ⟨a, ha, _⟩ := hr.cells 0 (by omega)
    refine R.mk' (by rw [hr.len, hlen]) hr.cap a ha fun i hi => ?_
    obtain ⟨a', ha', hc⟩ := hr.cells i (by omega)
    rw [ha] at ha'; cases ha'
    rw [hx i (by omega) hi] at hc
    simp only [Shape.size, Nat.mul_one, cells?] at hc
    split at hc
    · rename_i v r h1 h2
      simp only [Option.some.injEq, List.cons.injEq] at hc
      rw [hc.1, addr_add_add] at h1
      exact h1
    · cases hc
theorem is_i64ss {h : Heap} {cs : List Value} (H : (Shape.slice (.slice (.int .i64))).Is h cs) : ∃ s : Sl, cs = [Sl.toV s] ∧ RowsJ h s := by
  obtain ⟨s, rows, rfl, hr, hall⟩ := H
  have : ∃ (ss : List Sl) (xss : List (List Int)), rows = ss.map (fun x => [Sl.toV x]) ∧ ss.length = xss.length ∧ ∀ i (h1 : i < ss.length) (h2 : i < xss.length), RJ h ss[i] xss[i] := by
    clear hr
    induction rows with
    | nil => exact ⟨[], [], rfl, rfl, fun i hi => absurd hi (by simp)⟩
    | cons r rows ih =>
      obtain ⟨n, hn, v, hv⟩ := is_i64s (hall r (by simp))
      obtain ⟨ns, vs, h1, h2, h3⟩ := ih fun r hr => hall r (List.mem_cons_of_mem _ hr)
      refine ⟨n :: ns, v :: vs, by simp [hn, h1], by simp [h2], fun i g1 g2 => ?_⟩
      cases i with
      | zero => exact hv
      | succ i => exact h3 i (by simpa using g1) (by simpa using g2)
  obtain ⟨ss, xss, rfl, h2, h3⟩ := this
  refine ⟨s, rfl, ss, xss, ?_, h2, h3⟩
  have hlen : s.len = ss.length := by rw [hr.len]; simp
  by_cases h0 : ss.length = 0
  · have : ss = [] := List.eq_nil_of_length_eq_zero h0
    subst this
    exact R.nil_of (by rw [hlen]; rfl) |> fun r => ⟨by rw [hlen], hr.cap, r.cells⟩
  · obtain ⟨a, ha, _⟩ := hr.cells 0 (by simp; omega)
    refine R.mk' hlen hr.cap a ha fun i hi => ?_
    obtain ⟨a', ha', hc⟩ := hr.cells i (by simpa using hi)
    rw [ha] at ha'; cases ha'
    simp only [List.getElem_map, Shape.size, Nat.mul_one, cells?] at hc
    split at hc
    · rename_i v r h1 h2
      simp only [Option.some.injEq, List.cons.injEq] at hc
      rw [hc.1, addr_add_add] at h1
      exact h1
    · cases hc
end Go.Sh
