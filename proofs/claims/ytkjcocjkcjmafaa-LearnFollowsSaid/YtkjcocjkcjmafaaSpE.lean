/-
  Laws that the proof of this claim's statement leans on, each proved under the conditions that it states.
-/
import Derived.Test.YtkjcocjkcjmafaaSpD
import Derived.Test.YtkjcocjkcjmafaaFwE
set_option linter.unusedVariables false
set_option linter.unusedSimpArgs false
namespace Go.Sh
open Go Go.Lift Go.Cla
variable {h h' g0 h0 h1 h2 : Heap} {p p' : Addr} {x x' x1 x2 : Nm → Sl} {vs vs' : Nm → List Value} {S S0 T : SS} {n N : Nat}
theorem ext_of_to (e : Ext h0 h) (t : To p n h x h' x1) (hp : h0.size ≤ p.block) (hx : ∀ i b, (x i).blk = some b → h0.size ≤ b) : Ext h0 h' :=
  ⟨Nat.le_trans e.size t.size, fun b hb _ => (t.same b (Nat.lt_of_lt_of_le hb e.size) (by omega) (fun i hi => by have := hx i b hi; omega)).trans (e.same b hb (by simp))⟩
theorem far_of_to (t : To p n h x h' x1) (hh : h0.size ≤ h.size) (hx : ∀ i b, (x i).blk = some b → h0.size ≤ b) : ∀ i b, (x1 i).blk = some b → h0.size ≤ b := fun i b hb => by
  rcases t.foot i b hb with ⟨j, g⟩ | g
  · exact hx j b g
  · omega
end Go.Sh

namespace Go.Sh
open Go Go.Lift Go.Cla
variable {h h' h0 h1 h2 : Heap} {p p' : Addr} {x x' x1 x2 : Nm → Sl} {vs vs' vs1 : Nm → List Value} {S S0 T S1 : SS} {n N m : Nat}
structure RR (h : Heap) (s : Sl) (ss : List Sl) (xss : List (List Int)) : Prop where
  r : R Sl.toV h s ss
  len : ss.length = xss.length
  i : ∀ i (h1 : i < ss.length) (h2 : i < xss.length), RJ h ss[i] xss[i]
theorem RR.ext {s : Sl} {ss : List Sl} {xss : List (List Int)} (q : RR h s ss xss) (e : Ext h h') : RR h' s ss xss := ⟨R.ext q.r e, q.len, fun i h1 h2 => R.ext (q.i i h1 h2) e⟩
theorem RR.ld {s : Sl} {ss : List Sl} {xss : List (List Int)} (q : RR h s ss xss) {i : Int} {j : Nat} {k : Sl → Prop} (hij : i = (j : Int)) (hj : j < xss.length) (K : ∀ v, RJ h v (xss[j]) → k v) : idxS s i 1 fun a => Lift.load Sl.toV a h k :=
  R.ld2 q.r hij (by rw [q.len]; exact hj) (K _ (q.i j (by rw [q.len]; exact hj) hj))
theorem Great18uspec {s : Sl} {ss : List Sl} {xss : List (List Int)} {Q : Bool → Heap → Prop} (q : RR h s ss xss) (K : ∀ b, (b = false → xss.length ≤ 60 ∧ ∀ i (hi : i < xss.length), (xss[i]).length ≤ 20) → Q b h) : law18uGreat s h Q := by
  have hl : s.len = xss.length := by rw [q.r.len, q.len]
  refine ⟨fun _ => K true nofun, fun hle => ?_⟩
  simp only [gt_iff_lt, decide_eq_false_iff_not] at hle
  rw [hl] at hle ⊢
  refine loop.inv (fun (s0 : Int) hh => hh = h ∧ ∃ i : Nat, s0 = (i : Int) ∧ i ≤ xss.length ∧ ∀ j (hj : j < xss.length), j < i → (xss[j]).length ≤ 20) (fun s0 _ => xss.length - s0.toNat) ⟨rfl, 0, rfl, Nat.zero_le _, fun j _ hj => absurd hj (by omega)⟩ ?_
  rintro s0 hh ⟨rfl, i, rfl, hi, hall⟩
  refine ⟨fun hlt => ?_, fun hge => ?_⟩
  · simp only [decide_eq_true_eq] at hlt
    refine q.ld (j := i) rfl (by omega) fun v hv => ?_
    rw [hv.len]
    refine ⟨fun _ => K true nofun, fun h20 => ?_⟩
    simp only [gt_iff_lt, decide_eq_false_iff_not] at h20
    rw [w64 (by omega) (by omega)]
    refine ⟨⟨rfl, i + 1, by omega, by omega, fun j hj hji => ?_⟩, by omega⟩
    by_cases e : j = i
    · subst e; omega
    · exact hall j hj (by omega)
  · simp only [decide_eq_false_iff_not] at hge
    exact K false fun _ => ⟨by omega, fun i hi => hall i hi (by omega)⟩
theorem SameInts_spec {s t : Sl} {xs : List Int} {Q : Bool → Heap → Prop} (hs : RJ h s xs) (ht : RJ h t xs) (hn : xs.length ≤ 1048576) (K : Q true h) : ref18uSameInts s t h Q := by
  have hl := hs.len
  have hl2 := ht.len
  refine ⟨fun hne => absurd hne (by rw [hl, hl2]; simp), fun _ => ?_⟩
  rw [hl]
  refine loop.inv (fun (s0 : Int) hh => hh = h ∧ ∃ i : Nat, s0 = (i : Int) ∧ i ≤ xs.length) (fun s0 _ => xs.length - s0.toNat) ⟨rfl, 0, rfl, Nat.zero_le _⟩ ?_
  rintro s0 hh ⟨rfl, i, rfl, hi⟩
  refine ⟨fun hlt => ?_, fun _ => K⟩
  simp only [decide_eq_true_eq] at hlt
  refine RJ.ld hs (j := i) rfl (by omega) (RJ.ld ht (j := i) rfl (by omega) ⟨fun hne => by simp at hne, fun _ => ?_⟩)
  rintro i' rfl
  rw [w64 (by omega) (by omega)]
  exact ⟨⟨rfl, i + 1, by omega, by omega⟩, by omega⟩
structure Two (h0 h : Heap) (p p' : Addr) (x x' : Nm → Sl) (vs vs' : Nm → List Value) (S T : SS) : Prop where
  q1 : SM h p x vs S
  q2 : SM h p' x' vs' T
  sep : Sep p x p' x'
  ext : Ext h0 h
  p1 : h0.size ≤ p.block
  p2 : h0.size ≤ p'.block
  f1 : ∀ i b, (x i).blk = some b → h0.size ≤ b
  f2 : ∀ i b, (x' i).blk = some b → h0.size ≤ b
theorem Two.symm (w : Two h0 h p p' x x' vs vs' S T) : Two h0 h p' p x' x vs' vs T S := ⟨w.q2, w.q1, w.sep.symm, w.ext, w.p2, w.p1, w.f2, w.f1⟩
theorem Two.left (w : Two h0 h p p' x x' vs vs' S T) (q : SM h' p x1 vs1 S1) (t : To p 8 h x h' x1) : Two h0 h' p p' x1 x' vs1 vs' S1 T :=
  ⟨q, w.q2.too t w.sep, w.sep.to w.q2 t, ext_of_to w.ext t w.p1 w.f1, w.p1, w.p2, far_of_to t w.ext.size w.f1, w.f2⟩
structure Laid (n : Nat) (S : SS) (m : Nat) (P : List Int → Prop) : Prop where
  a : Ask n S
  nx : S.nxt = 0
  val : S.val = List.replicate n 0
  len : S.cls.length ≤ m
  use : ∀ j, (S.cl j).use = 0
  c : ∀ c, C0 S c ↔ P c
structure Told (n : Nat) (S : SS) (P : List Int → Prop) (V : List Int) : Prop where
  a : Ask n S
  val : S.val = V
  use : ∀ j, (S.cl j).use = 0
  c : ∀ c, C0 S c ↔ P c
end Go.Sh

namespace Go.Sh
open Go Go.Lift Go.Cla
variable {h h' h0 h1 h2 : Heap} {p p' : Addr} {x x' x1 x2 : Nm → Sl} {vs vs' vs1 : Nm → List Value} {S S0 T S1 : SS} {n N m : Nat}
structure Oth (h0 h : Heap) (s : Sl) (os : List Sl) (xss yss : List (List Int)) (N K i : Nat) : Prop where
  own : Own Sl.toV h0.size h s os
  len : os.length = i
  ylen : yss.length = i
  rows : ∀ j (h1 : j < os.length) (h2 : j < yss.length), Own toI h0.size h os[j] yss[j] ∧ (∀ b, (os[j]).blk = some b → s.blk ≠ some b)
  sim : ∀ j (h2 : j < yss.length) (h3 : (j + K) % xss.length < xss.length), Sim N (xss[(j + K) % xss.length]) (yss[j])
theorem Oth.ext {s : Sl} {os : List Sl} {xss yss : List (List Int)} {K i : Nat} (q : Oth h0 h s os xss yss N K i) (e : Ext h h') : Oth h0 h' s os xss yss N K i :=
  ⟨q.own.ext e, q.len, q.ylen, fun j h1 h2 => ⟨(q.rows j h1 h2).1.ext e, (q.rows j h1 h2).2⟩, q.sim⟩
theorem Oth.rr {s : Sl} {os : List Sl} {xss yss : List (List Int)} {K i : Nat} (q : Oth h0 h s os xss yss N K i) : RR h s os yss :=
  ⟨q.own.r, by rw [q.len, q.ylen], fun j h1 h2 => (q.rows j h1 h2).1.r⟩
end Go.Sh

namespace Go.Sh
open Go Go.Lift Go.Cla
variable {h h' h0 h1 h2 : Heap} {p p' : Addr} {x x' x1 x2 : Nm → Sl} {vs vs' vs1 : Nm → List Value} {S S0 T S1 : SS} {n N m : Nat}
theorem Told.of {P : List Int → Prop} (l : Laid n S m P) : Told n S P (List.replicate n 0) := ⟨l.a, l.val, l.use, l.c⟩
theorem Laid.congr {P P' : List Int → Prop} (l : Laid n S m P) (e : ∀ c, P c ↔ P' c) : Laid n S m P' := ⟨l.a, l.nx, l.val, l.len, l.use, fun c => (l.c c).trans (e c)⟩
def Cs (N : Nat) (xss : List (List Int)) (i : Nat) (c : List Int) : Prop := (∃ j, ∃ hj : j < xss.length, j < i ∧ c = xss[j]) ∧ FitsL N c
theorem Cs.succ {xss : List (List Int)} {i : Nat} (hi : i < xss.length) (c : List Int) : (Cs N xss i c ∨ (c = xss[i] ∧ FitsL N c)) ↔ Cs N xss (i + 1) c := by
  unfold Cs
  constructor
  · rintro (⟨⟨j, hj, hji, rfl⟩, f⟩ | ⟨rfl, f⟩)
    · exact ⟨⟨j, hj, by omega, rfl⟩, f⟩
    · exact ⟨⟨i, hi, by omega, rfl⟩, f⟩
  · rintro ⟨⟨j, hj, hji, rfl⟩, f⟩
    by_cases e : j = i
    · subst e; exact .inr ⟨rfl, f⟩
    · exact .inl ⟨⟨j, hj, by omega, rfl⟩, f⟩
theorem Cs.zero {xss : List (List Int)} (c : List Int) : False ↔ Cs N xss 0 c := ⟨False.elim, fun ⟨⟨_, _, h, _⟩, _⟩ => by omega⟩
end Go.Sh

namespace Go.Sh
open Go Go.Lift
def RowJ (h : Heap) (s : Sl) : Prop := ∃ xs, RJ h s xs
def RowsJ (h : Heap) (s : Sl) : Prop := ∃ ss xss, RR h s ss xss
theorem is_i64s {h : Heap} {cs : List Value} (H : (Shape.slice (.int .i64)).Is h cs) : ∃ s : Sl, cs = [Sl.toV s] ∧ RowJ h s := by
  obtain ⟨s, rows, rfl, hr, hall⟩ := H
  have hrow : ∀ i (hi : i < rows.length), ∃ n : Int, rows[i] = [.int .i64 n] := by
    intro i hi
    obtain ⟨n, e, _⟩ := hall _ (List.getElem_mem hi)
    exact ⟨n, e⟩
  let xs : List Int := rows.map fun r => match r with | [.int _ n] => n | _ => 0
  have hlen : xs.length = rows.length := by simp [xs]
  have hx : ∀ i (hi : i < rows.length) (hj : i < xs.length), rows[i] = [.int .i64 xs[i]] := by
    intro i hi hj
    obtain ⟨n, e⟩ := hrow i hi
    have : xs[i] = n := by simp [xs, e]
    rw [this]; exact e
  refine ⟨s, rfl, xs, ?_⟩
  by_cases h0 : rows.length = 0
  · have : xs = [] := List.eq_nil_of_length_eq_zero (by omega)
    rw [this]
    exact R.nil_of (by rw [hr.len, h0]) |> fun r => ⟨by rw [hr.len, h0]; rfl, hr.cap, r.cells⟩
  · obtain ⟨a, ha, _⟩ := hr.cells 0 (by omega)
    refine R.mk' (by rw [hr.len, hlen]) hr.cap a ha fun i hi => ?_
    obtain ⟨a', ha', hc⟩ := hr.cells i (by omega)
    rw [ha] at ha'; cases ha'
    rw [hx i (by omega) hi] at hc
    simp only [Shape.size, Nat.mul_one, cells?] at hc
    split at hc
    · rename_i v r h1 h2
      simp only [Option.some.injEq, List.cons.injEq] at hc
      rw [hc.1, addr_add_add] at h1
      exact h1
    · cases hc
theorem is_i64ss {h : Heap} {cs : List Value} (H : (Shape.slice (.slice (.int .i64))).Is h cs) : ∃ s : Sl, cs = [Sl.toV s] ∧ RowsJ h s := by
  obtain ⟨s, rows, rfl, hr, hall⟩ := H
  have : ∃ (ss : List Sl) (xss : List (List Int)), rows = ss.map (fun x => [Sl.toV x]) ∧ ss.length = xss.length ∧ ∀ i (h1 : i < ss.length) (h2 : i < xss.length), RJ h ss[i] xss[i] := by
    clear hr
    induction rows with
    | nil => exact ⟨[], [], rfl, rfl, fun i hi => absurd hi (by simp)⟩
    | cons r rows ih =>
      obtain ⟨n, hn, v, hv⟩ := is_i64s (hall r (by simp))
      obtain ⟨ns, vs, h1, h2, h3⟩ := ih fun r hr => hall r (List.mem_cons_of_mem _ hr)
      refine ⟨n :: ns, v :: vs, by simp [hn, h1], by simp [h2], fun i g1 g2 => ?_⟩
      cases i with
      | zero => exact hv
      | succ i => exact h3 i (by simpa using g1) (by simpa using g2)
  obtain ⟨ss, xss, rfl, h2, h3⟩ := this
  refine ⟨s, rfl, ss, xss, ?_, h2, h3⟩
  have hlen : s.len = ss.length := by rw [hr.len]; simp
  by_cases h0 : ss.length = 0
  · have : ss = [] := List.eq_nil_of_length_eq_zero h0
    subst this
    exact R.nil_of (by rw [hlen]; rfl) |> fun r => ⟨by rw [hlen], hr.cap, r.cells⟩
  · obtain ⟨a, ha, _⟩ := hr.cells 0 (by simp; omega)
    refine R.mk' hlen hr.cap a ha fun i hi => ?_
    obtain ⟨a', ha', hc⟩ := hr.cells i (by simpa using hi)
    rw [ha] at ha'; cases ha'
    simp only [List.getElem_map, Shape.size, Nat.mul_one, cells?] at hc
    split at hc
    · rename_i v r h1 h2
      simp only [Option.some.injEq, List.cons.injEq] at hc
      rw [hc.1, addr_add_add] at h1
      exact h1
    · cases hc
end Go.Sh
