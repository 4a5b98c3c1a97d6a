/-
  Laws that the proof of this claim's statement leans on, each proved under the conditions that it states.
-/
import Derived.Test.YtlclchgingkkhaaGreatDoorSpU
import Derived.Test.YtlclchgingkkhaaGreatDoorFwE
set_option linter.unusedVariables false
set_option linter.unusedSimpArgs false
namespace Go.Sh
open Go Go.Lift
theorem oN (x : X4) : (ah x).length = 4 := rfl
theorem PQ.rk {h0 h : Heap} {a : Addr} {x : X4} {p : Rat × PL} (hp : PQ h0 x p) (e : Ext h0 h) (ha : h0.size ≤ a.block) : RK (· = a.block) h (cst x) p.1 ∧ MK (· = a.block) h x.2.2.2 p.2 :=
  ⟨(RK.of_rq (K := (· = a.block)) hp.c fun k (hk : k = a.block) => hk ▸ ha).ext e, (hp.m.raise (K' := (· = a.block)) fun k (hk : k = a.block) => .inr (hk ▸ ha)).ext e⟩
theorem RQ.rk {h0 h : Heap} {a : Addr} {x : X3} {q : Rat} (hp : RQ h0 x q) (e : Ext h0 h) (ha : h0.size ≤ a.block) : RK (· = a.block) h x q :=
  (RK.of_rq (K := (· = a.block)) hp fun k (hk : k = a.block) => hk ▸ ha).ext e
theorem PQ.raw {h : Heap} {x : X4} {p : Rat × PL} (hp : PQ h x p) (s1 : szQ p.1 ≤ 1000) (s2 : ∀ m ∈ p.2, szQ m.2 ≤ 1000) : Raw4 h x := by
  have rb : ∀ {x : X3} {q : Rat}, RQ h x q → szQ q ≤ 1000 → RawB h x := fun {x q} hq hs => by
    obtain ⟨xs, ys, hX, _, _, l1, l2⟩ := hq.xr
    have := aG q; have := gS q
    exact ⟨xs, ys, hX, by omega, by omega⟩
  obtain ⟨ys, hr, ha⟩ := hp.m.row
  refine ⟨rb hp.c s1, ys, hr, fun y hy => ?_, hp.m.cap⟩
  obtain ⟨n, hn, rfl⟩ := List.getElem_of_mem hy
  have hl := ha.length
  exact rb (ha.get n hn (by omega)).2.rq (s2 _ (List.getElem_mem _))
end Go.Sh

namespace Go.Sh
open Go Go.Lift
def valL (f : Int → Rat) : PL → Rat
  | [] => 0
  | m :: ms => m.2 * f m.1 + valL f ms
theorem l6 {f : Int → Rat} {l : PL} {m : Int × Rat} : valL f (l ++ [m]) = valL f l + m.2 * f m.1 := by
  induction l with
  | nil => simp [valL]; grind
  | cons x l ih => simp only [List.cons_append, valL, ih]; grind
theorem i9 {f : Int → Rat} {l : PL} {m : Int × Rat} : valL f (nzc m l) = m.2 * f m.1 + valL f l := by
  unfold nzc; split
  · rename_i h; rw [h]; grind
  · rfl
theorem aa6 {f : Int → Rat} {p q : PL} : valL f (mrg p q) = valL f p + valL f q := by
  induction p, q using mrg.induct with
  | case1 => rw [pH]; simp only [valL]; grind
  | case2 a as ih => rw [pJ, i9, ih]; simp only [valL]; grind
  | case3 b bs ih => rw [pA, i9, ih]; simp only [valL]; grind
  | case4 a as b bs h1 ih => rw [ct, if_pos h1, i9, ih]; simp only [valL]; grind
  | case5 a as b bs h1 h2 ih => rw [ct, if_neg h1, if_pos h2, i9, ih]; simp only [valL]; grind
  | case6 a as b bs h1 h2 ih =>
    have he : a.1 = b.1 := by omega
    rw [ct, if_neg h1, if_neg h2, i9, ih]; simp only [valL, he]; grind
theorem abv {f : Int → Rat} {c : Rat} {p : PL} : valL f (scL c p) = c * valL f p := by
  induction p with
  | nil => simp [scL, valL]
  | cons m ms ih => rw [aaR]; simp only [valL, ih]; grind
def vP (f : Int → Rat) (p : Rat × PL) : Rat := p.1 + valL f p.2
theorem acg {f : Int → Rat} {c : Rat} {p : Rat × PL} : vP f (scP c p) = c * vP f p := by
  unfold scP vP; split
  · rename_i h; subst h; simp only [valL]; grind
  · simp only [abv]; grind
theorem zS {f : Int → Rat} {c : Rat} {p q : Rat × PL} : vP f (addP p c q) = vP f p + c * vP f q := by
  rw [← acg]
  unfold addP vP
  simp only [aa6]; grind
structure RL (K : Nat → Prop) (h : Heap) (s : Sl) (rs : List Rat) : Prop where
  row : ∃ xs : List X3, RS aA 3 h s xs ∧ All2 (fun x q => RK K h x q) xs rs
  off : rs ≠ [] → ∀ k, K k → s.blk ≠ some k
section
variable {K K' : Nat → Prop} {h h' h0 : Heap} {s : Sl} {rs : List Rat}
theorem RL.len (hm : RL K h s rs) : s.len = rs.length := by obtain ⟨ys, h1, h2⟩ := hm.row; rw [h1.len, h2.length]
theorem RL.keep (hm : RL K h s rs) {o : Option Nat} (e : Keep o h h') (ho : ∀ k, o = some k → K k) : RL K h' s rs := by
  obtain ⟨ys, h1, h2⟩ := hm.row
  refine ⟨⟨ys, h1.keep e fun hne a ha hh => ?_, h2.imp fun y m h3 => h3.keep e ho⟩, hm.off⟩
  have hms : rs ≠ [] := by rintro rfl; have := h2.length; simp at this; exact hne this
  exact hm.off hms _ (ho _ hh.symm) (by simp [Sl.blk, ha])
theorem RL.ext (hm : RL K h s rs) (e : Ext h h') : RL K h' s rs := hm.keep e (by simp)
theorem RL.raise (hm : RL K h s rs) (hk : ∀ k, K' k → K k ∨ h.size ≤ k) : RL K' h s rs := by
  obtain ⟨ys, h1, h2⟩ := hm.row
  refine ⟨⟨ys, h1, h2.imp fun y m h3 => h3.raise hk⟩, fun hne k h3 hb => ?_⟩
  rcases hk k h3 with h4 | h4
  · exact hm.off hne k h4 hb
  · have hys : ys ≠ [] := by rintro rfl; have := h2.length; simp at this; exact hne (List.eq_nil_of_length_eq_zero this.symm)
    have := h1.lt (by decide) hys hb
    omega
theorem RL.ld (hm : RL K h s rs) {i : Int} {j : Nat} {k : X3 → Prop} (hij : i = (j : Int)) (hj : j < rs.length) (C : ∀ x, RK K h x rs[j] → k x) : idxS s i 3 fun a => aD aA 3 a h k := by
  obtain ⟨ys, h1, h2⟩ := hm.row
  have hjy : j < ys.length := by rw [h2.length]; exact hj
  exact h1.ld hij hjy (C _ (h2.get j hjy hj))
end
end Go.Sh

namespace Go.Sh
open Go Go.Lift
end Go.Sh

namespace Go.Sh
open Go Go.Lift
end Go.Sh

namespace Go.Sh
open Go Go.Lift
abbrev shQ : Shape := .cat (.cat .bool (.cat (.slice (.int .u32)) .nil)) (.cat (.slice (.int .u32)) .nil)
abbrev shM : Shape := .cat (.int .i64) (.cat shQ .nil)
abbrev adm : Shape := .cat shQ (.cat (.slice shM) .nil)
theorem aaF {B : Nat} {h : Heap} {cs : List Value} (H : (Shape.slice (.int .u32)).IsB B h cs) : ∃ s : Sl, ∃ xs : List Nat, cs = [Sl.toV s] ∧ RI .u32 h s xs ∧ Lim 4294967296 xs ∧ xs.length ≤ B := by
  obtain ⟨s, rows, rfl, hr, hl, he⟩ := H
  obtain ⟨s', xs, h1, h2, h3⟩ := acS (h := h) (cs := [Sl.toV s]) ⟨s, rows, rfl, hr, he⟩
  have hss : s' = s := by
    simp only [List.cons.injEq, and_true] at h1
    cases s; cases s'; simp only [Sl.toV, Value.slice.injEq] at h1; obtain ⟨rfl, rfl, rfl⟩ := h1; rfl
  subst hss
  exact ⟨s', xs, rfl, h2, h3, by rw [← h2.len]; exact hl⟩
theorem aaS {h : Heap} {cs : List Value} (H : shQ.IsB 1048576 h cs) : ∃ x : X3, cs = aA x ∧ RawB h x := by
  obtain ⟨l, r, rfl, ⟨l1, r1, rfl, ⟨b, rfl⟩, l2, r2, rfl, h2, rfl⟩, l3, r3, rfl, h3, rfl⟩ := H
  obtain ⟨s, xs, rfl, h4, h5, h8⟩ := aaF h2
  obtain ⟨t, ys, rfl, h6, h7, h9⟩ := aaF h3
  exact ⟨(b, s, t), rfl, xs, ys, ⟨h4, h5, h6, h7⟩, h8, h9⟩
theorem zR {α : Type} {toC : α → List Value} {F : Heap → α → Prop} {e : Shape} {B : Nat} {h : Heap} {cs : List Value} (sz : Nat) (hsz : e.size = sz) (hE : ∀ r, e.IsB B h r → ∃ x, r = toC x ∧ F h x) (H : (Shape.slice e).IsB B h cs) :
    ∃ s : Sl, cs = [Sl.toV s] ∧ ∃ xs, RS toC sz h s xs ∧ (∀ x ∈ xs, F h x) ∧ s.len ≤ s.cap ∧ xs.length ≤ B := by
  obtain ⟨s, rows, rfl, hr, hl, he⟩ := H
  have : ∃ xs : List α, rows = xs.map toC ∧ ∀ x ∈ xs, F h x := by
    have hlen := hr.len
    clear hr hlen
    induction rows with
    | nil => exact ⟨[], rfl, fun x hx => by simp at hx⟩
    | cons r rows ih =>
      obtain ⟨x, hx, fx⟩ := hE r (he r (by simp))
      obtain ⟨xs, hxs, fxs⟩ := ih fun r hr => he r (List.mem_cons_of_mem _ hr)
      exact ⟨x :: xs, by simp [hx, hxs], fun y hy => by rcases List.mem_cons.1 hy with rfl | hy; exact fx; exact fxs y hy⟩
  obtain ⟨xs, rfl, hF⟩ := this
  have hl' := hr.len
  simp only [List.length_map] at hl'
  refine ⟨s, rfl, xs, ⟨by simpa using hr.len, fun i hi => ?_⟩, hF, hr.cap, by omega⟩
  obtain ⟨a, ha, hc⟩ := hr.cells i (by simpa using hi)
  rw [hsz] at hc
  exact ⟨a, ha, by simpa using hc⟩
def x7 (h : Heap) (x : X4) : Prop := Raw4 h x ∧ x.2.2.2.len ≤ 1048576
theorem adL {h : Heap} {cs : List Value} (H : adm.IsB 1048576 h cs) : ∃ x : X4, cs = ah x ∧ x7 h x := by
  obtain ⟨l, r, rfl, h1, l2, r2, rfl, h2, rfl⟩ := H
  obtain ⟨x, rfl, hx⟩ := aaS h1
  obtain ⟨s, rfl, ys, h3, h4, h5, h6⟩ := zR (toC := C4) (F := fun h y => RawB h (co y)) 4 rfl (fun r hr => by
    obtain ⟨l, r, rfl, ⟨n, rfl, _⟩, l2, r2, rfl, h2, rfl⟩ := hr
    obtain ⟨y, rfl, hy⟩ := aaS h2
    exact ⟨(n, y.1, y.2.1, y.2.2), rfl, hy⟩) h2
  exact ⟨(x.1, x.2.1, x.2.2, s), rfl, ⟨hx, ys, h3, h4, h5⟩, by have := h3.len; show s.len ≤ 1048576; omega⟩
end Go.Sh
