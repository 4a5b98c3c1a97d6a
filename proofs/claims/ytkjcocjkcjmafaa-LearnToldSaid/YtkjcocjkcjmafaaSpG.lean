/-
  Laws that the proof of this claim's statement leans on, each proved under the conditions that it states.
-/
import Derived.Test.YtkjcocjkcjmafaaSpE
import Derived.Test.YtkjcocjkcjmafaaSpC
import Derived.Test.YtkjcocjkcjmafaaSpD
import Derived.Test.YtkjcocjkcjmafaaSpX
set_option linter.unusedVariables false
set_option linter.unusedSimpArgs false
namespace Go.Sh
open Go Go.Lift Go.Cla
variable {h h' : Heap} {p : Addr} {x : Nm → Sl} {vs : Nm → List Value} {S : SS} {n : Nat}
theorem SM.clsLd (q : SM h p x vs S) {i : Int} {j : Nat} {k : Sl × Bool × Int → Prop} (hi : i = (j : Int)) (hj : j < S.cls.length) (K : k (x (.c j), (S.cl j).learned, (S.cl j).use)) : idxS (x .cls) i 3 fun a => loadS C_sl_bool_i64 3 a h k :=
  q.clsAt hi hj fun a _ h0 h1 h2 => ⟨_, by
    have := cells?_mk (h := h) (a := a.add (j * 3)) (C_sl_bool_i64 (x (.c j), (S.cl j).learned, (S.cl j).use)) 0 (fun m hm => by
      have hm : m < 3 := hm
      rw [Nat.zero_add]
      match m, hm with
      | 0, _ => exact h0
      | 1, _ => exact h1
      | 2, _ => exact h2)
    exact this, K⟩
end Go.Sh

namespace Go.Sh
open Go Go.Lift Go.Cla
theorem Ask.cls {n : Nat} {S : SS} (a : Ask n S) {cs : List Cl} (hl : cs.length = S.cls.length) (h : ∀ j, (cs.getD j ⟨[], false, 0⟩).lits = (S.cl j).lits) : Ask n { S with cls := cs } := by
  have hc : ∀ j, (({ S with cls := cs } : SS).cl j).lits = (S.cl j).lits := h
  have hlit : ∀ j i, lit { S with cls := cs } j i = lit S j i := fun j i => by unfold lit; rw [hc]
  have hw : ∀ j w, watches { S with cls := cs } j w ↔ watches S j w := fun j w => by unfold watches; rw [hlit, hlit]
  have t := a.t
  refine ⟨{ nb := t.nb, vn := t.vn, ln := t.ln, rn := t.rn, wn := t.wn, tri := t.tri, cn := by show cs.length ≤ _; rw [hl]; exact t.cn, fit := fun j hj => by rw [hc]; exact t.fit j (by rw [← hl]; exact hj), tt := t.tt, tn := t.tn, tv := t.tv, nx := t.nx, hn := t.hn }, ⟨fun w hww y hy => ?_, fun w hww j hj => ?_⟩, fun j hj k hk hex => ?_, a.hd⟩
  · obtain ⟨j, h1, h2⟩ := a.w.rng w hww y hy
    exact ⟨j, by show j < cs.length; rw [hl]; exact h1, h2⟩
  · have := a.w.cnt w hww j (by rw [← hl]; exact hj)
    show List.count _ (S.wt w) = _
    rw [this]
    by_cases g : watches S j w
    · rw [if_pos g, if_pos ((hw j w).2 g)]
    · rw [if_neg g, if_neg fun h => g ((hw j w).1 h)]
  · rw [hlit, hlit]
    exact a.p j (by rw [← hl]; exact hj) k hk hex
variable {h : Heap}
theorem OwnV.clear {s : Sl} {l : List Value} {v : Value} {k : Heap → Prop} (ho : OwnV h s l) (hv : one v = true) (K : ∀ h', OwnV h' s (List.replicate l.length v) → Keep s.blk h h' → k h') : clrS [v] s h k := by
  have hl := ho.len
  unfold clrS
  by_cases h0 : s.len = 0
  · rw [if_pos h0]
    have : l = [] := List.eq_nil_of_length_eq_zero (by omega)
    subst this
    exact K h ho (Keep.refl _ _)
  · rw [if_neg h0]
    obtain ⟨ys, e, o⟩ := ho
    rcases o.own with ⟨h1, h2⟩ | ⟨b, c, T, h1, h2, h3, h4⟩
    · have := o.r.cap; omega
    · have hfl : (List.replicate s.len [v]).flatten = List.replicate s.len v := by
        induction s.len with
        | zero => rfl
        | succ m ih => rw [List.replicate_succ, List.flatten_cons, ih, List.replicate_succ]; rfl
      have hcap := o.r.cap
      obtain ⟨c', g1, g2, _, g4, g5⟩ := setCells_block (List.replicate s.len v) 0 0 h c h3 (by rw [List.length_replicate]; omega)
      refine ⟨_, h1, by simpa using g5, ?_⟩
      rw [hfl]
      refine K _ ⟨List.replicate l.length ⟨v, hv⟩, by rw [List.map_replicate], R.mk' (by rw [List.length_replicate]; exact hl) hcap _ h1 fun i hi => ?_, .inr ⟨b, c', T, h1, h2, g1, by rw [g2]; exact h4⟩⟩ (by have := setCells_keep ⟨b, 0, none⟩ (List.replicate s.len v) 0 h; simpa [Sl.blk, h1] using this)
      rw [List.length_replicate] at hi
      have := g4 i (by rw [List.length_replicate]; omega)
      rw [addr_add _ _ rfl]
      simp only [Nat.zero_add] at this ⊢
      unfold cell?
      rw [g1]
      simpa using this
end Go.Sh

namespace Go.Sh
open Go Go.Lift Go.Cla
variable {h h' : Heap} {p : Addr} {x : Nm → Sl} {vs : Nm → List Value} {S : SS} {n : Nat} {cs : List Cl}
theorem MPg.size {α : Type} {toV : α → Value} {mp : Nat} {g : Int → Option α} (q : MPg toV h mp g) {k : Int → Prop} (K : ∀ m : Int, (m = 0 ↔ ∀ j, g j = none) → k m) : sizeM .i64 toV (some mp) h k := by
  obtain ⟨f, h1, h2⟩ := q
  refine ⟨f, f.length, h1, rfl, K _ ?_⟩
  constructor
  · intro h0 j
    have : f = [] := List.eq_nil_of_length_eq_zero (by omega)
    subst this
    rw [← h2]; rfl
  · intro h0
    cases f with
    | nil => rfl
    | cons a r =>
      have := h2 a.1
      rw [h0] at this
      simp [List.lookup] at this
abbrev d0 : Cl := ⟨[], false, 0⟩
end Go.Sh

namespace Go.Sh
open Go Go.Lift Go.Cla
variable {h h' : Heap} {p : Addr} {x : Nm → Sl} {vs : Nm → List Value} {S : SS} {n : Nat} {cs : List Cl}
end Go.Sh

namespace Go.Sh
open Go Go.Lift Go.Cla
variable {h h' : Heap} {p : Addr} {x : Nm → Sl} {vs : Nm → List Value} {S : SS} {n : Nat} {cs : List Cl}
theorem SM.srd (q : SM h p x vs S) : SRd h (x .cls, x .wat, x .val, x .lev, x .rea, x .tra, x .hea, (S.nxt : Int)) S S.nxt where
  clen := q.clsLen
  cls := ⟨fun i => x (.c i), fun i hi => by
    obtain ⟨a, h1, _, v, h2, h3⟩ := q.clsLd (k := fun v => v = (x (.c i), (S.cl i).learned, (S.cl i).use)) (i := (i : Int)) (j := i) rfl hi rfl
    subst h3
    rw [Int.toNat_natCast] at h2
    exact ⟨a, h1, h2, (q.cl i).r⟩⟩
  wat := ⟨(List.range S.wat.length).map fun w => x (.w w), ⟨by
    refine R.same (q.ns.own .wat |> fun o => by rw [show Nm.sc .wat = 1 from rfl, Sl.sc_one] at o; obtain ⟨ys, e, o'⟩ := o; exact R.same (toU := id) (ys := vs .wat) o'.r (by rw [e]; simp)) ?_
    rw [List.map_id]
    apply List.ext_getElem?
    intro i
    by_cases hi : i < S.wat.length
    · rw [q.enc.wr i hi]; simp [hi]
    · rw [List.getElem?_eq_none (by rw [q.enc.wlen]; omega), List.getElem?_eq_none (by simp; omega)], by simp, fun i h1 h2 => by
    simp only [List.getElem_map, List.getElem_range]
    have := (q.wt i).r
    unfold SS.wt at this
    rwa [List.getD_eq_getElem?_getD, List.getElem?_eq_getElem h2] at this⟩⟩
  val := q.val.r
  lev := q.lev.r
  rea := q.rea.r
  tra := q.tra.r
  hea := q.hea.r
  nx := rfl
end Go.Sh

namespace Go.Sh
open Go Go.Lift Go.Cla
variable {h h' : Heap} {x : S8} {S : SS} {nx : Int} {V : List Int}
structure Fol (S : SS) (V W : List Int) : Prop where
  len : W.length = V.length
  tri : Tri W
  told : ∀ l, vl V l = 1 → vl W l = 1
  der : ∀ l, vl W l = 1 → Der (C0 S) (fun l => vl V l = 1) l
theorem vl_set {W : List Int} {l m : Int} (hl : There W.length l) : vl (W.set (tr l) (sg l)) m = if There W.length m ∧ tr m = tr l then sg l * sg m else vl W m := by
  unfold vl
  rw [List.length_set]
  by_cases hm : There W.length m
  · rw [if_pos hm, at_setL _ _ _ _ hl.tr]
    by_cases e : tr m = tr l
    · rw [if_pos e, if_pos ⟨hm, e⟩]
    · rw [if_neg e, if_neg (fun h => e h.2), if_pos hm]
  · rw [if_neg hm, if_neg (fun h => hm h.1), if_neg hm]
theorem Fol.unit {W : List Int} (f : Fol S V W) {c : List Int} {l : Int} (hc : C0 S c) (hlc : l ∈ c) (hl : There W.length l) (h0 : vl W l = 0) (ho : ∀ m ∈ c, m ≠ l → vl W m = -1) : Fol S V (W.set (tr l) (sg l)) := by
  refine ⟨by rw [List.length_set]; exact f.len, fun y hy => ?_, fun m hm => ?_, fun m hm => ?_⟩
  · rcases List.mem_or_eq_of_mem_set hy with hy | rfl
    · exact f.tri y hy
    · rcases sg_or l with g | g <;> rw [g] <;> simp
  · have h1 := f.told m hm
    rw [vl_set hl]
    split
    · rename_i g
      rcases lit_eq hl.1 g.1.1 g.2.symm with e | e
      · rw [e] at h1; omega
      · rw [e, vl_neg] at h1; omega
    · exact h1
  · rw [vl_set hl] at hm
    split at hm
    · rename_i g
      have e : m = l := lit_same g.1.1 hl.1 g.2 (by
        rcases sg_or l with a | a <;> rcases sg_or m with b | b <;> rw [a, b] at hm ⊢ <;> simp at hm)
      subst e
      exact .unit hc hlc fun k hk hne => f.der _ (by rw [vl_neg, ho k hk hne]; rfl)
    · exact f.der m hm
end Go.Sh

namespace Go.Sh
open Go Go.Lift Go.Cla
variable {h h' : Heap} {p : Addr} {x : Nm → Sl} {vs : Nm → List Value} {S : SS} {n : Nat}
def lvS (S : SS) : SS := { S with hea := S.hea ++ [(S.tra.length : Int)] }
def decS (S : SS) (l : Int) : SS := putS (lvS S) l (-1)
theorem Ask.level (a : Ask n S) (hx : S.nxt = S.tra.length) (hh : S.hea.length < 1073741824) : Ask n (lvS S) := by
  have t := a.t
  refine ⟨{ nb := t.nb, vn := t.vn, ln := t.ln, rn := t.rn, wn := t.wn, tri := t.tri, cn := t.cn, fit := t.fit, tt := t.tt, tn := t.tn, tv := t.tv, nx := t.nx, hn := by show (S.hea ++ [_]).length ≤ _; simp; omega }, a.w.same rfl, fun j hj k hk hex => ?_, fun hd hm => ?_⟩
  · have := a.p j hj k hk hex
    have up : ∀ l, NotLate S k l → NotLate (lvS S) k l := by
      rintro l ⟨q, h1, h2, h3⟩
      refine ⟨q, h1, h2, fun hd hm hlt => ?_⟩
      rcases List.mem_append.1 hm with hm | hm
      · exact h3 hd hm hlt
      · simp at hm; omega
    exact ⟨fun e => up _ (this.1 e), fun e => up _ (this.2 e)⟩
  · rcases List.mem_append.1 hm with hm | hm
    · exact a.hd hd hm
    · simp at hm
      show hd ≤ (S.nxt : Int)
      omega
end Go.Sh
