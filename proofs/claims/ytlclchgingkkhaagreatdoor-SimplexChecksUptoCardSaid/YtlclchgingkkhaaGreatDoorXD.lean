/-
  Laws that the proof of this claim's statement leans on, each proved under the conditions that it states.
-/
import Derived.Test.YtlclchgingkkhaaGreatDoorXC
set_option linter.unusedVariables false
set_option linter.unusedSimpArgs false
namespace Go.Sh
open Go Go.Lift
theorem PK.push {K : Nat → Prop} {h h' : Heap} {s s' : Sl} {y : X4} {m : Rat × PL} (h3 : PK (fun k => K k ∨ s.blk = some k) h y m) (k' : Keep s.blk h h') (hb : s'.blk = s.blk ∨ ∀ b, s'.blk = some b → h.size ≤ b) : PK (fun k => K k ∨ s'.blk = some k) h' y m := by
  have h4 : PK (fun k => (K k ∨ s.blk = some k) ∨ s'.blk = some k) h y m := h3.raise fun k hk => by
    rcases hk with hk | hk
    · exact .inl hk
    · rcases hb with hb | hb
      · exact .inl (.inr (hb ▸ hk))
      · exact .inr (hb k hk)
  exact (h4.keep k' (fun k hk => .inl (.inr hk))).raise fun k hk => by
    rcases hk with hk | hk
    · exact .inl (.inl (.inl hk))
    · exact .inl (.inr hk)
theorem i1 : ((1 : Int) : Rat) = 1 := rfl
section
variable {K : Nat → Prop} {h : Heap} {x : S5} {t : TT}
end
end Go.Sh

namespace Go.Sh
open Go Go.Lift
theorem nC : ∀ (n : Nat) (l : List Int), l.Nodup → (∀ x ∈ l, 0 ≤ x ∧ x < (n : Int)) → l.length ≤ n
  | 0, [], _, _ => Nat.le_refl _
  | 0, x :: l, _, h => by have := h x (by simp); omega
  | n + 1, l, hl, h => by
    by_cases hm : (n : Int) ∈ l
    · have h1 := nC n (l.erase (n : Int)) (hl.erase _) fun x hx => by
        obtain ⟨h2, h3⟩ := (hl.mem_erase_iff).1 hx
        have := h x h3
        omega
      have := List.length_erase_of_mem hm
      omega
    · have := nC n l hl fun x hx => by
        have h1 := h x hx
        have : x ≠ (n : Int) := fun e => hm (e ▸ hx)
        omega
      omega
structure FitT (t : TT) (reals : Nat) : Prop where
  g : RG t
  nr : reals ≤ 20
  np : t.ps.length ≤ 6
  nv : t.vs.length = reals + t.ps.length
  pm : ∀ p ∈ t.ps, bg 60 p = true
  v : ∀ e ∈ t.vs, szD e ≤ 60
  lo : ∀ e ∈ t.lo, szD e.2 ≤ 60
  up : ∀ e ∈ t.up, szD e.2 ≤ 60
section
variable {t : TT} {reals : Nat}
theorem uU {p : Rat × PL} (hp : p ∈ t.ps) : ∃ i, i < t.ps.length ∧ p = psA t i := by
  obtain ⟨i, hi, rfl⟩ := List.getElem_of_mem hp
  exact ⟨i, hi, (br hi).symm⟩
theorem FitT.len (f : FitT t reals) {p : Rat × PL} (hp : p ∈ t.ps) : p.2.length ≤ 20 := by
  obtain ⟨i, hi, rfl⟩ := uU hp
  have r := f.g.row i hi
  have lb := f.g.lb
  have n1 : (psA t i).2.Pairwise fun a b => a.1 ≠ b.1 := r.rt.srt.imp fun h => by omega
  have n2 : ((psA t i).2.map (·.1)).Nodup := List.pairwise_map.2 n1
  have n3 : t.bs.Nodup := List.pairwise_iff_getElem.2 fun a b ha hb hab => by
    have := f.g.dis a b (by omega) (by omega) (by omega)
    rwa [fK ha, fK hb] at this
  have n4 : ((psA t i).2.map (·.1) ++ t.bs).Nodup := List.nodup_append.2 ⟨n2, n3, fun a ha b hb e => by
    obtain ⟨m, hm, rfl⟩ := List.mem_map.1 ha
    obtain ⟨k, hk, rfl⟩ := List.getElem_of_mem hb
    have := (r.vars m hm).2 k (by omega)
    rw [fK hk] at this
    exact this e⟩
  have := nC t.vs.length _ n4 fun x hx => by
    rcases List.mem_append.1 hx with hx | hx
    · obtain ⟨m, hm, rfl⟩ := List.mem_map.1 hx
      exact ⟨r.rt.nn m hm, (r.vars m hm).1⟩
    · obtain ⟨k, hk, rfl⟩ := List.getElem_of_mem hx
      have := f.g.rng k (by omega)
      rwa [fK hk] at this
  simp only [List.length_append, List.length_map] at this
  have := f.nv; have := f.nr
  omega
theorem FitT.tsz (f : FitT t reals) : TSz t 20 60 := by
  have lb := f.g.lb; have ll := f.g.ll; have lu := f.g.lu; have nv := f.nv; have nr := f.nr; have np := f.np
  refine ⟨fun p hp => ?_, fun p hp => f.len hp, fun p hp => (zZ.1 (f.pm p hp)).1, fun p hp => (zZ.1 (f.pm p hp)).2, f.v, f.lo, f.up, by omega, by omega, by omega, by omega, by omega⟩
  obtain ⟨i, hi, rfl⟩ := uU hp
  exact (f.g.row i hi).rt
theorem FitT.ok (f : FitT t reals) : ∀ p ∈ t.ps, PvOk 60 p := fun p hp => by
  have z := zZ.1 (f.pm p hp)
  have l := f.len hp
  obtain ⟨i, hi, rfl⟩ := uU hp
  have r := f.g.row i hi
  have nv := f.nv; have nr := f.nr; have np := f.np
  exact ⟨r.rt.srt, fun m hm => ⟨r.rt.nn m hm, by have := (r.vars m hm).1; omega⟩, by omega, z.1, z.2⟩
theorem FitT.piv {i : Nat} {v : Int} (f : FitT t reals) (hi : i < t.ps.length) (hk : ak (psA t i).2 v ≠ 0) (hp : ∀ p ∈ (pivT t i v).ps, bg 60 p = true) : FitT (pivT t i v) reals :=
  ⟨f.g.pivT hi hk, f.nr, by rw [cz]; exact f.np, by rw [cz]; exact f.nv, hp, f.v, f.lo, f.up⟩
theorem FitT.upd {v : Int} {d : Rat × Rat} (f : FitT t reals) (h0 : 0 ≤ v) (h1 : v < (t.vs.length : Int)) (h2 : rowI t.bs v < 0) (hv : ∀ e ∈ (updT t v d).vs, szD e ≤ 60) : FitT (updT t v d) reals := by
  have g := f.g.updT (d := d) h0 h1 h2
  refine ⟨g, f.nr, f.np, ?_, f.pm, hv, f.lo, f.up⟩
  rw [← g.ll]
  show t.lo.length = _
  rw [f.g.ll, f.nv]; rfl
theorem FitT.new {ps : List (Rat × PL)} (nr : reals ≤ 20) (np : ps.length ≤ 6) (rt : ∀ p ∈ ps, Rt p) (c : ∀ p ∈ ps, p.1 = 0) (hl : ∀ p ∈ ps, ∀ m ∈ p.2, m.1 < (reals : Int)) (hf : ∀ p ∈ ps, bg 60 p = true) : FitT (newT reals ps) reals := by
  have ab : ∀ k, k < ps.length → at0 (newT reals ps).bs k = ((reals + k : Nat) : Int) := fun k hk => by
    rw [fK (by simpa [newT] using hk)]
    simp [newT]
  have pa : ∀ k (hk : k < ps.length), psA (newT reals ps) k = ps[k] := fun k hk => br (t := newT reals ps) hk
  have at00 : ∀ w, atD (List.replicate (reals + ps.length) ((0, 0) : Rat × Rat)) w = (0, 0) := fun w => by
    unfold atD
    rw [List.getD_eq_getElem?_getD, List.getElem?_replicate]
    split <;> rfl
  have val0 : ∀ {f : Int → Rat} {l : PL}, (∀ w, f w = 0) → valL f l = 0 := fun {f l} h0 => by
    induction l with
    | nil => rfl
    | cons m l ih => simp only [valL, ih, h0]; grind
  have z0 : szD ((0, 0) : Rat × Rat) ≤ 60 := by rw [cO]; omega
  refine ⟨⟨by simp [newT], by simp [newT], by simp [newT], fun e he => ?_, fun e he => ?_, fun i hi => ?_, fun i k hi hk hik => ?_, fun i hi => ?_, fun i hi => ?_⟩, nr, np, by simp [newT], hf, fun e he => ?_, fun e he => ?_, fun e he => ?_⟩
  · have := List.eq_of_mem_replicate he; subst this; exact fun _ => rfl
  · have := List.eq_of_mem_replicate he; subst this; exact fun _ => rfl
  · rw [ab i hi]
    have hi : i < ps.length := hi
    simp [newT]; omega
  · rw [ab i hi, ab k hk]; omega
  · have hi : i < ps.length := hi
    rw [pa i hi]
    have hm := List.getElem_mem hi
    refine ⟨rt _ hm, c _ hm, fun m hm' => ⟨?_, fun k hk => ?_⟩⟩
    · have := hl _ hm m hm'
      simp [newT]; omega
    · have hk : k < ps.length := hk
      rw [ab k hk]
      have := hl _ hm m hm'
      omega
  · show valV (atD (List.replicate (reals + ps.length) ((0, 0) : Rat × Rat))) _ = atD (List.replicate (reals + ps.length) ((0, 0) : Rat × Rat)) _
    rw [at00]
    unfold valV
    rw [val0 fun w => by rw [at00], val0 fun w => by rw [at00]]
  · have := List.eq_of_mem_replicate he; subst this; exact z0
  · have := List.eq_of_mem_replicate he; subst this; exact z0
  · have := List.eq_of_mem_replicate he; subst this; exact z0
end
end Go.Sh

namespace Go.Sh
open Go Go.Lift
theorem tX {h0 h : Heap} {rows : Sl} {n : Int} {ys : List X4} {Q : Bool → Heap → Prop} (hs : RS CP 4 h rows ys) (e0 : Ext h0 h) (hraw : ∀ y ∈ ys, x7 h0 y)
    (K : ∀ b h', (b = false → ys.length ≤ 6 ∧ n ≤ 20 ∧ ∀ y ∈ ys, SmP h0 y) → Ext h h' → Q b h') : im rows n h Q := by
  have hl := hs.len
  refine seq.dup ⟨fun _ => K true h nofun (Keep.refl _ _), fun g => ⟨fun _ => K true h nofun (Keep.refl _ _), fun g2 => ?_⟩⟩
  have g := of_decide_eq_false g
  have g2 := of_decide_eq_false g2
  exact zH hs e0 (by omega) (fun y hy => (hraw y hy).1) fun b h' hb e => K b h' (fun hf => ⟨by omega, by omega, hb hf⟩) e
section
variable {h0 h : Heap} {V : Vol} {x : S5} {t : TT} {n : Nat}
variable {K : Nat → Prop} {y : S5} {t' : TT}
end
end Go.Sh
