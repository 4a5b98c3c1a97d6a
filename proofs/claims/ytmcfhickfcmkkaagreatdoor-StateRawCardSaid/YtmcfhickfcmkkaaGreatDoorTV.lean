/-
  Laws that the proof of this claim's statement leans on, each proved under the conditions that it states.
-/
import Derived.Test.YtmcfhickfcmkkaaGreatDoorSV
import Derived.Test.YtmcfhickfcmkkaaGreatDoorTT
import Derived.Test.YtmcfhickfcmkkaaGreatDoorTB
set_option linter.unusedVariables false
set_option linter.unusedSimpArgs false
namespace Go.Sh.Pk
open Go Go.Lift
theorem anyI {body : Int → Heap → (Bool → Heap → Prop) → Prop} {n : Nat} {len : Int} {J : Nat → Heap → Prop} {p : Nat → Bool} {Q : Bool → Heap → Prop} {h : Heap} (hlen : len = (n : Int)) (hn : n ≤ 1048576) (h0 : J 0 h)
    (hf : ∀ i h', i < n → J i h' → ∀ R : Bool → Heap → Prop, (∀ h2, J (i + 1) h2 → R (p i) h2) → body (i : Int) h' R)
    (K : ∀ h' i, J i h' → Q ((List.range n).any p) h') :
    loop (fun (s0 : Int) h0 (K0 : Int → Heap → Prop) => iteB (decide (s0 < len)) (body s0 h0 fun v h1 => iteB v (Q (decide (s0 ≥ 0)) h1) (K0 (IntKind.wrap .i64 (s0 + 1)) h1)) (Q (decide ((-1 : Int) ≥ 0)) h0)) 0 h := by
  refine amU (Q := fun v h => Q (decide (v ≥ 0)) h) (I := fun i h' => J i h' ∧ ∀ j, j < i → p j = false) (F := fun i h' => J (i + 1) h' ∧ p i = true) hlen hn ⟨h0, fun j hj => by omega⟩ (fun i h' hi hI R R1 R2 => ?_) (fun i h' hi hF => ?_) (fun h' hI => ?_)
  · refine hf i h' hi hI.1 R fun h2 hJ => ?_
    cases hp : p i with
    | true => exact R1 h2 ⟨hJ, hp⟩
    | false =>
      refine R2 h2 ⟨hJ, fun j hj => ?_⟩
      by_cases e : j = i
      · rw [e]; exact hp
      · exact hI.2 j (by omega)
  · have e : (List.range n).any p = true := List.any_eq_true.2 ⟨i, List.mem_range.2 hi, hF.2⟩
    have := K h' _ hF.1
    rw [e] at this
    have e2 : decide ((i : Int) ≥ 0) = true := by simp
    show Q (decide ((i : Int) ≥ 0)) h'
    rw [e2]; exact this
  · have e : (List.range n).any p = false := by
      rw [List.any_eq_false]
      intro x hx
      rw [hI.2 x (List.mem_range.1 hx)]; simp
    have := K h' _ hI.1
    rw [e] at this
    exact this
section
variable {h : Heap} {p : S7}
def aad (n l : Int) : Bool := (l == 0) || (decide (l > n) || decide (l < IntKind.wrap .i64 (0 - n)))
theorem aiC {l : Int} {c0 : Addr} {Q : Bool → Heap → Prop} (hc : cells? h c0 7 0 = some (P7 p)) (K : Q (aad p.1 l) h) : iW l c0 h Q := by
  have h0 := ml hc 0 (by decide)
  unfold aad at K
  refine seq.dup ⟨fun b => ?_, fun b => ⟨_, h0, ⟨fun b2 => ?_, fun b2 => ⟨_, h0, ?_⟩⟩⟩⟩
  · rw [b] at K; exact K
  · rw [b] at K; have b2 : decide (l > p.1) = true := b2; rw [b2] at K; exact K
  · rw [b] at K; have b2 : decide (l > p.1) = false := b2; rw [b2] at K; exact K
theorem sI {α : Type} {l : List α} {f : α → Bool} {g : Nat → Bool} (hg : ∀ i (hi : i < l.length), g i = f l[i]) : (List.range l.length).any g = l.any f := by
  rw [Bool.eq_iff_iff, List.any_eq_true, List.any_eq_true]
  constructor
  · rintro ⟨i, hi, h⟩
    have hi := List.mem_range.1 hi
    exact ⟨l[i], List.getElem_mem hi, by rw [← hg i hi]; exact h⟩
  · rintro ⟨x, hx, h⟩
    obtain ⟨i, hi, rfl⟩ := List.getElem_of_mem hx
    exact ⟨i, List.mem_range.2 hi, by rw [hg i hi]; exact h⟩
theorem acY {c : Sl} {xs : List Int} {f : FnV} {c0 : Addr} {Q : Bool → Heap → Prop} (hf : f = FnV.mk 64 [] [Value.pointer (some c0)]) (hc : cells? h c0 7 0 = some (P7 p)) (hr : RJ' h c xs) (hl : xs.length ≤ 1048576) (K : Q (xs.any (aad p.1)) h) : dU c f h Q := by
  have hlen := hr.len
  refine anyI (body := fun s0 h0 R => idxS c s0 1 fun a => Lift.load (Value.int .i64) a h0 fun v => dyn (fun (K0u1 : Bool → Heap → Prop) => (∃ (dc3u0 : Addr), f = FnV.mk 64 [] [Value.pointer (some dc3u0)] ∧ iW v dc3u0 h0 K0u1) ∨ (f = FnV.mk 76 [] [] ∧ fy v h0 K0u1) ∨ (f = FnV.mk 82 [] [] ∧ dO v h0 K0u1)) R) (n := xs.length) (J := fun _ h' => h' = h) (p := fun i => aad p.1 (at0 xs i)) (by rw [hlen]) hl rfl (fun i h' hi hI R hR => ?_) fun h' i hI => ?_
  · subst hI
    exact RJ.ld hr rfl hi (.inl ⟨c0, hf, aiC hc (hR _ rfl)⟩)
  · subst hI
    rw [sI (f := aad p.1) fun i hi => by rw [jV hi]]
    exact K
theorem adF {s : Sl} {lost c0 : Addr} {xss : List (List Int)} {Q : Bool → Heap → Prop} (hf : cell? h lost = some (FnV.toV (FnV.mk 64 [] [Value.pointer (some c0)]))) (hc : cells? h c0 7 0 = some (P7 p)) (hq : LLX h s xss) (hl : xss.length ≤ 1048576) (hx : ∀ xs ∈ xss, xs.length ≤ 1048576) (K : Q (xss.any fun xs => xs.any (aad p.1)) h) : aB s lost h Q := by
  have hlen := hq.len
  refine anyI (body := fun s0 h0 R => idxS s s0 1 fun a => Lift.load Sl.toV a h0 fun v => oy v lost h0 R) (n := xss.length) (J := fun _ h' => h' = h) (p := fun i => (xss.getD i []).any (aad p.1)) (by rw [hlen]) hl rfl (fun i h' hi hI R hR => ?_) fun h' i hI => ?_
  · subst hI
    refine hq.at (i := (i : Int)) rfl hi fun a y hc1 hy => ?_
    have := cells?_get _ _ _ hc1 0 (by simp)
    refine ⟨y, by simpa [Addr.add] using this, _, hf, acY rfl hc hy (hx _ (List.getElem_mem _)) ?_⟩
    have e : xss.getD i [] = xss[i] := by rw [List.getD_eq_getElem?_getD, List.getElem?_eq_getElem hi]; rfl
    have := hR _ rfl
    rw [e] at this
    exact this
  · subst hI
    rw [sI (f := fun xs => xs.any (aad p.1)) fun i hi => by rw [List.getD_eq_getElem?_getD, List.getElem?_eq_getElem hi]; rfl]
    exact K
end
structure PFit (q : Rat × PL) : Prop where
  n : q.2.length ≤ 1000
  c : szQ q.1 ≤ 1000
  m : ∀ m ∈ q.2, szQ m.2 ≤ 1000
def aja (q : Rat × PL) : Int := (q.2.getD (q.2.length - 1) (0, 0)).1
open Classical in
noncomputable def rowB (m : Int) (q : Rat × PL) : Bool := decide (Rt q ∧ 1 < q.2.length ∧ q.1 = 0 ∧ aja q < m)
section
variable {h0 h : Heap} {p : S7} {c0 cf : Addr}
theorem adX {x : X4} {q : Rat × PL} {Q : Bool → Heap → Prop} (ht : Tab h0) (e0 : Ext h0 h) (hq : PQ h0 x q) (z : PFit q) (K : ∀ b h', (b = true ↔ Rt q) → Ext h h' → Q b h') : iZ x h Q := by
  have hl := hq.m.len
  have hz := z.n
  refine xF ht (hq.raw z.c z.m) e0 (by omega) fun b h2 hb e2 => K b h2 ⟨fun hb1 => ?_, fun hr => hb.2 ⟨q, hq, hr⟩⟩ e2
  obtain ⟨q', hq', hr⟩ := hb.1 hb1
  rw [hq.uniq hq']; exact hr
open Classical in
theorem afg {x : X4} {q : Rat × PL} {Q : Bool → Heap → Prop} (ht : Tab h0) (e0 : Ext h0 h) (hq : PQ h0 x q) (z : PFit q) (hc : cells? h c0 7 0 = some (P7 p)) (K : ∀ h', Ext h h' → Q (rowB p.2.1 q) h') : oJ x c0 h Q := by
  have hl := hq.m.len
  have hz := z.n
  have no : ∀ {hh : Heap}, ¬ (Rt q ∧ 1 < q.2.length ∧ q.1 = 0 ∧ aja q < p.2.1) → Ext h hh → Q false hh := fun hn e => by have := K _ e; unfold rowB at this; rw [decide_eq_false hn] at this; exact this
  refine ak fun h1 e1 => seq.dup ?_
  refine adX (x := x) ht (e0.trans e1) hq z fun b h2 hb e2 => ⟨fun hbt => ⟨fun hg => ?_, fun hg => ?_⟩, fun hbf => no (fun hh => by rw [hb.2 hh.1] at hbf; cases hbf) (e1.trans e2)⟩
  · have e02 := e0.trans (e1.trans e2)
    have hg : 1 < q.2.length := by have := of_decide_eq_true hg; omega
    refine xB (x := cst x) (hq.c.ext e02) fun h3 e3 => ⟨fun hs => ?_, fun hs => ?_⟩
    · have e13 := e1.trans (e2.trans e3)
      have hij : IntKind.wrap .i64 (((x.2.2.2.len : Nat) : Int) - 1) = ((q.2.length - 1 : Nat) : Int) := by rw [w64 (by omega) (by omega)]; omega
      refine hq.m.atE (e0.trans e13) hij (by omega) fun a y hy hy1 _ => ⟨_, ams hy, _, ao e13 (ml hc 1 (by decide)) (by simp), ?_⟩
      have hc0 : q.1 = 0 := by simpa using hs
      have hlv : aja q = y.1 := by unfold aja; rw [List.getD_eq_getElem?_getD, List.getElem?_eq_getElem (by omega)]; exact hy1.symm
      have := K h3 e13
      unfold rowB at this
      rw [hlv] at this
      have e : (decide (Rt q ∧ 1 < q.2.length ∧ q.1 = 0 ∧ y.1 < p.2.1)) = decide (y.1 < p.2.1) := by
        rw [decide_eq_decide]; exact ⟨fun h => h.2.2.2, fun h => ⟨hb.1 hbt, hg, hc0, h⟩⟩
      rw [e] at this
      exact this
    · exact no (fun hh => by rw [hh.2.2.1] at hs; simp at hs) (e1.trans (e2.trans e3))
  · have hg := of_decide_eq_false hg
    exact no (fun hh => by omega) (e1.trans e2)
theorem agw {x : X4} {q : Rat × PL} {Q : Bool → Heap → Prop} (ht : Tab h0) (e0 : Ext h0 h) (hq : PQ h0 x q) (z : PFit q) (hf : cell? h cf = some (FnV.toV (FnV.mk 137 [] [Value.pointer (some c0)]))) (hc : cells? h c0 7 0 = some (P7 p)) (K : ∀ h', Ext h h' → Q (!(rowB p.2.1 q)) h') : lJ x cf h Q := by
  refine ak fun h1 e1 => ⟨_, ao e1 hf (by simp), c0, rfl, ?_⟩
  exact afg (x := x) ht (e0.trans e1) hq z (aO e1 hc) fun h2 e2 => K h2 (e1.trans e2)
theorem jw {α : Type} {l : List α} {i : Nat} {d : α} (hi : i < l.length) : l.getD i d = l[i] := by rw [List.getD_eq_getElem?_getD, List.getElem?_eq_getElem hi]; rfl
theorem aeT {s : Sl} {ps : List (Rat × PL)} {Q : Bool → Heap → Prop} (ht : Tab h0) (e0 : Ext h0 h) (hq : RowQ CP 4 PQ h0 s ps) (z : ∀ q ∈ ps, PFit q) (hl : ps.length ≤ 1000) (hf : cell? h cf = some (FnV.toV (FnV.mk 137 [] [Value.pointer (some c0)]))) (hc : cells? h c0 7 0 = some (P7 p))
    (K : ∀ h', Ext h h' → Q (ps.any fun q => !(rowB p.2.1 q)) h') : aw s cf h Q := by
  have hlen := hq.len
  refine anyI (body := fun s0 h0 R => idxS s s0 4 fun a => cg CP 4 a h0 fun v => lJ (v.1, v.2.1, v.2.2.1, v.2.2.2) cf h0 R) (n := ps.length) (J := fun _ h' => Ext h h') (p := fun i => !(rowB p.2.1 (ps.getD i (0, [])))) (by rw [hlen]) (by omega) (Keep.refl _ _) (fun i h' hi hI R hR => ?_) fun h' i hI => ?_
  · refine hq.ldE (e0.trans hI) rfl hi fun y hy => agw (x := y) ht (e0.trans hI) hy (z _ (List.getElem_mem _)) (ao hI hf (by simp)) (aO hI hc) fun h2 e2 => ?_
    have := hR h2 (hI.trans e2)
    rw [jw hi] at this
    exact this
  · rw [sI (f := fun q => !(rowB p.2.1 q)) fun i hi => by rw [jw hi]]
    exact K h' hI
def ag0 (n m : Int) (k : Nat) (a : AT) : Bool := decide (((a.r = -1 ∧ 0 ≤ a.u ∧ a.u < m) ∨ (0 ≤ a.r ∧ a.r < (k : Int) ∧ a.u = 0)) ∧ (a.b.2 = 0 ∨ a.b.2 = -1) ∧ 0 ≤ a.v ∧ a.v < n)
theorem acw {y : A9} {a : AT} {c1 : Addr} {mp : Nat} {g : Int → Option Bool} {Q : Bool → Heap → Prop} (ht : Tab h0) (e0 : Ext h0 h) (hy : AQ h0 y a) (z : szD a.b ≤ 1000) (hc : cells? h c0 7 0 = some (P7 p)) (h1 : cell? h c1 = some (Value.map (some mp))) (hmp : MPg Value.bool h mp g) (hne : c1.block ≠ mp)
    (K : ∀ h', MPg Value.bool h' mp (fun j => if j = a.v then some true else g j) → Keep (some mp) h h' → Q (ag0 p.1 p.2.1 p.2.2.1.len a && !((g a.v).getD false)) h') : i6 y c0 c1 h Q := by
  obtain ⟨y1, y2, y3, y4⟩ := hy
  have hz : 0 < h0.size := by have := _root_.Go.Lift.R.lt ht rfl (by decide); omega
  unfold szD at z
  refine ak fun h2 e2 => ?_
  have hc2 := aO e2 hc
  have hcd : ∀ (b : Bool) (P : Prop), (b = true ↔ P) ↔ (b = true ↔ P) := fun _ _ => Iff.rfl
  refine seq.cut (fun b h' => h' = h2 ∧ (b = true ↔ ((a.r = -1 ∧ 0 ≤ a.u ∧ a.u < p.2.1) ∨ (0 ≤ a.r ∧ a.r < ((p.2.2.1.len : Nat) : Int) ∧ a.u = 0)))) ?_ ?_
  · have tail : ¬ (a.r = -1 ∧ 0 ≤ a.u ∧ a.u < p.2.1) → iteB (decide (y.2.2.1 ≥ 0)) (Lift.load Sl.toV (c0.add 2) h2 fun v_1 => iteB (decide (y.2.2.1 < ((v_1.len : Nat) : Int))) (Let ((y.2.1 == 0) : Bool) fun over => h2 = h2 ∧ (over = true ↔ ((a.r = -1 ∧ 0 ≤ a.u ∧ a.u < p.2.1) ∨ (0 ≤ a.r ∧ a.r < ((p.2.2.1.len : Nat) : Int) ∧ a.u = 0)))) (h2 = h2 ∧ (false = true ↔ ((a.r = -1 ∧ 0 ≤ a.u ∧ a.u < p.2.1) ∨ (0 ≤ a.r ∧ a.r < ((p.2.2.1.len : Nat) : Int) ∧ a.u = 0))))) (h2 = h2 ∧ (false = true ↔ ((a.r = -1 ∧ 0 ≤ a.u ∧ a.u < p.2.1) ∨ (0 ≤ a.r ∧ a.r < ((p.2.2.1.len : Nat) : Int) ∧ a.u = 0)))) := by
      intro hn
      rw [y2, y3]
      refine ⟨fun g1 => ⟨_, ml hc2 2 (by decide), ⟨fun g2 => LetI ⟨rfl, ?_⟩, fun g2 => ⟨rfl, nofun, ?_⟩⟩⟩, fun g1 => ⟨rfl, nofun, ?_⟩⟩
      · have g1 := of_decide_eq_true g1
        have g2 := of_decide_eq_true g2
        rw [beq_iff_eq]
        exact ⟨fun h => .inr ⟨g1, g2, h⟩, fun h => h.elim (fun h => absurd h hn) fun h => h.2.2⟩
      · have g2 := of_decide_eq_false g2
        exact fun h => h.elim (fun h => absurd h hn) fun h => absurd h.2.1 g2
      · have g1 := of_decide_eq_false g1
        exact fun h => h.elim (fun h => absurd h hn) fun h => absurd h.1 g1
    refine ⟨fun g1 => ⟨fun g2 => ⟨_, ml hc2 1 (by decide), ⟨fun g3 => ⟨rfl, fun _ => .inl ?_, fun _ => rfl⟩, fun g3 => tail ?_⟩⟩, fun g2 => tail ?_⟩, fun g1 => tail ?_⟩
    · have g3 := of_decide_eq_true g3
      have g2 := of_decide_eq_true g2
      rw [beq_iff_eq, y3] at g1
      rw [y2] at g2 g3
      exact ⟨g1, g2, g3⟩
    · have g3 := of_decide_eq_false g3
      rw [y2] at g3
      exact fun h => absurd h.2.2 g3
    · have g2 := of_decide_eq_false g2
      rw [y2] at g2
      exact fun h => absurd h.2.1 g2
    · rw [beq_eq_false_iff_ne, y3] at g1
      exact fun h => absurd h.1 g1
  rintro o1 hx ⟨hxe, ho1⟩
  rw [hxe]
  clear hxe hx
  have e02 := e0.trans e2
  refine seq.cut (fun b h' => Ext h2 h' ∧ (b = true ↔ (a.b.2 = 0 ∨ a.b.2 = -1))) ?_ ?_
  · refine xB (x := dB y.2.2.2) (y4.b.ext e02) fun h3 e3 => ⟨fun hs => ⟨e3, fun _ => .inl (by simpa using hs), fun _ => rfl⟩, fun hs => ?_⟩
    refine OfQ (by decide) (by decide) fun u h4 hu _ e4 => ?_
    have s1 : szQ ((-1 : Int) : Rat) ≤ 2 := alL (by decide)
    refine adI (x := dB y.2.2.2) ((y4.b.ext e02).ext (e3.trans e4)) hu (by omega) (by have := (e02.trans (e3.trans e4)).size; omega) fun h5 e5 => ⟨(e3.trans e4).trans e5, ?_⟩
    have hn0 : ¬ a.b.2 = 0 := by intro h; rw [h] at hs; simp at hs
    have em : (((-1 : Int)) : Rat) = -1 := by grind
    rw [em, beq_iff_eq, Int.sign_eq_zero_iff_zero, Int.sub_eq_zero, ← Rat.eq_iff_mul_eq_mul]
    exact ⟨fun h => .inr h, fun h => h.elim (fun h => absurd h hn0) id⟩
  rintro o2 h3 ⟨e3, ho2⟩
  have e03 := e02.trans e3
  have e23 := e2.trans e3
  have hc3 := aO e3 hc2
  have h13 := ao e23 h1 (by simp)
  have m3 := hmp.keep e23 (by simp)
  have cb : ∀ {P : Prop} [Decidable P] {b : Bool}, (b = true ↔ P) → b = decide P := fun {P _ b} h => by
    cases b
    · exact (decide_eq_false fun hp => by cases h.2 hp).symm
    · exact (decide_eq_true (h.1 rfl)).symm
  refine seq.cut (fun b h' => Ext h3 h' ∧ b = (ag0 p.1 p.2.1 p.2.2.1.len a && !((g a.v).getD false))) ?_ ?_
  · have nk : ∀ {hh : Heap}, Ext h3 hh → ¬ (((a.r = -1 ∧ 0 ≤ a.u ∧ a.u < p.2.1) ∨ (0 ≤ a.r ∧ a.r < ((p.2.2.1.len : Nat) : Int) ∧ a.u = 0)) ∧ (a.b.2 = 0 ∨ a.b.2 = -1) ∧ 0 ≤ a.v ∧ a.v < p.1) → (Ext h3 hh ∧ false = (ag0 p.1 p.2.1 p.2.2.1.len a && !((g a.v).getD false))) := fun e hf => ⟨e, by unfold ag0; rw [decide_eq_false hf]; rfl⟩
    refine ⟨fun g1 => ⟨fun g2 => ⟨fun g3 => ⟨_, ml hc3 0 (by decide), ⟨fun g4 => ⟨_, h13, ?_⟩, fun g4 => nk (Keep.refl _ _) fun ok => ?_⟩⟩, fun g3 => nk (Keep.refl _ _) fun ok => ?_⟩, fun g2 => nk (Keep.refl _ _) fun ok => ?_⟩, fun g1 => nk (Keep.refl _ _) fun ok => ?_⟩
    · have g3 := of_decide_eq_true g3
      have g4 := of_decide_eq_true g4
      rw [y1] at g3 g4
      have hA : ag0 p.1 p.2.1 p.2.2.1.len a = true := decide_eq_true ⟨ho1.1 g1, ho2.1 g2, g3, g4⟩
      rw [hA, Bool.true_and]
      refine m3.look (zero := false) ⟨fun g5 => ?_, fun g5 => ⟨Keep.refl _ _, ?_⟩⟩
      · rw [y1] at g5
        refine gQ (x := dA y.2.2.2) (R.ext ht e03) (y4.a.ext e03) (by omega) fun h4 e4 => ⟨fun _ => ?_, fun hh => by cases hh⟩
        refine gQ (x := dB y.2.2.2) (R.ext ht (e03.trans e4)) (y4.b.ext (e03.trans e4)) (by omega) fun h5 e5 => ⟨e4.trans e5, g5.symm⟩
      · rw [y1] at g5; exact g5.symm
    · have g4 := of_decide_eq_false g4
      rw [y1] at g4
      exact g4 ok.2.2.2
    · have g3 := of_decide_eq_false g3
      rw [y1] at g3
      exact g3 ok.2.2.1
    · rw [ho2.2 ok.2.1] at g2; cases g2
    · rw [ho1.2 ok.1] at g1; cases g1
  rintro o3 h4 ⟨e4, ho3⟩
  have e24 := e23.trans e4
  refine ⟨_, ao e24 h1 (by simp), (hmp.keep e24 (by simp)).set fun h5 m5 k5 _ => ?_⟩
  rw [ho3]
  refine K h5 ?_ ((Keep.of_ext e24).trans k5)
  rw [y1] at m5
  exact m5
open Classical in
noncomputable def afY (n m : Int) (k : Nat) (as : List AT) (i : Nat) : Bool := !(ag0 n m k (as.getD i ⟨0, 0, 0, (0, 0)⟩) && !(decide (∃ j, j < i ∧ (as.getD j ⟨0, 0, 0, (0, 0)⟩).v = (as.getD i ⟨0, 0, 0, (0, 0)⟩).v)))
theorem aeW {as : List AT} {c1 : Addr} {mp : Nat} {Q : Bool → Heap → Prop} (ht : Tab h0) (e0 : Ext h0 h) (hq : RowQ C9 9 AQ h0 p.2.2.2.1 as) (z : ∀ a ∈ as, szD a.b ≤ 1000) (hl : as.length ≤ 1000) (hf : cell? h cf = some (FnV.toV (FnV.mk 138 [] [Value.pointer (some c0), Value.pointer (some c1)])))
    (hc : cells? h c0 7 0 = some (P7 p)) (h1 : cell? h c1 = some (Value.map (some mp))) (hmp : MPg Value.bool h mp fun _ => none) (n0 : c0.block ≠ mp) (n1 : c1.block ≠ mp) (nf : cf.block ≠ mp) (hmp0 : h0.size ≤ mp)
    (K : ∀ h', Keep (some mp) h h' → Q ((List.range as.length).any (afY p.1 p.2.1 p.2.2.1.len as)) h') : ar p.2.2.2.1 cf h Q := by
  have hlen := hq.len
  have kn : ∀ {x : Addr}, x.block ≠ mp → some x.block ≠ some mp := fun h e => h (Option.some.inj e)
  refine anyI (body := fun s0 h0 R => idxS p.2.2.2.1 s0 9 fun a => cg C9 9 a h0 fun v => oW (v.1, v.2.1, v.2.2.1, v.2.2.2.1, v.2.2.2.2.1, v.2.2.2.2.2.1, v.2.2.2.2.2.2.1, v.2.2.2.2.2.2.2.1, v.2.2.2.2.2.2.2.2) cf h0 R) (n := as.length)
    (J := fun i h' => Keep (some mp) h h' ∧ ∃ g : Int → Option Bool, MPg Value.bool h' mp g ∧ ∀ k, g k = if ∃ j, j < i ∧ (as.getD j ⟨0, 0, 0, (0, 0)⟩).v = k then some true else none) (p := afY p.1 p.2.1 p.2.2.1.len as) (by rw [hlen]) (by omega) ⟨Keep.refl _ _, _, hmp, fun k => by rw [if_neg]; rintro ⟨j, hj, _⟩; omega⟩ (fun i h' hi hI R hR => ?_) fun h' i hI => K h' hI.1
  obtain ⟨kk, g, mg, hg⟩ := hI
  have e0' : Ext h0 h' := e0.fresh hmp0 kk
  refine hq.ldE e0' rfl hi fun y hy => ak fun h2 e2 => ?_
  have k2 : Keep (some mp) h h2 := kk.trans (Keep.of_ext e2)
  refine ⟨_, ao k2 hf (kn nf), c0, c1, rfl, ?_⟩
  refine acw (y := y) ht (e0'.trans e2) hy (z _ (List.getElem_mem _)) (gW k2 (kn n0) hc) (ao k2 h1 (kn n1)) (mg.keep e2 (by simp)) n1 fun h3 m3 k3 => ?_
  have hgi : (g (as[i]'hi).v).getD false = decide (∃ j, j < i ∧ (as.getD j ⟨0, 0, 0, (0, 0)⟩).v = (as.getD i ⟨0, 0, 0, (0, 0)⟩).v) := by
    rw [hg, jw hi]
    split
    · rename_i hh; rw [decide_eq_true hh]; rfl
    · rename_i hh; rw [decide_eq_false hh]; rfl
  have := hR h3 ⟨k2.trans k3, _, m3, fun k => ?_⟩
  · unfold afY at this
    rw [← hgi, jw hi] at this
    exact this
  · rw [hg]
    by_cases e : k = (as[i]'hi).v
    · rw [if_pos e, if_pos]
      exact ⟨i, by omega, by rw [jw hi]; exact e.symm⟩
    · rw [if_neg e]
      congr 1
      apply propext
      constructor
      · rintro ⟨j, hj, he⟩; exact ⟨j, by omega, he⟩
      · rintro ⟨j, hj, he⟩
        refine ⟨j, ?_, he⟩
        by_cases eji : j = i
        · subst eji; rw [jw hi] at he; exact absurd he.symm e
        · omega
end
end Go.Sh.Pk

namespace Go.Sh.Pk
open Go Go.Lift
theorem LLX.ext {h h' : Heap} {s : Sl} {l : List (List Int)} (q : LLX h s l) (e : Ext h h') : LLX h' s l := RowQ.ext (R := RJ') (fun _ _ _ _ r e => R.ext r e) q e
structure PBX (h : Heap) (p : S7) (ps : List (Rat × PL)) (as : List AT) (xss : List (List Int)) : Prop where
  rows : RowQ CP 4 PQ h p.2.2.1 ps
  ats : RowQ C9 9 AQ h p.2.2.2.1 as
  cls : LLX h p.2.2.2.2.1 xss
  np : ps.length ≤ 1000
  na : as.length ≤ 1000
  nc : xss.length ≤ 1000
  zp : ∀ q ∈ ps, PFit q
  za : ∀ a ∈ as, szD a.b ≤ 1000
  cl : ∀ xs ∈ xss, xs.length ≤ 1000
noncomputable def cnfB (p : S7) (ps : List (Rat × PL)) (as : List AT) (xss : List (List Int)) : Bool :=
  if (decide (p.1 < 0) || (decide (p.2.1 < 0) || xss.any fun xs => xs.any (aad p.1))) = true then false else if (!(ps.any fun q => !(rowB p.2.1 q))) = true then !((List.range as.length).any (afY p.1 p.2.1 p.2.2.1.len as)) else false
section
variable {h0 h : Heap} {p : S7} {ps : List (Rat × PL)} {as : List AT} {xss : List (List Int)}
theorem aiI {Q : Bool → Heap → Prop} (ht : Tab h0) (e0 : Ext h0 h) (q : PBX h0 p ps as xss) (C : ∀ h', Ext h h' → Q (cnfB p ps as xss) h') : mB p h Q := by
  have hnp := q.np; have hna := q.na
  refine tF fun p1 h1 c1 hp1 e1 n1 => cG fun lost h2 hlc hlb _ hlf e2 n2 => ?_
  have hc1 : cells? h1 p1 7 0 = some (P7 p) := by
    have := cells?_mk (h := h1) (a := p1) (P7 p) 0 (fun j hj => by rw [Nat.zero_add]; exact (c1.cell j hj).1)
    exact this
  refine ⟨⟨_, hlc⟩, hlf, ?_⟩
  have k3 := Keep.setCell h2 lost (FnV.toV (FnV.mk 64 [] [Value.pointer (some p1)]))
  have g3 := bK (v := FnV.toV (FnV.mk 64 [] [Value.pointer (some p1)])) hlc
  have n3 : (aS h2 lost (FnV.toV (FnV.mk 64 [] [Value.pointer (some p1)]))).size = h2.size := by simp [aS]
  generalize aS h2 lost (FnV.toV (FnV.mk 64 [] [Value.pointer (some p1)])) = h3 at *
  have e13 : Ext h1 h3 := e2.fresh (by omega) k3
  have e3 := e1.trans e13
  have e03 := e0.trans e3
  have hc3 := aO e13 hc1
  have hq3 := LLX.ext q.cls e03
  refine seq.cut (fun b h' => h' = h3 ∧ b = (decide (p.1 < 0) || (decide (p.2.1 < 0) || xss.any fun xs => xs.any (aad p.1)))) ?_ ?_
  · refine ⟨_, ml hc3 0 (by decide), ⟨fun g => ⟨rfl, ?_⟩, fun g => ⟨_, ml hc3 1 (by decide), ⟨fun g2 => ⟨rfl, ?_⟩, fun g2 => ?_⟩⟩⟩⟩
    · have g : decide (p.1 < 0) = true := g
      rw [g]; rfl
    · have g : decide (p.1 < 0) = false := g
      have g2 : decide (p.2.1 < 0) = true := g2
      rw [g, g2]; rfl
    · have g : decide (p.1 < 0) = false := g
      have g2 : decide (p.2.1 < 0) = false := g2
      refine ⟨_, ml hc3 4 (by decide), adF (p := p) g3 hc3 hq3 (by have := q.nc; omega) (fun xs hx => by have := q.cl xs hx; omega) ⟨rfl, ?_⟩⟩
      rw [g, g2]; rfl
  rintro o hx ⟨hxe, ho⟩
  rw [hxe]
  clear hxe hx
  refine ⟨fun hot => ?_, fun hof => ?_⟩
  · have := C h3 e3
    unfold cnfB at this
    rw [← ho, hot] at this
    exact this
  refine seq.cut (fun (ra : Addr × Addr) h' => ∃ mp, Done h3 h' p mp ra.1 ra.2) ?_ ?_
  · refine ⟨p, hc3, p, hc3, ?_⟩
    have chk : ∀ {hh : Heap}, Ext h3 hh → cells? hh p1 7 0 = some (P7 p) := fun e => aO e hc3
    refine ⟨?_, ?_, ?_⟩
    · refine xW fun pr h6 cr hpr e6 n6 => ⟨chk e6, ?_, ?_, ?_⟩
      · refine jf fun pa sn mp h7 ca csn m hpa hmp hsn e7 n7 => ⟨?_, ?_⟩
        · refine cG fun row h8 cw hw _ fw e8 n8 => cG fun atom h9 ct hta _ ft e9 n9 => ?_
          exact (Ready.mk' (((e6.trans e7).trans e8).trans e9) ((e7.trans e8).trans e9) cr (e8.trans e9) ca csn m e9 cw fw (Keep.refl _ _) ct ft (by omega)).go fun h' d => ⟨_, d⟩
        · refine cG fun atom h8 ct hta _ ft e8 n8 => cG fun row h9 cw hw _ fw e9 n9 => ?_
          exact (Ready.mk' (((e6.trans e7).trans e8).trans e9) ((e7.trans e8).trans e9) cr (e8.trans e9) ca csn m (Keep.refl _ _) cw fw e9 ct ft (by omega)).go fun h' d => ⟨_, d⟩
      · refine cG fun row h7 cw hw _ fw e7 n7 => ⟨chk (e6.trans e7), ?_, ?_⟩
        · refine jf fun pa sn mp h8 ca csn m hpa hmp hsn e8 n8 => cG fun atom h9 ct hta _ ft e9 n9 => ?_
          exact (Ready.mk' (((e6.trans e7).trans e8).trans e9) ((e7.trans e8).trans e9) cr e9 ca csn m (e8.trans e9) cw fw (Keep.refl _ _) ct ft (by omega)).go fun h' d => ⟨_, d⟩
        · refine cG fun atom h8 ct hta _ ft e8 n8 => ⟨chk ((e6.trans e7).trans e8), jf fun pa sn mp h9 ca csn m hpa hmp hsn e9 n9 => ?_⟩
          exact (Ready.mk' (((e6.trans e7).trans e8).trans e9) ((e7.trans e8).trans e9) cr (Keep.refl _ _) ca csn m (e8.trans e9) cw fw e9 ct ft (by omega)).go fun h' d => ⟨_, d⟩
      · refine cG fun atom h7 ct hta _ ft e7 n7 => ⟨chk (e6.trans e7), ?_, ?_⟩
        · refine jf fun pa sn mp h8 ca csn m hpa hmp hsn e8 n8 => cG fun row h9 cw hw _ fw e9 n9 => ?_
          exact (Ready.mk' (((e6.trans e7).trans e8).trans e9) ((e7.trans e8).trans e9) cr e9 ca csn m (Keep.refl _ _) cw fw (e8.trans e9) ct ft (by omega)).go fun h' d => ⟨_, d⟩
        · refine cG fun row h8 cw hw _ fw e8 n8 => ⟨chk ((e6.trans e7).trans e8), jf fun pa sn mp h9 ca csn m hpa hmp hsn e9 n9 => ?_⟩
          exact (Ready.mk' (((e6.trans e7).trans e8).trans e9) ((e7.trans e8).trans e9) cr (Keep.refl _ _) ca csn m e9 cw fw (e8.trans e9) ct ft (by omega)).go fun h' d => ⟨_, d⟩
    · refine cG fun row h6 cw hw _ fw e6 n6 => ⟨chk e6, chk e6, ?_, ?_⟩
      · refine xW fun pr h7 cr hpr e7 n7 => ⟨chk (e6.trans e7), ?_, ?_⟩
        · refine jf fun pa sn mp h8 ca csn m hpa hmp hsn e8 n8 => cG fun atom h9 ct hta _ ft e9 n9 => ?_
          exact (Ready.mk' (((e6.trans e7).trans e8).trans e9) (e8.trans e9) cr e9 ca csn m ((e7.trans e8).trans e9) cw fw (Keep.refl _ _) ct ft (by omega)).go fun h' d => ⟨_, d⟩
        · refine cG fun atom h8 ct hta _ ft e8 n8 => ⟨chk ((e6.trans e7).trans e8), jf fun pa sn mp h9 ca csn m hpa hmp hsn e9 n9 => ?_⟩
          exact (Ready.mk' (((e6.trans e7).trans e8).trans e9) (e8.trans e9) cr (Keep.refl _ _) ca csn m ((e7.trans e8).trans e9) cw fw e9 ct ft (by omega)).go fun h' d => ⟨_, d⟩
      · refine cG fun atom h7 ct hta _ ft e7 n7 => ⟨chk (e6.trans e7), chk (e6.trans e7), xW fun pr h8 cr hpr e8 n8 => ⟨chk ((e6.trans e7).trans e8), jf fun pa sn mp h9 ca csn m hpa hmp hsn e9 n9 => ?_⟩⟩
        exact (Ready.mk' (((e6.trans e7).trans e8).trans e9) e9 cr (Keep.refl _ _) ca csn m ((e7.trans e8).trans e9) cw fw (e8.trans e9) ct ft (by omega)).go fun h' d => ⟨_, d⟩
    · refine cG fun atom h6 ct hta _ ft e6 n6 => ⟨chk e6, chk e6, ?_, ?_⟩
      · refine xW fun pr h7 cr hpr e7 n7 => ⟨chk (e6.trans e7), ?_, ?_⟩
        · refine jf fun pa sn mp h8 ca csn m hpa hmp hsn e8 n8 => cG fun row h9 cw hw _ fw e9 n9 => ?_
          exact (Ready.mk' (((e6.trans e7).trans e8).trans e9) (e8.trans e9) cr e9 ca csn m (Keep.refl _ _) cw fw ((e7.trans e8).trans e9) ct ft (by omega)).go fun h' d => ⟨_, d⟩
        · refine cG fun row h8 cw hw _ fw e8 n8 => ⟨chk ((e6.trans e7).trans e8), jf fun pa sn mp h9 ca csn m hpa hmp hsn e9 n9 => ?_⟩
          exact (Ready.mk' (((e6.trans e7).trans e8).trans e9) (e8.trans e9) cr (Keep.refl _ _) ca csn m e9 cw fw ((e7.trans e8).trans e9) ct ft (by omega)).go fun h' d => ⟨_, d⟩
      · refine cG fun row h7 cw hw _ fw e7 n7 => ⟨chk (e6.trans e7), chk (e6.trans e7), xW fun pr h8 cr hpr e8 n8 => ⟨chk ((e6.trans e7).trans e8), jf fun pa sn mp h9 ca csn m hpa hmp hsn e9 n9 => ?_⟩⟩
        exact (Ready.mk' (((e6.trans e7).trans e8).trans e9) e9 cr (Keep.refl _ _) ca csn m (e8.trans e9) cw fw ((e7.trans e8).trans e9) ct ft (by omega)).go fun h' d => ⟨_, d⟩
  rintro ⟨row, atom⟩ h4 ⟨mp, d⟩
  obtain ⟨pr, pa, seen, w1, w2, w3, w4, w5, w6, w7⟩ := d.w
  have e34 := d.ext
  have e04 := e03.trans e34
  have hc4 := aO e34 hc3
  have mn := d.mn
  have s3 := e03.size
  refine seq.dup ⟨_, ml hc4 2 (by decide), ?_⟩
  refine aeT (p := p) ht e04 q.rows q.zp (by omega) w1 w3 fun h5 e5 => ⟨fun hnb => ?_, fun hb' => ?_⟩
  · have e35 := e34.trans e5
    refine ⟨_, ao e5 (ml hc4 3 (by decide)) (by simp), ?_⟩
    refine aeW ht (e04.trans e5) q.ats q.za (by omega) (ao e5 w2 (by simp)) (aO e5 w4) (ao e5 w5 (by simp)) (d.m.keep e5 (by simp)) w6 w7 d.ma (by omega) fun h6 k6 => ?_
    have := C h6 ((e3.trans e35).fresh (by have := e3.size; omega) k6)
    unfold cnfB at this
    rw [← ho, hof, hnb] at this
    exact this
  · have := C h5 ((e3.trans e34).trans e5)
    unfold cnfB at this
    rw [← ho, hof, hb'] at this
    exact this
end
end Go.Sh.Pk
