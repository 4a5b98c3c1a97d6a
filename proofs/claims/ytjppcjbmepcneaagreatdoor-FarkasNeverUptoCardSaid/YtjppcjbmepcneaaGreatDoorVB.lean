/-
  Laws that the proof of this claim's statement leans on, each proved under the conditions that it states.
-/
import Derived.Test.YtjppcjbmepcneaaGreatDoorVA
set_option linter.unusedVariables false
set_option linter.unusedSimpArgs false
namespace Go.Sh
open Go Go.Lift
def MPg {α : Type} (toV : α → Value) (h : Heap) (mp : Nat) (g : Int → Option α) : Prop := ∃ f : List (Int × α), mapEs .i64 h (some mp) (vals toV f) ∧ ∀ k, f.lookup k = g k
section
variable {α : Type} {toV : α → Value} {mp : Nat} {g : Int → Option α} {h h' : Heap}
theorem MPg.keep {o : Option Nat} (p : MPg toV h mp g) (k : Keep o h h') (hne : some mp ≠ o) : MPg toV h' mp g := by
  obtain ⟨f, ⟨es, c, h1, h2⟩, h3⟩ := p
  exact ⟨f, ⟨es, c, by rw [k.same mp (Array.getElem?_eq_some_iff.1 h1).1 hne]; exact h1, h2⟩, h3⟩
theorem MPg.lt (p : MPg toV h mp g) : mp < h.size := by
  obtain ⟨f, ⟨es, c, h1, h2⟩, h3⟩ := p
  exact (Array.getElem?_eq_some_iff.1 h1).1
theorem MPg.look (p : MPg toV h mp g) {key : Int} {zero : α} {k : α × Bool → Prop} (K : k ((g key).getD zero, (g key).isSome)) : lookM .i64 toV zero (some mp) key h k := by
  obtain ⟨f, h1, h2⟩ := p
  refine ⟨f, _, h1, rfl, ?_⟩
  rw [h2 key]
  cases hg : g key with
  | none => rw [hg] at K; exact K
  | some v => rw [hg] at K; exact K
theorem MPg.set (p : MPg toV h mp g) {key : Int} {v : α} {k : Heap → Prop} (K : ∀ h', MPg toV h' mp (fun j => if j = key then some v else g j) → Keep (some mp) h h' → h'.size = h.size → k h') : setM .i64 toV (some mp) key v h k := by
  have hlt := p.lt
  obtain ⟨f, h1, h2⟩ := p
  refine ⟨mp, f, rfl, h1, fun es c he => K _ ⟨updM f key v, ⟨es, c, by simp [hlt], he⟩, fun j => ?_⟩ ⟨by simp, fun b hb hne => by rw [Array.getElem?_setIfInBounds_ne (fun e => hne (by rw [e]))]⟩ (by simp)⟩
  rw [lookup_updM, h2]
  by_cases e : j = key
  · subst e; simp
  · have : (j == key) = false := by simpa using e
    rw [this]; simp [e]
theorem MPg.new {k : Option Nat → Heap → Prop} (K : ∀ h', MPg toV h' h.size (fun _ => none) → Ext h h' → h'.size = h.size + 1 → k (some h.size) h') : newM h k :=
  K _ ⟨[], ⟨#[], 0, by simp, Ents.nil⟩, fun _ => rfl⟩ (Ext.push _ _) (by simp)
end
theorem findI {body : Int → Heap → (Bool → Heap → Prop) → Prop} {n : Nat} {len : Int} {I : Nat → Heap → Prop} {F : Nat → Heap → Prop} {Q : Int → Heap → Prop} {h : Heap} (hlen : len = (n : Int)) (hn : n ≤ 1048576) (h0 : I 0 h)
    (hf : ∀ i h', i < n → I i h' → ∀ R : Bool → Heap → Prop, (∀ h2, F i h2 → R true h2) → (∀ h2, I (i + 1) h2 → R false h2) → body (i : Int) h' R)
    (Kt : ∀ (i : Nat) h', i < n → F i h' → Q (i : Int) h') (Kf : ∀ h', I n h' → Q (-1) h') :
    loop (fun (s0 : Int) h0 (K0 : Int → Heap → Prop) => iteB (decide (s0 < len)) (body s0 h0 fun v h1 => iteB v (Q s0 h1) (K0 (IntKind.wrap .i64 (s0 + 1)) h1)) (Q (-1) h0)) 0 h := by
  subst hlen
  refine loop.inv (fun (s : Int) h' => ∃ i : Nat, s = (i : Int) ∧ i ≤ n ∧ I i h') (fun s _ => n - s.toNat) ⟨0, rfl, by omega, h0⟩ ?_
  rintro _ h1 ⟨i, rfl, hi, hI⟩
  refine ⟨fun hlt => ?_, fun hge => ?_⟩
  · simp only [decide_eq_true_eq] at hlt
    have hlt : i < n := by omega
    refine hf i h1 hlt hI _ (fun h2 hF => ⟨fun _ => Kt i h2 hlt hF, nofun⟩) (fun h2 hI2 => ⟨nofun, fun _ => ⟨⟨i + 1, w64 (by omega) (by omega), by omega, hI2⟩, by rw [w64 (by omega) (by omega)]; omega⟩⟩)
  · simp only [decide_eq_false_iff_not] at hge
    have : i = n := by omega
    subst this
    exact Kf h1 hI
abbrev P7 (p : S7) : List Value := C_i64ui64usl_sl_sl_sl_sl p
def ClsQ (h : Heap) (s : Sl) (ss : List Sl) : Prop := R Sl.toV h s ss ∧ ss.length ≤ 1048576 ∧ ∀ c ∈ ss, ∃ xs, RJ h c xs ∧ xs.length ≤ 1048576
structure PBQ (h : Heap) (p : S7) (t : PB) (ss : List Sl) : Prop where
  n : p.1 = t.n
  m : p.2.1 = t.m
  rows : RowQ CP 4 PQ h p.2.2.1 t.ps
  ats : RowQ C9 9 AQ h p.2.2.2.1 t.as
  cls : ClsQ h p.2.2.2.2.1 ss
theorem ClsQ.ext {h h' : Heap} {s : Sl} {ss : List Sl} (q : ClsQ h s ss) (e : Ext h h') : ClsQ h' s ss := ⟨R.ext q.1 e, q.2.1, fun c hc => by obtain ⟨xs, h1, h2⟩ := q.2.2 c hc; exact ⟨xs, R.ext h1 e, h2⟩⟩
theorem PBQ.ext {h h' : Heap} {p : S7} {t : PB} {ss : List Sl} (q : PBQ h p t ss) (e : Ext h h') : PBQ h' p t ss := ⟨q.n, q.m, q.rows.ext PQ.ext' e, q.ats.ext AQ.ext' e, q.cls.ext e⟩
theorem p7ucell {h : Heap} {a : Addr} {p : S7} (hc : cells? h a 7 0 = some (P7 p)) (k : Nat) (hk : k < 7) : cell? h (a.add k) = some ((P7 p)[k]'hk) := by
  have := cells?_get _ _ _ hc k hk
  simpa using this
section
variable {h : Heap} {p : S7} {t : PB} {ss : List Sl}
theorem lostOne {l : Int} {c0 : Addr} {Q : Bool → Heap → Prop} (hc : cells? h c0 7 0 = some (P7 p)) (K : ∀ b, Q b h) : cnf_Right_c1 l c0 h Q := by
  have h0 := p7ucell hc 0 (by decide)
  exact seq.dup ⟨fun _ => K _, fun _ => ⟨_, h0, ⟨fun _ => K _, fun _ => ⟨_, h0, K _⟩⟩⟩⟩
theorem lostRow {c : Sl} {xs : List Int} {f : FnV} {c0 : Addr} {Q : Bool → Heap → Prop} (hf : f = FnV.mk 97 [] [Value.pointer (some c0)]) (hc : cells? h c0 7 0 = some (P7 p)) (hr : RJ h c xs) (hl : xs.length ≤ 1048576) (K : ∀ b, Q b h) : slices_ContainsFunc_int_int c f h Q := by
  have hlen := hr.len
  refine findI (body := fun s0 h0 R => idxS c s0 1 fun a => Lift.load (Value.int .i64) a h0 fun v => dyn (fun (K0u1 : Bool → Heap → Prop) => (∃ (dc3u0 : Addr), f = FnV.mk 97 [] [Value.pointer (some dc3u0)] ∧ cnf_Right_c1 v dc3u0 h0 K0u1)) R) (n := xs.length) (I := fun _ h' => h' = h) (F := fun _ h' => h' = h) (by rw [hlen]) hl rfl (fun i h' hi hI R R1 R2 => ?_) (fun i h' _ hF => by subst hF; exact K _) (fun h' hI => by subst hI; exact K _)
  subst hI
  refine RJ.ld hr rfl hi ⟨c0, hf, lostOne hc fun b => ?_⟩
  cases b with
  | true => exact R1 _ rfl
  | false => exact R2 _ rfl
theorem lostAll {s : Sl} {lost c0 : Addr} {Q : Bool → Heap → Prop} (hf : cell? h lost = some (FnV.toV (FnV.mk 97 [] [Value.pointer (some c0)]))) (hc : cells? h c0 7 0 = some (P7 p)) (hq : ClsQ h s ss) (K : ∀ b, (ss = [] → b = false) → Q b h) : slices_ContainsFunc_int_int__cnf_Right_c2 s lost h Q := by
  have hlen := hq.1.len
  refine findI (body := fun s0 h0 R => idxS s s0 1 fun a => Lift.load Sl.toV a h0 fun v => cnf_Right_c2 v lost h0 R) (n := ss.length) (I := fun _ h' => h' = h) (F := fun i h' => h' = h ∧ ss ≠ []) (by rw [hlen]) hq.2.1 rfl (fun i h' hi hI R R1 R2 => ?_) (fun i h' _ hF => by obtain ⟨rfl, hne⟩ := hF; exact K _ fun e => absurd e hne) (fun h' hI => by subst hI; exact K _ fun _ => by decide)
  subst hI
  refine _root_.Go.Lift.R.load hq.1 (by omega) (by omega) ?_
  obtain ⟨xs, h1, h2⟩ := hq.2.2 _ (List.getElem_mem (by simpa using hi))
  refine ⟨_, hf, lostRow rfl hc h1 h2 fun b => ?_⟩
  cases b with
  | true => exact R1 _ ⟨rfl, fun e => by rw [e] at hi; simp at hi⟩
  | false => exact R2 _ rfl
theorem rowed_spec {h0 h : Heap} {p : S7} {x : X4} {q : Rat × PL} {c0 : Addr} {Q : Bool → Heap → Prop} (ht : Tab h0) (e0 : Ext h0 h) (hq : PQ h0 x q) (z : Few4 q) (hc : cells? h c0 7 0 = some (P7 p)) (K : ∀ b h', Ext h h' → Q b h') : cnf_rowed_c1 x c0 h Q := by
  refine mem_ext fun h1 e1 => seq.dup ?_
  have hl := hq.m.len
  have hz := z.n
  refine RightL_spec ht (hq.raw (by have := z.c; omega) (fun m hm => by have := z.m m hm; omega)) (e0.trans e1) (by show x.2.2.2.len ≤ 1048576; omega) fun b h2 _ e2 => ⟨fun _ => ⟨fun hg => ?_, fun _ => K _ h2 (e1.trans e2)⟩, fun _ => K _ h2 (e1.trans e2)⟩
  have e02 := e0.trans (e1.trans e2)
  refine Sign_spec (x := cst x) (hq.c.ext e02) fun h3 e3 => ⟨fun _ => ?_, fun _ => K _ h3 (e1.trans (e2.trans e3))⟩
  have e13 := e1.trans (e2.trans e3)
  simp only [gt_iff_lt, decide_eq_true_eq] at hg
  have hij : IntKind.wrap .i64 (((x.2.2.2.len : Nat) : Int) - 1) = ((q.2.length - 1 : Nat) : Int) := by rw [w64 (by omega) (by omega)]; omega
  refine hq.m.atE (e0.trans e13) hij (by omega) fun a y hy _ _ => ⟨_, ld_var hy, _, cell_keep e13 (p7ucell hc 1 (by decide)) (by simp), K _ h3 e13⟩
theorem row3uspec {h0 h : Heap} {p : S7} {x : X4} {q : Rat × PL} {cf c0 : Addr} {Q : Bool → Heap → Prop} (ht : Tab h0) (e0 : Ext h0 h) (hq : PQ h0 x q) (z : Few4 q) (hf : cell? h cf = some (FnV.toV (FnV.mk 145 [] [Value.pointer (some c0)]))) (hc : cells? h c0 7 0 = some (P7 p)) (K : ∀ b h', Ext h h' → Q b h') : cnf_Right_c3 x cf h Q := by
  refine mem_ext fun h1 e1 => ⟨_, cell_keep e1 hf (by simp), c0, rfl, ?_⟩
  exact rowed_spec ht (e0.trans e1) hq z (cells_ext e1 hc) fun b h2 e2 => K _ h2 (e1.trans e2)
theorem rows3uspec {h0 h : Heap} {p : S7} {s : Sl} {ps : List (Rat × PL)} {cf c0 : Addr} {Q : Bool → Heap → Prop} (ht : Tab h0) (e0 : Ext h0 h) (hq : RowQ CP 4 PQ h0 s ps) (z : ∀ q ∈ ps, Few4 q) (hl : ps.length ≤ 1000) (hf : cell? h cf = some (FnV.toV (FnV.mk 145 [] [Value.pointer (some c0)]))) (hc : cells? h c0 7 0 = some (P7 p))
    (K : ∀ b h', (ps = [] → b = false) → Ext h h' → Q b h') : slices_ContainsFunc_api_Poly_api_Poly__cnf_Right_c3 s cf h Q := by
  have hlen := hq.len
  refine findI (body := fun s0 h0 R => idxS s s0 4 fun a => loadS CP 4 a h0 fun v => cnf_Right_c3 (v.1, v.2.1, v.2.2.1, v.2.2.2) cf h0 R) (n := ps.length) (I := fun _ h' => Ext h h') (F := fun i h' => Ext h h' ∧ ps ≠ []) (by rw [hlen]) (by omega) (Keep.refl _ _) (fun i h' hi hI R R1 R2 => ?_) (fun i h' _ hF => K _ h' (fun e => absurd e hF.2) hF.1) (fun h' hI => K _ h' (fun _ => by decide) hI)
  refine hq.ldE (e0.trans hI) rfl hi fun y hy => ?_
  refine row3uspec (x := y) ht (e0.trans hI) hy (z _ (List.getElem_mem _)) (cell_keep hI hf (by simp)) (cells_ext hI hc) fun b h2 e2 => ?_
  cases b with
  | true => exact R1 _ ⟨hI.trans e2, fun e => by rw [e] at hi; simp at hi⟩
  | false => exact R2 _ (hI.trans e2)
end
end Go.Sh

namespace Go.Sh
open Go Go.Lift
structure AtOk (t : PB) (a : AT) : Prop where
  r : a.r = -1
  u : 0 ≤ a.u ∧ a.u < t.m
  e : a.b.2 = 0 ∨ a.b.2 = -1
  v : 0 ≤ a.v ∧ a.v < t.n
section
variable {h0 h : Heap} {p : S7} {t : PB} {y : A9} {a : AT} {c0 c1 : Addr} {mp : Nat} {g : Int → Option Bool}
theorem atomTail {hh : Heap} {K0 : Bool → Heap → Prop} (hc : cells? hh c0 7 0 = some (P7 p)) (K : ∀ b, K0 b hh) :
    iteB (decide (y.2.2.1 ≥ 0)) (Lift.load Sl.toV (c0.add 2) hh fun v_1 => iteB (decide (y.2.2.1 < ((v_1.len : Nat) : Int))) (Let ((y.2.1 == 0) : Bool) fun over => K0 over hh) (K0 false hh)) (K0 false hh) :=
  ⟨fun _ => ⟨_, p7ucell hc 2 (by decide), ⟨fun _ b _ => K b, fun _ => K _⟩⟩, fun _ => K _⟩
theorem atomic_spec {Q : Bool → Heap → Prop} (ht : Tab h0) (e0 : Ext h0 h) (hn : p.1 = t.n) (hm : p.2.1 = t.m) (hy : AQ h0 y a) (z : szD a.b ≤ 6) (hc : cells? h c0 7 0 = some (P7 p)) (h1 : cell? h c1 = some (Value.map (some mp))) (hmp : MPg Value.bool h mp g) (hne : c1.block ≠ mp)
    (K : ∀ b h', (AtOk t a → g a.v = none → b = true) → MPg Value.bool h' mp (fun j => if j = a.v then some true else g j) → Keep (some mp) h h' → Q b h') : cnf_atomic_c1 y c0 c1 h Q := by
  obtain ⟨y1, y2, y3, y4⟩ := hy
  have hz : 0 < h0.size := by have := _root_.Go.Lift.R.lt ht rfl (by decide); omega
  unfold szD at z
  refine mem_ext fun h2 e2 => ?_
  have hc2 := cells_ext e2 hc
  refine seq.cut (fun b h' => h' = h2 ∧ (AtOk t a → b = true)) ?_ ?_
  · refine ⟨fun g1 => ⟨fun g2 => ⟨_, p7ucell hc2 1 (by decide), ⟨fun g3 => ⟨rfl, fun _ => rfl⟩, fun g3 => ?_⟩⟩, fun g2 => ?_⟩, fun g1 => ?_⟩
    · refine atomTail (K0 := fun b h' => h' = h2 ∧ (AtOk t a → b = true)) hc2 fun b => ⟨rfl, fun ok => ?_⟩
      have g3 := of_decide_eq_false g3
      have := ok.u.2
      rw [y2, hm] at g3
      omega
    · refine atomTail (K0 := fun b h' => h' = h2 ∧ (AtOk t a → b = true)) hc2 fun b => ⟨rfl, fun ok => ?_⟩
      have g2 := of_decide_eq_false g2
      have := ok.u.1
      rw [y2] at g2
      omega
    · refine atomTail (K0 := fun b h' => h' = h2 ∧ (AtOk t a → b = true)) hc2 fun b => ⟨rfl, fun ok => ?_⟩
      rw [beq_eq_false_iff_ne, y3] at g1
      exact absurd ok.r g1
  rintro o1 hx ⟨hxe, ho1⟩
  rw [hxe]
  clear hxe hx
  have e02 := e0.trans e2
  refine seq.cut (fun b h' => Ext h2 h' ∧ (AtOk t a → b = true)) ?_ ?_
  · refine Sign_spec (x := dB y.2.2.2) (y4.b.ext e02) fun h3 e3 => ⟨fun _ => ⟨e3, fun _ => rfl⟩, fun hs => ?_⟩
    refine OfQ (by decide) (by decide) fun u h4 hu _ e4 => ?_
    have s1 : szQ ((-1 : Int) : Rat) ≤ 2 := sz_int (by decide)
    refine CmpQ_spec (x := dB y.2.2.2) ((y4.b.ext e02).ext (e3.trans e4)) hu (by omega) (by have := (e02.trans (e3.trans e4)).size; omega) fun h5 e5 => ⟨(e3.trans e4).trans e5, fun ok => ?_⟩
    rcases ok.e with h | h
    · rw [h] at hs
      simp at hs
    · rw [h]
      have : (((-1 : Int)) : Rat) = -1 := by grind
      rw [this]
      simp
  rintro o2 h3 ⟨e3, ho2⟩
  have e03 := e02.trans e3
  have e23 := e2.trans e3
  have hc3 := cells_ext e3 hc2
  have h13 := cell_keep e23 h1 (by simp)
  have m3 := hmp.keep e23 (by simp)
  refine seq.cut (fun b h' => Ext h3 h' ∧ (AtOk t a → g a.v = none → b = true)) ?_ ?_
  · have nk : ∀ {hh : Heap}, Ext h3 hh → (AtOk t a → g a.v = none → False) → (Ext h3 hh ∧ (AtOk t a → g a.v = none → false = true)) := fun e hf => ⟨e, fun ok hg => (hf ok hg).elim⟩
    refine ⟨fun g1 => ⟨fun g2 => ⟨fun g3 => ⟨_, p7ucell hc3 0 (by decide), ⟨fun g4 => ⟨_, h13, ?_⟩, fun g4 => nk (Keep.refl _ _) fun ok _ => ?_⟩⟩, fun g3 => nk (Keep.refl _ _) fun ok _ => ?_⟩, fun g2 => nk (Keep.refl _ _) fun ok _ => ?_⟩, fun g1 => nk (Keep.refl _ _) fun ok _ => ?_⟩
    · refine m3.look (zero := false) ⟨fun g5 => ?_, fun g5 => nk (Keep.refl _ _) fun ok hg => ?_⟩
      · refine rightQ_true (x := dA y.2.2.2) (R.ext ht e03) (y4.a.ext e03) (by omega) fun h4 e4 => ⟨fun _ => ?_, fun hh => by cases hh⟩
        refine rightQ_true (x := dB y.2.2.2) (R.ext ht (e03.trans e4)) (y4.b.ext (e03.trans e4)) (by omega) fun h5 e5 => ⟨e4.trans e5, fun _ _ => rfl⟩
      · rw [y1, hg] at g5
        simp at g5
    · have g4 := of_decide_eq_false g4
      have := ok.v.2
      rw [y1, hn] at g4
      omega
    · have g3 := of_decide_eq_false g3
      have := ok.v.1
      rw [y1] at g3
      omega
    · rw [ho2 ok] at g2; cases g2
    · rw [ho1 ok] at g1; cases g1
  rintro o3 h4 ⟨e4, ho3⟩
  have e24 := e23.trans e4
  refine ⟨_, cell_keep e24 h1 (by simp), (hmp.keep e24 (by simp)).set fun h5 m5 k5 _ => ?_⟩
  refine K o3 h5 ho3 ?_ ((Keep.of_ext e24).trans k5)
  rw [y1] at m5
  exact m5
end
end Go.Sh
