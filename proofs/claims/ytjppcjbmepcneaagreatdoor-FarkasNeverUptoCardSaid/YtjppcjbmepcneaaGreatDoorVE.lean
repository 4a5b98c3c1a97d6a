/-
  Laws that the proof of this claim's statement leans on, each proved under the conditions that it states.
-/
import Derived.Test.YtjppcjbmepcneaaGreatDoorVD
set_option linter.unusedVariables false
set_option linter.unusedSimpArgs false
namespace Go.Sh
open Go Go.Lift
def t16 : PB := ⟨2, 1, [], [⟨0, 0, -1, (1, 0)⟩, ⟨1, 0, -1, (2, -1)⟩]⟩
theorem bigR_of {h : Heap} {x : X3} {q : Rat} (hq : RQ h x q) (hs : szQ q ≤ 6) : bigR x = false := by
  have h1 := hq.num.nl; have h2 := hq.den.nl
  unfold szQ at hs
  unfold bigR
  simp; omega
theorem Y7.of {h : Heap} {y : Y4} {q : Rat} (hq : RQ h (co y) q) (hs : szQ q ≤ 6) (h1 : -9223372036854775808 ≤ y.1) (h2 : y.1 < 9223372036854775808) : Y7 h y := by
  obtain ⟨xs, ws, hX, _⟩ := hq.xr
  exact ⟨⟨xs, ws, hX⟩, bigR_of hq hs, h1, h2⟩
theorem t16ugood : GoodA t16 := by
  refine ⟨fun a ha => ?_, fun i j hi hj hij => ?_⟩
  · simp only [t16, List.mem_cons, List.not_mem_nil, or_false] at ha
    rcases ha with rfl | rfl
    · exact ⟨rfl, by decide, .inl rfl, by decide⟩
    · exact ⟨rfl, by decide, .inr rfl, by decide⟩
  · have hj' : j < 2 := hj
    have : i = 0 := by omega
    have : j = 1 := by omega
    subst_vars
    show (0 : Int) ≠ 1
    decide
theorem step16 : foldM t16 [(1, 1)] ((0, []), (0, 0)) = some ((0, [(0, 1)]), (1, 0)) := by
  have hf : t16.as.find? (matchA 1) = some ⟨0, 0, -1, (1, 0)⟩ := rfl
  rw [foldM, hf]
  dsimp only
  rw [if_neg (by decide), foldM]
  have hb : bndB t16 ⟨0, 0, -1, (1, 0)⟩ 1 = ((0, [(0, 1)]), (1, 0)) := by
    unfold bndB; rw [if_pos (by decide)]; unfold rowB; rw [if_neg (by decide)]
  rw [hb]
  unfold stepB addP
  have hs : scP 1 (0, [((0 : Int), (1 : Rat))]) = (0, [(0, 1)]) := by simp [scP, scL]
  dsimp only
  rw [hs, mrg_nc, mrg_nn]
  have h1 : (0 : Rat) + 0 = 0 := by grind
  have h2 : scD 1 ((1, 0) : Rat × Rat) = (1, 0) := by unfold scD; dsimp only; rw [show (1 : Rat) * 1 = 1 by grind, show (1 : Rat) * 0 = 0 by grind]
  have h3 : addD (0, 0) ((1, 0) : Rat × Rat) = (1, 0) := by unfold addD; dsimp only; rw [show (0 : Rat) + 1 = 1 by grind, show (0 : Rat) + 0 = 0 by grind]
  rw [h2, h3]
  simp [nzc, h1]
theorem no16 : holdsM t16 [(1, 1)] = false := by
  unfold holdsM; rw [step16]; simp [fin]
theorem yes16 : holdsM t16 [(1, 1), (-2, 1)] = true := by
  have hf : t16.as.find? (matchA 1) = some ⟨0, 0, -1, (1, 0)⟩ := rfl
  have hf2 : t16.as.find? (matchA (-2)) = some ⟨1, 0, -1, (2, -1)⟩ := rfl
  have h1 := step16
  rw [foldM, hf] at h1
  dsimp only at h1
  rw [if_neg (by decide), foldM] at h1
  have h1 := Option.some.inj h1
  unfold holdsM
  rw [foldM, hf]
  dsimp only
  rw [if_neg (by decide), h1, foldM, hf2]
  dsimp only
  rw [if_neg (by decide), foldM]
  dsimp only
  have hb : bndB t16 ⟨1, 0, -1, (2, -1)⟩ (-2) = ((0, [(0, -1)]), (-2, 0)) := by
    unfold bndB; rw [if_neg (by decide)]; unfold rowB; rw [if_neg (by decide)]
    have h1 : scP (-1) (0, [((0 : Int), (1 : Rat))]) = (0, [(0, -1)]) := by simp [scP, scL, rm1]
    have h2 : scD (-1) (addD (2, -1) ((0, 1) : Rat × Rat)) = (-2, 0) := by
      unfold scD addD; dsimp only
      rw [show (-1 : Rat) * (2 + 0) = -2 by grind, show (-1 : Rat) * (-1 + 1) = 0 by grind]
    dsimp only
    rw [h1, h2]
  rw [hb]
  unfold stepB addP
  have hs : scP 1 (0, [((0 : Int), (-1 : Rat))]) = (0, [(0, -1)]) := by simp [scP, scL]
  dsimp only
  rw [hs, mrg_cc, if_neg (by decide), if_neg (by decide), mrg_nn]
  have h4 : (1 : Rat) + -1 = 0 := by grind
  have h2 : scD 1 ((-2, 0) : Rat × Rat) = (-2, 0) := by unfold scD; dsimp only; rw [show (1 : Rat) * -2 = -2 by grind, show (1 : Rat) * 0 = 0 by grind]
  have h3 : addD (1, 0) ((-2, 0) : Rat × Rat) = (-1, 0) := by unfold addD; dsimp only; rw [show (1 : Rat) + -2 = -1 by grind, show (0 : Rat) + 0 = 0 by grind]
  rw [h2, h3]
  have h5 : cmpD ((-1, 0) : Rat × Rat) (0, 0) < 0 := by
    unfold cmpD cmpR
    dsimp only
    rw [show (-1 : Rat) - 0 = -1 by grind]
    decide
  unfold fin
  simp only [nzc, h4, if_true, decide_true, Bool.true_and]
  simpa using h5
theorem z16 : PBz t16 := by
  have s1 := sz1; have sm := szm1
  refine ⟨fun p hp => by simp [t16] at hp, fun a ha => ?_, by decide, by decide⟩
  have s2 : szQ (2 : Rat) ≤ 2 := sz_int (n := 2) (by decide)
  simp only [t16, List.mem_cons, List.not_mem_nil, or_false] at ha
  rcases ha with rfl | rfl
  · unfold szD; dsimp only; rw [sz_zero]; omega
  · unfold szD; dsimp only; omega
theorem speaks16uspec {h : Heap} {Q : Bool → Heap → Prop} (ht : Tab h) (K : ∀ h', Ext h h' → Q true h') : law16uspeaks h Q := by
  refine OfQ (by decide) (by decide) fun u1 h1 hu1 _ e1 => OfQ (by decide) (by decide) fun u2 h2 hu2 _ e2 => OfQ (by decide) (by decide) fun u3 h3 hu3 _ e3 => ?_
  intro T
  have e4 := Ext.push h3 (.cells [Value.int .i64 0, Value.int .i64 0, Value.int .i64 (-1), Value.bool u1.1, Sl.toV u1.2.1, Sl.toV u1.2.2, Value.bool false, Sl.toV Sl.nil, Sl.toV Sl.nil, Value.int .i64 1, Value.int .i64 0, Value.int .i64 (-1), Value.bool u2.1, Sl.toV u2.2.1, Sl.toV u2.2.2, Value.bool u3.1, Sl.toV u3.2.1, Sl.toV u3.2.2].toArray T (0, 0))
  have r4 : RS C9 9 _ (⟨some ⟨h3.size, 0, none⟩, 2, 2⟩ : Sl) [((0 : Int), (0 : Int), (-1 : Int), u1.1, u1.2.1, u1.2.2, false, Sl.nil, Sl.nil), ((1 : Int), (0 : Int), (-1 : Int), u2.1, u2.2.1, u2.2.2, u3.1, u3.2.1, u3.2.2)] := RS.new (h := h3) (cs := [Value.int .i64 0, Value.int .i64 0, Value.int .i64 (-1), Value.bool u1.1, Sl.toV u1.2.1, Sl.toV u1.2.2, Value.bool false, Sl.toV Sl.nil, Sl.toV Sl.nil, Value.int .i64 1, Value.int .i64 0, Value.int .i64 (-1), Value.bool u2.1, Sl.toV u2.2.1, Sl.toV u2.2.2, Value.bool u3.1, Sl.toV u3.2.1, Sl.toV u3.2.2]) (T := T) len9 rfl rfl
  generalize (h3.push (.cells [Value.int .i64 0, Value.int .i64 0, Value.int .i64 (-1), Value.bool u1.1, Sl.toV u1.2.1, Sl.toV u1.2.2, Value.bool false, Sl.toV Sl.nil, Sl.toV Sl.nil, Value.int .i64 1, Value.int .i64 0, Value.int .i64 (-1), Value.bool u2.1, Sl.toV u2.2.1, Sl.toV u2.2.2, Value.bool u3.1, Sl.toV u3.2.1, Sl.toV u3.2.2].toArray T (0, 0)) : Heap) = h4 at *
  refine mem_ext fun h5 e5 => OfQ (by decide) (by decide) fun u4 h6 hu4 _ e6 => mem_ext fun h7 e7 => seq.dup ?_
  have e47 := (e5.trans e6).trans e7
  have e37 := e4.trans e47
  have e07 := ((e1.trans e2).trans e3).trans e37
  have hq : ∀ {hh : Heap}, Ext h7 hh → PBQ hh (2, 1, Sl.nil, (⟨some ⟨h3.size, 0, none⟩, 2, 2⟩ : Sl), Sl.nil, Sl.nil, Sl.nil) t16 [] := fun {hh} e => by
    have n1 : (((1 : Int)) : Rat) = 1 := by grind
    have n2 : (((2 : Int)) : Rat) = 2 := by grind
    have n3 : (((-1 : Int)) : Rat) = -1 := by grind
    rw [n1] at hu1; rw [n2] at hu2; rw [n3] at hu3
    exact ⟨rfl, rfl, ⟨Nat.le_refl _, [], RS.nil rfl, .nil⟩, ⟨Nat.le_refl _, _, RS.ext r4 (e47.trans e), .cons ⟨rfl, rfl, rfl, ⟨hu1.ext ((e2.trans e3).trans (e37.trans e)), RQ.zero⟩⟩ (.cons ⟨rfl, rfl, rfl, ⟨hu2.ext (e3.trans (e37.trans e)), hu3.ext (e37.trans e)⟩⟩ .nil)⟩, R.nil, by simp, by simp⟩
  have hrr : ∀ a ∈ t16.as, a.r < t16.ps.length := fun a ha => by
    simp only [t16, List.mem_cons, List.not_mem_nil, or_false] at ha
    rcases ha with rfl | rfl <;> decide
  have s1 := sz1
  have hu : ∀ {hh : Heap}, Ext h7 hh → RQ hh u4 1 := fun e => by
    have n1 : (((1 : Int)) : Rat) = 1 := by grind
    rw [n1] at hu4
    exact hu4.ext (e7.trans e)
  intro T8
  have e8 := Ext.push h7 (.cells [Value.int .i64 1, Value.bool u4.1, Sl.toV u4.2.1, Sl.toV u4.2.2, Value.int .i64 (-2), Value.bool u4.1, Sl.toV u4.2.1, Sl.toV u4.2.2].toArray T8 (0, 0))
  have r8 : RS C4 4 _ (⟨some ⟨h7.size, 0, none⟩, 2, 2⟩ : Sl) [((1 : Int), u4.1, u4.2.1, u4.2.2), ((-2 : Int), u4.1, u4.2.1, u4.2.2)] := RS.new (h := h7) (cs := [Value.int .i64 1, Value.bool u4.1, Sl.toV u4.2.1, Sl.toV u4.2.2, Value.int .i64 (-2), Value.bool u4.1, Sl.toV u4.2.1, Sl.toV u4.2.2]) (T := T8) len4 rfl rfl
  generalize (h7.push (.cells [Value.int .i64 1, Value.bool u4.1, Sl.toV u4.2.1, Sl.toV u4.2.2, Value.int .i64 (-2), Value.bool u4.1, Sl.toV u4.2.1, Sl.toV u4.2.2].toArray T8 (0, 0)) : Heap) = h8 at *
  refine holds_spec (h0 := h8) (t := t16) (ss := []) (ys := [((1 : Int), u4.1, u4.2.1, u4.2.2), ((-2 : Int), u4.1, u4.2.1, u4.2.2)]) (R.ext ht (e07.trans e8)) (Keep.refl _ _) (hq e8) z16 hrr r8 (by simp) (fun y hy => ?_) fun b h9 _ hb e9 => ?_
  · simp only [List.mem_cons, List.not_mem_nil, or_false] at hy
    rcases hy with rfl | rfl
    · exact Y7.of (hu e8) (by omega) (by dsimp only; omega) (by dsimp only; omega)
    · exact Y7.of (hu e8) (by omega) (by dsimp only; omega) (by dsimp only; omega)
  have hbt : b = true := by
    rw [hb (by decide) (by decide) rfl rfl t16ugood [(1, 1), (-2, 1)] (.cons ⟨rfl, hu e8⟩ (.cons ⟨rfl, hu e8⟩ .nil)), yes16]
  subst hbt
  refine ⟨fun _ => ?_, nofun⟩
  have e79 := e8.trans e9
  intro Ta
  have ea := Ext.push h9 (.cells [Value.int .i64 1, Value.bool u4.1, Sl.toV u4.2.1, Sl.toV u4.2.2].toArray Ta (0, 0))
  have ra : RS C4 4 _ (⟨some ⟨h9.size, 0, none⟩, 1, 1⟩ : Sl) [((1 : Int), u4.1, u4.2.1, u4.2.2)] := RS.new (h := h9) (cs := [Value.int .i64 1, Value.bool u4.1, Sl.toV u4.2.1, Sl.toV u4.2.2]) (T := Ta) len4 rfl rfl
  generalize (h9.push (.cells [Value.int .i64 1, Value.bool u4.1, Sl.toV u4.2.1, Sl.toV u4.2.2].toArray Ta (0, 0)) : Heap) = ha at *
  have e7a := e79.trans ea
  refine holds_spec (h0 := ha) (t := t16) (ss := []) (ys := [((1 : Int), u4.1, u4.2.1, u4.2.2)]) (R.ext ht (e07.trans e7a)) (Keep.refl _ _) (hq e7a) z16 hrr ra (by simp) (fun y hy => ?_) fun b hc _ hb ec => ?_
  · simp only [List.mem_cons, List.not_mem_nil, or_false] at hy
    subst hy
    exact Y7.of (hu e7a) (by omega) (by dsimp only; omega) (by dsimp only; omega)
  have hbf : b = false := by
    rw [hb (by decide) (by decide) rfl rfl t16ugood [(1, 1)] (.cons ⟨rfl, hu e7a⟩ .nil), no16]
  subst hbf
  exact K hc (e07.trans (e7a.trans ec))
end Go.Sh

namespace Go.Sh
open Go Go.Lift
structure Fact13 (t : PB) : Prop where
  F : FactB t
  ln : ∀ p ∈ t.ps, ∀ m ∈ p.2, m.1 < t.m
  u : ∀ a ∈ t.as, 0 ≤ a.r ∨ (0 ≤ a.u ∧ a.u < t.m)
theorem srt_last {ms : PL} {n : Int} (hs : Srt ms) (h0 : 0 < ms.length) (hl : (ms[ms.length - 1]'(by omega)).1 < n) : ∀ m ∈ ms, m.1 < n := by
  intro m hm
  obtain ⟨j, hj, rfl⟩ := List.getElem_of_mem hm
  by_cases h : j = ms.length - 1
  · subst h; exact hl
  · have := List.pairwise_iff_getElem.1 hs j (ms.length - 1) hj (by omega) (by omega)
    omega
section
variable {h0 h : Heap} {p : S7} {t : PB} {ss : List Sl}
theorem ref13uspec {Q : Bool → Heap → Prop} (e0 : Ext h0 h) (q : PBQ h0 p t ss) (z : PBz t) (C : ∀ b h', (b = true → Fact13 t) → Ext h h' → Q b h') : ref13uRight p h Q := by
  have hnp := z.np; have hna := z.na
  have lr := q.rows.len; have la := q.ats.len; have lc := q.cls.1.len; have lc2 := q.cls.2.1
  refine mem_ext fun h1 e1 => ?_
  refine seq.cut (fun b h' => h' = h1) ⟨fun _ => rfl, fun _ => rfl⟩ ?_
  rintro b hx hxe
  rw [hxe]
  clear hxe hx
  have Cf : ∀ {h'}, Ext h h' → Q false h' := fun e => C false _ (fun h => by cases h) e
  refine ⟨fun _ => Cf e1, fun _ => ?_⟩
  refine loop.inv (fun (s : Int) h' => Ext h h' ∧ ∃ i : Nat, s = (i : Int) ∧ i ≤ t.ps.length ∧ ∀ p' ∈ t.ps.take i, p'.1 = 0 ∧ ∀ m' ∈ p'.2, m'.1 < t.m) (fun s _ => t.ps.length - s.toNat) ⟨e1, 0, rfl, by omega, fun x hx => by simp at hx⟩ ?_
  rintro _ h2 ⟨e2, i, rfl, hi, hall⟩
  rw [lr]
  refine ⟨fun hlt => ?_, fun hge => ?_⟩
  · simp only [decide_eq_true_eq] at hlt
    have hlt : i < t.ps.length := by omega
    have htk : t.ps.take (i + 1) = t.ps.take i ++ [t.ps[i]] := List.take_succ_eq_append_getElem hlt
    have hz := z.p _ (List.getElem_mem hlt)
    refine q.rows.ldE (e0.trans e2) rfl hlt fun y hy => mem_ext fun h3 e3 => ?_
    generalize t.ps[i] = p' at *
    have e03 := e0.trans (e2.trans e3)
    have hml := hy.m.len
    have hzn := hz.n
    refine seq.cut (fun b h' => Ext h3 h' ∧ (b = false → p'.1 = 0 ∧ ∀ m' ∈ p'.2, m'.1 < t.m)) ?_ ?_
    · refine RightP_spec (hy.raw (by have := hz.c; omega) (fun m hm => by have := hz.m m hm; omega)) e03 (by show y.2.2.2.len ≤ 1048576; omega) fun b4 h4 _ e4 => ⟨fun _ => ⟨e4, nofun⟩, fun _ => ⟨fun _ => ⟨e4, nofun⟩, fun g1 => ⟨fun _ => ⟨e4, nofun⟩, fun g2 => ?_⟩⟩⟩
      have g1 := of_decide_eq_false g1
      have g2 := of_decide_eq_false g2
      have hij : IntKind.wrap .i64 (((y.2.2.2.len : Nat) : Int) - 1) = ((p'.2.length - 1 : Nat) : Int) := by rw [w64 (by omega) (by omega)]; omega
      refine hy.m.atE (e03.trans e4) hij (by omega) fun a w hw hw1 _ => ⟨_, ld_var hw, e4, fun g3 => ⟨(sgn_len hy).1 (by omega), ?_⟩⟩
      have g3 := of_decide_eq_false g3
      have hm' : p.2.1 = t.m := q.m
      rw [hw1, hm'] at g3
      exact srt_last hz.rt.srt (by omega) (by omega)
    rintro b h4 ⟨e4, hb⟩
    have e24 := (e2.trans e3).trans e4
    refine ⟨fun _ => Cf e24, fun hbf => ?_⟩
    rintro j hj
    refine ⟨⟨e24, i + 1, by rw [hj, w64 (by omega) (by omega)]; rfl, by omega, fun x hx => ?_⟩, by rw [hj, w64 (by omega) (by omega)]; omega⟩
    rw [htk] at hx
    rcases List.mem_append.1 hx with hx | hx
    · exact hall x hx
    · simp at hx; subst hx; exact hb hbf
  simp only [decide_eq_false_iff_not] at hge
  have : i = t.ps.length := by omega
  subst this
  rw [List.take_length] at hall
  clear hge hi
  refine loop.inv (fun (s : Int) h' => Ext h h' ∧ ∃ i : Nat, s = (i : Int) ∧ i ≤ t.as.length ∧ ∀ a ∈ t.as.take i, a.r < t.ps.length ∧ (a.b.2 = 0 ∨ a.b.2 = -1) ∧ (0 ≤ a.r ∨ (0 ≤ a.u ∧ a.u < t.m))) (fun s _ => t.as.length - s.toNat) ⟨e2, 0, rfl, by omega, fun x hx => by simp at hx⟩ ?_
  rintro _ h3 ⟨e3, i, rfl, hi, hal⟩
  rw [la]
  refine ⟨fun hlt => ?_, fun hge => ?_⟩
  · simp only [decide_eq_true_eq] at hlt
    have hlt : i < t.as.length := by omega
    have htk : t.as.take (i + 1) = t.as.take i ++ [t.as[i]] := List.take_succ_eq_append_getElem hlt
    have hz := z.a _ (List.getElem_mem hlt)
    refine q.ats.ldE (e0.trans e3) rfl hlt fun y hy => mem_ext fun h4 e4 => ?_
    generalize t.as[i] = a at *
    obtain ⟨y1, y2, y3, y4⟩ := hy
    have e04 := e0.trans (e3.trans e4)
    have e34 := e3.trans e4
    have hm' : p.2.1 = t.m := q.m
    refine seq.cut (fun b h' => h' = h4 ∧ (b = false → a.r < t.ps.length ∧ (0 ≤ a.r ∨ (0 ≤ a.u ∧ a.u < t.m)))) ?_ ?_
    · refine ⟨fun _ => ⟨rfl, nofun⟩, fun _ => ⟨fun _ => ⟨rfl, nofun⟩, fun _ => ⟨fun _ => ⟨rfl, nofun⟩, fun _ => ⟨fun _ => ⟨rfl, nofun⟩, fun g1 => ?_⟩⟩⟩⟩
      have g1 := of_decide_eq_false g1
      rw [y3] at g1
      refine ⟨fun g2 => ⟨fun _ => ⟨rfl, nofun⟩, fun _ => ⟨fun g3 => ?_, fun g3 => ⟨rfl, fun _ => ⟨by omega, .inl ?_⟩⟩⟩⟩, fun g2 => ⟨fun g3 => ⟨fun _ => ⟨rfl, nofun⟩, fun g4 => ⟨rfl, fun g5 => ⟨by omega, .inr ⟨?_, ?_⟩⟩⟩⟩, fun g3 => ⟨rfl, fun _ => ⟨by omega, .inl ?_⟩⟩⟩⟩
      · have g2 := of_decide_eq_true g2
        have g3 := of_decide_eq_true g3
        omega
      · have g3 := of_decide_eq_false g3; rw [y3] at g3; omega
      · have g4 := of_decide_eq_false g4; rw [y2] at g4; omega
      · have g5 := of_decide_eq_false g5; rw [y2, hm'] at g5; omega
      · have g3 := of_decide_eq_false g3; rw [y3] at g3; omega
    rintro b hx ⟨hxe, hb⟩
    rw [hxe]
    clear hxe hx
    refine ⟨fun _ => Cf e34, fun hbf => ?_⟩
    have hb := hb hbf
    unfold szD at hz
    have rr : ∀ {x : X3} {k : Rat} {hh : Heap} {R : Bool → Heap → Prop}, RQ h0 x k → szQ k ≤ 6 → Ext h0 hh → (∀ b h', Ext hh h' → R b h') → ref02uRight x hh R := fun {x k hh R} hk hs e hR => by
      obtain ⟨xs, ys, hX, _, _, l1, l2⟩ := (hk.ext e).xr
      have := nl_num_le k; have := nl_dn_le k
      exact RightD_spec hX (by omega) (by omega) fun b h' _ e' => hR b h' e'
    refine seq.cut (fun b h' => Ext h4 h') ?_ ?_
    · refine rr (x := dA y.2.2.2) y4.a (by omega) e04 fun b5 h5 e5 => ⟨fun _ => e5, fun _ => ?_⟩
      exact rr (x := dB y.2.2.2) y4.b (by omega) (e04.trans e5) fun b6 h6 e6 => e5.trans e6
    rintro b h5 e5
    have e35 := e34.trans e5
    refine ⟨fun _ => Cf e35, fun _ => ?_⟩
    refine OfQ_spec (x := dB y.2.2.2) (y4.b.ext (e04.trans e5)) (by omega) fun v6 h6 hv6 e6 => mem_ext fun h7 e7 => ?_
    have e57 := e6.trans e7
    have s0 := sz_zero; have sm := szm1
    have n0 : (((0 : Int)) : Rat) = 0 := by grind
    have n1 : (((-1 : Int)) : Rat) = -1 := by grind
    refine seq.cut (fun b h' => Ext h7 h' ∧ (b = false → a.b.2 = 0 ∨ a.b.2 = -1)) ?_ ?_
    · refine Int_spec (by decide) fun v8 h8 hv8 e8 => ?_
      rw [n0] at hv8
      refine CmpD_spec ((hv6.ext e7).ext e8) hv8 (by omega) fun h9 e9 => ⟨fun _ => ?_, fun hz => ⟨e8.trans e9, fun _ => .inl (cmpR_eq0.1 (by simpa using hz))⟩⟩
      refine Int_spec (by decide) fun va ha hva ea => ?_
      rw [n1] at hva
      refine CmpD_spec ((((hv6.ext e7).ext e8).ext e9).ext ea) hva (by omega) fun hb eb => ⟨((e8.trans e9).trans ea).trans eb, fun hz => .inr (cmpR_eq0.1 (by simpa using hz))⟩
    rintro b h8 ⟨e8, hb8⟩
    have e38 := (e35.trans e57).trans e8
    refine ⟨fun _ => Cf e38, fun hbf8 => ?_⟩
    have hb8 := hb8 hbf8
    refine loop.inv (fun (s : Int) h' => h' = h8 ∧ ∃ j : Nat, s = (j : Int) ∧ j ≤ i) (fun s _ => i - s.toNat) ⟨rfl, 0, rfl, by omega⟩ ?_
    rintro _ hx ⟨hxe, j, rfl, hj⟩
    rw [hxe]
    clear hxe hx
    refine ⟨fun hlt2 => ?_, fun _ => ?_⟩
    · simp only [decide_eq_true_eq] at hlt2
      refine q.ats.atE (e0.trans e38) (j := j) rfl (by omega) fun a3 w hw _ => ?_
      have hc : cell? h8 (a3.add 0) = some (Value.int .i64 w.1) := by have := cells?_get _ _ _ hw 0 (by rw [len9]; decide); rw [Nat.zero_add] at this; exact this
      refine ⟨_, hc, ⟨fun _ => Cf e38, fun _ => ?_⟩⟩
      rintro k hk
      exact ⟨⟨rfl, j + 1, by rw [hk, w64 (by omega) (by omega)]; rfl, by omega⟩, by rw [hk, w64 (by omega) (by omega)]; omega⟩
    · rintro k hk
      refine ⟨⟨e38, i + 1, by rw [hk, w64 (by omega) (by omega)]; rfl, by omega, fun x hx => ?_⟩, by rw [hk, w64 (by omega) (by omega)]; omega⟩
      rw [htk] at hx
      rcases List.mem_append.1 hx with hx | hx
      · exact hal x hx
      · simp at hx; subst hx; exact ⟨hb.1, hb8, hb.2⟩
  simp only [decide_eq_false_iff_not] at hge
  have : i = t.as.length := by omega
  subst this
  rw [List.take_length] at hal
  clear hge hi
  refine loop.inv (fun (s : Int) h' => Ext h h' ∧ ∃ i : Nat, s = (i : Int) ∧ i ≤ ss.length) (fun s _ => ss.length - s.toNat) ⟨e3, 0, rfl, by omega⟩ ?_
  rintro _ h4 ⟨e4, i, rfl, hi⟩
  rw [lc]
  refine ⟨fun hlt => ?_, fun hge => ?_⟩
  · simp only [decide_eq_true_eq] at hlt
    have hlt : i < ss.length := by omega
    have hcl := (q.cls.ext (e0.trans e4))
    obtain ⟨xs, hxs, hxl⟩ := hcl.2.2 _ (List.getElem_mem hlt)
    have hgl : (ss[(i : Int).toNat]'(by omega)) = ss[i] := rfl
    have lx := hxs.len
    refine loop.inv (fun (s : Int) h' => h' = h4 ∧ ∃ j : Nat, s = (j : Int) ∧ j ≤ xs.length) (fun s _ => xs.length - s.toNat) ⟨rfl, 0, rfl, by omega⟩ ?_
    rintro _ hx ⟨hxe, j, rfl, hj⟩
    rw [hxe]
    clear hxe hx
    refine _root_.Go.Lift.R.load hcl.1 (by omega) (by omega) ?_
    rw [hgl, lx]
    refine ⟨fun hlt2 => ?_, fun _ => ?_⟩
    · simp only [decide_eq_true_eq] at hlt2
      refine _root_.Go.Lift.R.load hcl.1 (by omega) (by omega) ?_
      rw [hgl]
      refine RJ.ld hxs (j := j) rfl (by omega) ?_
      refine seq.cut (fun b h' => h' = h4) ?_ ?_
      · exact ⟨fun _ => rfl, fun _ => ⟨fun _ => ⟨fun _ => rfl, fun _ => ⟨fun _ => rfl, fun _ => rfl⟩⟩, fun _ => ⟨fun _ => rfl, fun _ => rfl⟩⟩⟩
      rintro b hx hxe
      rw [hxe]
      refine ⟨fun _ => Cf e4, fun _ => ?_⟩
      rintro k hk
      exact ⟨⟨rfl, j + 1, by rw [hk, w64 (by omega) (by omega)]; rfl, by omega⟩, by rw [hk, w64 (by omega) (by omega)]; omega⟩
    · rintro k hk
      exact ⟨⟨e4, i + 1, by rw [hk, w64 (by omega) (by omega)]; rfl, by omega⟩, by rw [hk, w64 (by omega) (by omega)]; omega⟩
  · exact C true h4 (fun _ => ⟨⟨fun p hp => (hall p hp).1, fun a ha => (hal a ha).1, fun a ha => (hal a ha).2.1⟩, fun p hp => (hall p hp).2, fun a ha => (hal a ha).2.2⟩) e4
end
end Go.Sh
