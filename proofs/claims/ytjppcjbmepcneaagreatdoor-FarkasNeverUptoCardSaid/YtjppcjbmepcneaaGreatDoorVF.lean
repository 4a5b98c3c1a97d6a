/-
  Laws that the proof of this claim's statement leans on, each proved under the conditions that it states.
-/
import Derived.Test.YtjppcjbmepcneaaGreatDoorVE
import Derived.Test.YtjppcjbmepcneaaGreatDoorUF
set_option linter.unusedVariables false
set_option linter.unusedSimpArgs false
namespace Go.Sh
open Go Go.Lift
structure RawP (h : Heap) (p : S7) : Prop where
  rows : ∃ ys, RS CP 4 h p.2.2.1 ys ∧ p.2.2.1.len ≤ p.2.2.1.cap ∧ ∀ y ∈ ys, Raw4u h y
  ats : ∃ ys, RS C9 9 h p.2.2.2.1 ys ∧ p.2.2.2.1.len ≤ p.2.2.2.1.cap ∧ ∀ y ∈ ys, Raw6 h y.2.2.2
  cls : ∃ ss : List Sl, R Sl.toV h p.2.2.2.2.1 ss ∧ ss.length ≤ 1048576 ∧ ∀ c ∈ ss, ∃ xs, RJ h c xs ∧ xs.length ≤ 1048576
def RawI (h : Heap) (s : Sl) : Prop := ∃ ys : List Y4, RS C4 4 h s ys ∧ ys.length ≤ 1048576 ∧ ∀ y ∈ ys, (∃ xs ws, XR h (co y) xs ws) ∧ -9223372036854775808 ≤ y.1 ∧ y.1 < 9223372036854775808
theorem size_eq' {l : Int} (h1 : -9223372036854775808 ≤ l) (h2 : l < 9223372036854775808) : IntKind.wrap .i64 ((if IntKind.wrap .i64 (0 - l) > l then IntKind.wrap .i64 (0 - l) else l) - 1) = truthI l := by
  by_cases hl : l = 0
  · subst hl; decide
  · exact size_eq h1 h2 hl
section
variable {h0 h : Heap}
theorem odd3uspec {x : X3} {R : Bool → Heap → Prop} (K : ∀ b h2, (b = false → bigR x = false) → Ext h h2 → R b h2) :
    mem h fun h1 => new [Value.bool x.1, Sl.toV x.2.1, Sl.toV x.2.2] h1 fun a h2 => law02uGreat (⟨some a, 1, 1⟩ : Sl) h2 R :=
  mem_ext fun h1 e1 => great1 (x := x) fun h2 e2 => K _ h2 id (e1.trans e2)
theorem great16uspec {p : S7} {list : Sl} {Q : Bool → Heap → Prop} (e0 : Ext h0 h) (hp : RawP h0 p) (hl : RawI h0 list) (C : ∀ b h', (b = false → ∃ t ss ys, PBQ h0 p t ss ∧ PBz t ∧ RS C4 4 h0 list ys ∧ ys.length ≤ 30 ∧ ∀ y ∈ ys, Y7 h0 y) → Ext h h' → Q b h') : law16uGreat p list h Q := by
  obtain ⟨⟨ys, r1, r2, r3⟩, ⟨as, a1, a2, a3⟩, ⟨ss, s1, s2, s3⟩⟩ := hp
  obtain ⟨is, i1, i2, i3⟩ := hl
  have l1 := r1.len; have l2 := a1.len; have l3 := s1.len; have l4 := i1.len
  refine mem_ext fun h1 e1 => ?_
  refine seq.cut (fun b h' => h' = h1 ∧ (b = false → ys.length ≤ 10 ∧ as.length ≤ 30 ∧ is.length ≤ 30)) ?_ ?_
  · refine ⟨fun _ => ⟨rfl, nofun⟩, fun _ => ⟨fun _ => ⟨rfl, nofun⟩, fun g1 => ⟨fun _ => ⟨rfl, nofun⟩, fun g2 => ⟨fun _ => ⟨rfl, nofun⟩, fun g3 => ⟨rfl, fun g4 => ?_⟩⟩⟩⟩⟩
    have g1 := of_decide_eq_false g1
    have g2 := of_decide_eq_false g2
    have g4 := of_decide_eq_false g4
    omega
  rintro b hx ⟨hxe, hb⟩
  rw [hxe]
  clear hxe hx
  have Ct : ∀ {h'}, Ext h h' → Q true h' := fun e => C true _ nofun e
  refine ⟨fun _ => Ct e1, fun hbf => ?_⟩
  obtain ⟨n1, n2, n4⟩ := hb hbf
  have e01 := e0.trans e1
  refine oddG_spec (toC := CP) (sz := 4) (P := SmP h0) (Qt := fun h' => Q true h') (f := fun v h K => mem h fun h1 => seq (fun (K0 : Bool → Heap → Prop) => iteB (decide (((v.2.2.2.len : Nat) : Int) > 12)) (K0 true h1) (new [Value.bool v.1, Sl.toV v.2.1, Sl.toV v.2.2.1, Sl.toV v.2.2.2] h1 fun a h2 => law12uOdd (⟨some a, 1, 1⟩ : Sl) h2 fun v h3 => K0 v h3)) K) (h0 := h1) (RS.ext r1 e01) (Keep.refl _ _) (by omega) (fun y hy h' e' R hR => odd4uspec (r3 y hy) (e01.trans e') hR) (fun h' e' => Ct (e1.trans e')) (fun g1 h2 e2 _ => ?_)
  refine oddG_spec (toC := C9) (sz := 9) (P := fun y => Sm h0 y.2.2.2) (Qt := fun h' => Q true h') (f := fun v h K => mem h fun h1 => new [Value.bool v.2.2.2.1, Sl.toV v.2.2.2.2.1, Sl.toV v.2.2.2.2.2.1, Value.bool v.2.2.2.2.2.2.1, Sl.toV v.2.2.2.2.2.2.2.1, Sl.toV v.2.2.2.2.2.2.2.2] h1 fun a h2 => law03uOdd (⟨some a, 1, 1⟩ : Sl) h2 K) (h0 := h1) (RS.ext a1 e01) e2 (by omega) (fun y hy h' e' R hR => odd1uspec (x := y.2.2.2) (a3 y hy) (e01.trans e') hR) (fun h' e' => Ct (e1.trans e')) (fun g2 h3 e3 _ => ?_)
  refine loop.inv (fun (s : Int) h' => h' = h3 ∧ ∃ j : Nat, s = (j : Int) ∧ j ≤ ss.length) (fun s _ => ss.length - s.toNat) ⟨rfl, 0, rfl, by omega⟩ ?_
  rintro _ hx ⟨hxe, j, rfl, hj⟩
  rw [hxe, l3]
  clear hxe hx
  refine ⟨fun hlt => ?_, fun _ => ?_⟩
  · simp only [decide_eq_true_eq] at hlt
    refine _root_.Go.Lift.R.load (R.ext s1 (e01.trans e3)) (by omega) (by omega) ⟨fun _ => Ct (e1.trans e3), fun _ => ⟨⟨rfl, j + 1, w64 (by omega) (by omega), by omega⟩, by rw [w64 (by omega) (by omega)]; omega⟩⟩
  refine oddG_spec (toC := C4) (sz := 4) (P := fun y => bigR (co y) = false) (Qt := fun h' => Q true h') (k := fun h' => Q false h') (f := fun v h K => mem h fun h1 => new [Value.bool v.2.1, Sl.toV v.2.2.1, Sl.toV v.2.2.2] h1 fun a h2 => law02uGreat (⟨some a, 1, 1⟩ : Sl) h2 K) (h0 := h1) (RS.ext i1 e01) e3 (by omega) (fun y hy h' e' R hR => odd3uspec (x := co y) hR) (fun h' e' => Ct (e1.trans e')) (fun g4 h4 e4 _ => ?_)
  refine C false h4 (fun _ => ?_) (e1.trans e4)
  obtain ⟨ps, hps⟩ := All2.choose (P := fun y p => PQ h0 y p ∧ Few4 p) g1
  obtain ⟨at', hat⟩ := All2.choose (P := fun y a => AQ h0 y a ∧ szD a.b ≤ 6) (l := as) fun y hy => by
    obtain ⟨d, hd, sd⟩ := g2 y hy
    exact ⟨⟨y.1, y.2.1, y.2.2.1, d⟩, ⟨rfl, rfl, rfl, hd⟩, sd⟩
  have m1 := hps.length; have m2 := hat.length
  refine ⟨⟨p.1, p.2.1, ps, at'⟩, ss, is, ⟨rfl, rfl, ⟨r2, ys, r1, hps.imp fun _ _ h => h.1⟩, ⟨a2, as, a1, hat.imp fun _ _ h => h.1⟩, ⟨s1, s2, s3⟩⟩, ⟨hps.right fun _ _ h => h.2, hat.right fun _ _ h => h.2, by dsimp only; omega, by dsimp only; omega⟩, i1, n4, fun y hy => ⟨(i3 y hy).1, g4 y hy, (i3 y hy).2.1, (i3 y hy).2.2⟩⟩
theorem real_spec {x : X3} {R : Bool → Heap → Prop} (hx : RawB h0 x) (e0 : Ext h0 h) (K : ∀ b h2, (b = false → ∃ q, RQ h0 x q ∧ szQ q ≤ 6) → Ext h h2 → R b h2) :
    mem h fun h1 => seq (fun (K0u2 : Bool → Heap → Prop) => new [Value.bool x.1, Sl.toV x.2.1, Sl.toV x.2.2] h1 fun a h2 => law02uGreat (⟨some a, 1, 1⟩ : Sl) h2 fun v h3 => iteB v (K0u2 true h3) (ref02uRight (x.1, x.2.1, x.2.2) h3 fun v7 h4 => K0u2 (!v7) h4)) R := by
  obtain ⟨xs, ws, hX, _, _⟩ := hx
  refine mem_ext fun h1 e1 => seq.dup (great1 (x := x) fun h2 e2 => ⟨fun _ => K true h2 nofun (e1.trans e2), fun hb => ?_⟩)
  refine right6 hX hb (e0.trans (e1.trans e2)) fun b h3 hb3 e3 => K _ h3 (fun hf => hb3 (by simpa using hf)) ((e1.trans e2).trans e3)
end
end Go.Sh

namespace Go.Sh
open Go Go.Lift
theorem FarkasNever_holds {p : S7} {list reals : Sl} {h : Heap} {Q : Bool → Heap → Prop} (ht : Tab h) (hp : RawP h p) (hl : RawI h list) (hr : RawL h reals) (K : ∀ h', Ext h h' → Q true h') : law16uFarkasNever p list reals h Q := by
  obtain ⟨xs, x1, x3, x2⟩ := hr
  have lr := x1.len
  refine mem_ext fun h1 e1 => speaks16uspec (R.ext ht e1) fun h2 e2 => ⟨fun hb => by simp at hb, fun _ => ?_⟩
  have e02 := e1.trans e2
  refine seq.cut (fun b h' => Ext h h' ∧ (b = false → ∃ t ss ys, PBQ h p t ss ∧ PBz t ∧ RS C4 4 h list ys ∧ ys.length ≤ 30 ∧ (∀ y ∈ ys, Y7 h y) ∧ Fact13 t ∧ (reals.len : Int) = t.m ∧ reals.len ≤ 30 ∧ ∃ s, Der t (ys.map (·.1)) s ∧ s.1.2 = [] ∧ cmpD s.2 (0, 0) < 0)) ?_ ?_
  · refine great16uspec e02 hp hl fun b3 h3 hb3 e3 => ⟨fun _ => ⟨e02.trans e3, nofun⟩, fun hf => ?_⟩
    obtain ⟨t, ss, ys, q, z, i1, i2, i3⟩ := hb3 hf
    have e03 := e02.trans e3
    refine ⟨fun _ => ⟨e03, nofun⟩, fun g1 => ⟨fun _ => ⟨e03, nofun⟩, fun g2 => ?_⟩⟩
    have g2 := of_decide_eq_false g2
    have hm : p.2.1 = t.m := q.m
    have g1 : ((reals.len : Nat) : Int) = p.2.1 := by simpa using g1
    refine ref13uspec e03 q z fun b4 h4 hb4 e4 => ⟨fun _ => ⟨e03.trans e4, nofun⟩, fun g4 => ?_⟩
    have F := hb4 (by simpa using g4)
    refine holds_spec ht (e03.trans e4) q z F.F.r i1 i2 i3 fun b5 h5 hb5 _ e5 => ⟨(e03.trans e4).trans e5, fun hbf => ?_⟩
    exact ⟨t, ss, ys, q, z, i1, i2, i3, F, by omega, by omega, hb5 (by simpa using hbf)⟩
  rintro b h3 ⟨e3, hb⟩
  refine ⟨fun _ => K h3 e3, fun hbf => ?_⟩
  obtain ⟨t, ss, ys, q, z, i1, i2, i3, F, gm, gl, s, der, sn, sc⟩ := hb hbf
  have hna := z.na; have hnp := z.np
  clear hb
  refine oddG_spec (toC := C_bool_sl_sl) (sz := 3) (P := fun x => ∃ q, RQ h x q ∧ szQ q ≤ 6) (Qt := fun h' => Q true h') (f := fun v h K => mem h fun h1 => seq (fun (K0u2 : Bool → Heap → Prop) => new [Value.bool v.1, Sl.toV v.2.1, Sl.toV v.2.2] h1 fun a h2 => law02uGreat (⟨some a, 1, 1⟩ : Sl) h2 fun v6 h3 => iteB v6 (K0u2 true h3) (ref02uRight (v.1, v.2.1, v.2.2) h3 fun v7 h4 => K0u2 (!v7) h4)) K) (h0 := h) x1 e3 (by omega) (fun y hy h' e' R hR => real_spec (x3 y hy) e' hR) (fun h' e' => K h' e') (fun g1 h4 e4 _ => ?_)
  obtain ⟨rs, hrs⟩ := All2.choose (P := fun x q => RQ h x q ∧ szQ q ≤ 6) g1
  have lrs := hrs.length
  have hRL : RL K0 h reals rs := ⟨⟨xs, x1, hrs.imp fun _ _ h => RK.of_rq h.1 (fun k hk => hk.elim)⟩, fun _ k hk => hk.elim⟩
  have RLx : ∀ {h h' : Heap}, RL K0 h reals rs → Ext h h' → RL K0 h' reals rs := fun {h h'} r e => by
    obtain ⟨⟨xs, a1, a2⟩, a3⟩ := r
    exact ⟨⟨xs, RS.ext a1 e, a2.imp fun _ _ h => h.ext e⟩, a3⟩
  have hsz : ∀ q ∈ rs, szQ q ≤ 6 := hrs.right fun _ _ h => h.2
  have hn := Der.never F.F (f := at? rs) der sn sc
  have li := i1.len
  have la := q.ats.len
  refine loop.inv (fun (s0 : Int) h' => Ext h h' ∧ ∃ i : Nat, s0 = (i : Int) ∧ i ≤ ys.length ∧ ∀ l ∈ (ys.take i).map (·.1), ∀ a ∈ t.as, a.v = truthI l → (leD (vP (at? rs) (rowB t a)) a.b ↔ l > 0)) (fun s0 _ => ys.length - s0.toNat) ⟨e4, 0, rfl, by omega, fun l hl => by simp at hl⟩ ?_
  rintro _ h5 ⟨e5, i, rfl, hi, hall⟩
  rw [li]
  refine ⟨fun hlt => ?_, fun hge => ?_⟩
  · simp only [decide_eq_true_eq] at hlt
    have hlt : i < ys.length := by omega
    have htk : ys.take (i + 1) = ys.take i ++ [ys[i]] := List.take_succ_eq_append_getElem hlt
    have hyi := i3 _ (List.getElem_mem hlt)
    refine (RS.ext i1 e5).ld (i := (i : Int)) (j := i) rfl hlt (mem_ext fun h6 e6 => ?_)
    generalize ys[i] = y at *
    obtain ⟨_, _, r1, r2⟩ := hyi
    have e06 := e5.trans e6
    refine loop.inv (fun (s0 : Int) h' => Ext h h' ∧ ∃ j : Nat, s0 = (j : Int) ∧ j ≤ t.as.length ∧ ∀ a ∈ t.as.take j, a.v = truthI y.1 → (leD (vP (at? rs) (rowB t a)) a.b ↔ y.1 > 0)) (fun s0 _ => t.as.length - s0.toNat) ⟨e06, 0, rfl, by omega, fun a ha => by simp at ha⟩ ?_
    rintro _ h7 ⟨e7, j, rfl, hj, hal⟩
    rw [la]
    refine ⟨fun hlt2 => ?_, fun hge2 => ?_⟩
    · simp only [decide_eq_true_eq] at hlt2
      have hlt2 : j < t.as.length := by omega
      have htk2 : t.as.take (j + 1) = t.as.take j ++ [t.as[j]] := List.take_succ_eq_append_getElem hlt2
      have hmem := List.getElem_mem hlt2
      refine seq.cut (fun (_ : Unit) h' => Ext h h' ∧ (t.as[j].v = truthI y.1 → (leD (vP (at? rs) (rowB t t.as[j])) t.as[j].b ↔ y.1 > 0))) ?_ ?_
      · refine q.ats.ldE e7 rfl hlt2 fun w hw => mem_ext fun h8 e8 => ?_
        generalize t.as[j] = a at *
        obtain ⟨y1, y2, y3, y4⟩ := hw
        have e08 := e7.trans e8
        dsimp only
        rw [size_eq' r1 r2]
        refine ⟨fun hne => ⟨e08, fun hv => ?_⟩, fun heq => ?_⟩
        · rw [y1, hv] at hne; simp at hne
        have hv : a.v = truthI y.1 := by rw [← y1]; simpa using heq
        refine seq.dup (mem_ext fun h9 e9 => OfQ (by decide) (by decide) fun u ha hu _ ea => mem_ext fun hb eb => ?_)
        intro T
        have ec := Ext.push hb (.cells [Value.int .i64 w.2.1, Value.bool u.1, Sl.toV u.2.1, Sl.toV u.2.2].toArray T (0, 0))
        have rc : RS C4 4 _ (⟨some ⟨hb.size, 0, none⟩, 1, 1⟩ : Sl) [(w.2.1, u.1, u.2.1, u.2.2)] := RS.new (h := hb) (cs := [Value.int .i64 w.2.1, Value.bool u.1, Sl.toV u.2.1, Sl.toV u.2.2]) (T := T) len4 rfl rfl
        generalize (hb.push (.cells [Value.int .i64 w.2.1, Value.bool u.1, Sl.toV u.2.1, Sl.toV u.2.2].toArray T (0, 0)) : Heap) = hc at *
        refine mem_ext fun hd ed => ?_
        have e8d := (((e9.trans ea).trans eb).trans ec).trans ed
        have e0d := e08.trans e8d
        have n1 : (((1 : Int)) : Rat) = 1 := by grind
        rw [n1] at hu
        have hone : PQ hd (false, Sl.nil, Sl.nil, (⟨some ⟨hb.size, 0, none⟩, 1, 1⟩ : Sl)) (0, [(w.2.1, 1)]) := ⟨RQ.zero, Nat.le_refl _, ⟨_, RS.ext rc ed, .cons ⟨rfl, RK.of_rq (hu.ext ((eb.trans ec).trans ed)) (fun k hk => hk.elim)⟩ .nil⟩, fun _ k hk => hk.elim⟩
        have s1 := sz1
        obtain ⟨b1, b2, b3⟩ := rowB_sz z (at' := a)
        refine seq.cut (fun (x : X4) h' => h' = hd ∧ PQ hd x (rowB t a) ∧ inR rs.length (rowB t a).2) ?_ ?_
        · refine ⟨fun hg => ?_, fun hg => ?_⟩
          · have hg := of_decide_eq_true hg
            rw [y3] at hg ⊢
            have hrl := F.F.r a hmem
            have hrow : rowB t a = t.ps[a.r.toNat]'(by omega) := by
              unfold rowB; rw [if_pos hg, List.getD_eq_getElem?_getD, List.getElem?_eq_getElem (by omega)]; rfl
            refine q.rows.ldE e0d (j := a.r.toNat) (by omega) (by omega) fun x hx => ⟨rfl, ?_, ?_⟩
            · rw [hrow]; exact hx.ext e0d
            · rw [hrow]
              intro m hm
              have hpm := List.getElem_mem (l := t.ps) (n := a.r.toNat) (by omega)
              have g1 := (z.p _ hpm).rt.nn m hm
              have g2 := F.ln _ hpm m hm
              exact ⟨g1, by omega⟩
          · have hg := of_decide_eq_false hg
            rw [y3] at hg
            have hrow : rowB t a = (0, [(w.2.1, 1)]) := by unfold rowB; rw [if_neg hg, y2]
            refine ⟨rfl, by rw [hrow]; exact hone, ?_⟩
            rw [hrow]
            intro m hm
            simp at hm
            subst hm
            have := F.u a hmem
            dsimp only
            rw [y2]
            omega
        rintro x hx ⟨hxe, hpx, hin⟩
        rw [hxe]
        clear hxe hx
        have sa := z.a a hmem
        refine ValueR_spec hpx (RLx hRL e0d) hin b3 b1 b2 hsz fun v he hv16 sv ee => ?_
        refine Int_spec (by decide) fun v17 hf hv17 ef => mem_ext fun hg eg => ?_
        have n0 : (((0 : Int)) : Rat) = 0 := by grind
        rw [n0] at hv17
        have e0g := ((e0d.trans ee).trans ef).trans eg
        refine OfDD_spec (y4.ext e0g) (by omega) fun v18 hh hv18 eh => ?_
        have s0 := sz_zero
        refine CmpDD_spec (x := (v.1, v.2.1, v.2.2, v17.1, v17.2.1, v17.2.2)) (p := (vP (at? rs) (rowB t a), 0)) ⟨((hv16.ext ef).ext eg).ext eh, (hv17.ext eg).ext eh⟩ hv18 (by unfold szD at sa ⊢; dsimp only; omega) fun hk ek => ?_
        have e0k := (e0g.trans eh).trans ek
        refine ⟨fun _ => K hk e0k, fun hag => ⟨e0k, fun _ => ?_⟩⟩
        rw [← cmpD_le]
        have hag : (decide (cmpD (vP (at? rs) (rowB t a), 0) a.b ≤ 0) == decide (y.1 > 0)) = true := by simpa using hag
        rw [beq_iff_eq, decide_eq_decide] at hag
        exact hag
      rintro _ h8 ⟨e8, hag⟩
      refine ⟨⟨e8, j + 1, w64 (by omega) (by omega), by omega, fun a ha => ?_⟩, by rw [w64 (by omega) (by omega)]; omega⟩
      rw [htk2] at ha
      rcases List.mem_append.1 ha with ha | ha
      · exact hal a ha
      · simp at ha; subst ha; exact hag
    · simp only [decide_eq_false_iff_not] at hge2
      have : j = t.as.length := by omega
      subst this
      rw [List.take_length] at hal
      refine ⟨⟨e7, i + 1, w64 (by omega) (by omega), by omega, fun l hl a ha hv => ?_⟩, by rw [w64 (by omega) (by omega)]; omega⟩
      rw [htk, List.map_append] at hl
      rcases List.mem_append.1 hl with hl | hl
      · exact hall l hl a ha hv
      · simp at hl; subst hl; exact hal a ha hv
  · simp only [decide_eq_false_iff_not] at hge
    have : i = ys.length := by omega
    subst this
    rw [List.take_length] at hall
    obtain ⟨l, hl, a, ha, hv, hno⟩ := hn
    exact absurd (hall l hl a ha hv) hno
end Go.Sh

namespace Go.Sh
open Go Go.Lift
abbrev shAt : Shape := .cat (.int .i64) (.cat (.int .i64) (.cat (.int .i64) (.cat shD .nil)))
abbrev shI : Shape := .slice (.int .i64)
theorem is_atB {h : Heap} {cs : List Value} (H : shAt.IsB 1048576 h cs) : ∃ x : A9, cs = C9 x ∧ Raw6 h x.2.2.2 := by
  obtain ⟨l, r, rfl, ⟨n, rfl, _⟩, l2, r2, rfl, ⟨n2, rfl, _⟩, l3, r3, rfl, ⟨n3, rfl, _⟩, l4, r4, rfl, h4, rfl⟩ := H
  obtain ⟨x, rfl, hx⟩ := is_dB h4
  exact ⟨(n, n2, n3, x), rfl, hx⟩
theorem is_jjB {h : Heap} {cs : List Value} (H : (Shape.slice shI).IsB 1048576 h cs) : ∃ s : Sl, cs = [Sl.toV s] ∧ ∃ ss : List Sl, R Sl.toV h s ss ∧ ss.length ≤ 1048576 ∧ ∀ c ∈ ss, ∃ xs : List Int, RJ h c xs ∧ xs.length ≤ 1048576 := by
  obtain ⟨s, rfl, ss, h2, h3, h4, h5⟩ := is_rsB (toC := fun s : Sl => [Sl.toV s]) (F := fun h s => ∃ xs : List Int, RJ h s xs ∧ xs.length ≤ 1048576) 1 rfl (fun r hr => by
    have hr' := hr
    obtain ⟨s, rfl, bs, g1⟩ := is_jB hr
    obtain ⟨s', rows, hs, _, hlen, _⟩ := hr'
    have : s' = s := by
      simp only [List.cons.injEq, and_true] at hs
      cases s; cases s'; simp only [Sl.toV, Value.slice.injEq] at hs; obtain ⟨rfl, rfl, rfl⟩ := hs; rfl
    subst this
    exact ⟨s', rfl, bs, g1, by have := g1.len; omega⟩) H
  refine ⟨s, rfl, ss, ?_, h5, h3⟩
  have hl := h2.len
  cases ss with
  | nil => exact R.nil_of (by simpa using hl)
  | cons x l =>
    obtain ⟨a, ha, _⟩ := h2.cells 0 (by simp)
    refine R.mk' hl h4 a ha fun i hi => ?_
    obtain ⟨a', ha', hc⟩ := h2.cells i hi
    rw [ha] at ha'; cases ha'
    have := cells?_get _ _ _ hc 0 (by simp)
    simpa [addr_add_add] using this
theorem is_itB {h : Heap} {cs : List Value} (H : (Shape.slice (.cat (.int .i64) (.cat shQ .nil))).IsB 1048576 h cs) : ∃ s : Sl, cs = [Sl.toV s] ∧ RawI h s := by
  obtain ⟨s, rfl, ys, h2, h3, _, h5⟩ := is_rsB (toC := C4) (F := fun h (y : Y4) => (∃ xs ws, XR h (co y) xs ws) ∧ -9223372036854775808 ≤ y.1 ∧ y.1 < 9223372036854775808) 4 rfl (fun r hr => by
    obtain ⟨l, r, rfl, ⟨n, rfl, hn⟩, l2, r2, rfl, h2, rfl⟩ := hr
    obtain ⟨y, rfl, xs, ws, hy, _⟩ := is_qB h2
    refine ⟨(n, y.1, y.2.1, y.2.2), rfl, ⟨xs, ws, hy⟩, ?_⟩
    simp only [Lit.wf, Bool.and_eq_true, decide_eq_true_eq] at hn
    have h1 : IntKind.min .i64 = -9223372036854775808 := rfl
    have h2 : IntKind.max .i64 = 9223372036854775807 := rfl
    rw [h1, h2] at hn
    dsimp only
    omega) H
  exact ⟨s, rfl, ys, h2, h5, h3⟩
abbrev shPr : Shape := .cat (.int .i64) (.cat (.int .i64) (.cat (.slice shPoly) (.cat (.slice shAt) (.cat (.slice shI) (.cat shI (.cat (.slice shPoly) .nil))))))
theorem is_prB {h : Heap} {cs : List Value} (H : shPr.IsB 1048576 h cs) : ∃ x : S7, cs = P7 x ∧ RawP h x := by
  obtain ⟨l1, r1, rfl, ⟨n, rfl, _⟩, l2, r2, rfl, ⟨m, rfl, _⟩, l3, r3, rfl, h3, l4, r4, rfl, h4, l5, r5, rfl, h5, l6, r6, rfl, h6, l7, r7, rfl, h7, rfl⟩ := H
  obtain ⟨s3, rfl, ys, a1, a2, a3, _⟩ := is_rsB (toC := CP) (F := Raw4u) 4 rfl (fun r hr => is_pB hr) h3
  obtain ⟨s4, rfl, as, b1, b2, b3, _⟩ := is_rsB (toC := C9) (F := fun h (y : A9) => Raw6 h y.2.2.2) 9 rfl (fun r hr => is_atB hr) h4
  obtain ⟨s5, rfl, ss, c1, c2, c3⟩ := is_jjB h5
  obtain ⟨s6, rfl, _⟩ := is_jB h6
  obtain ⟨s7, rfl, _⟩ := is_rsB (toC := CP) (F := Raw4u) 4 rfl (fun r hr => is_pB hr) h7
  exact ⟨(n, m, s3, s4, s5, s6, s7), rfl, ⟨⟨ys, a1, a3, a2⟩, ⟨as, b1, b3, b2⟩, ⟨ss, c1, c2, c3⟩⟩⟩
end Go.Sh
