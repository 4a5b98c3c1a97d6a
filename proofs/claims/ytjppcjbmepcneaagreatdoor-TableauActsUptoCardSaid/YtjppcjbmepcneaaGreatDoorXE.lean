/-
  Laws that the proof of this claim's statement leans on, each proved under the conditions that it states.
-/
import Derived.Test.YtjppcjbmepcneaaGreatDoorXD
import Derived.Test.YtjppcjbmepcneaaGreatDoorUF
set_option linter.unusedVariables false
set_option linter.unusedSimpArgs false
namespace Go.Sh
open Go Go.Lift
theorem TableauActs_holds {reals : Int} {rows acts : Sl} {h : Heap} {Q : Bool → Heap → Prop} {ys : List X4} {as : List A9} (ht : Tab h) (hs : RS CP 4 h rows ys) (hc : rows.len ≤ rows.cap) (hraw : ∀ y ∈ ys, Raw4u h y) (ha : RS C9 9 h acts as) (hra : ∀ y ∈ as, RawA h y) (K : ∀ h', Ext h h' → Q true h') : law14uTableauActs reals rows acts h Q := by
  have hla := ha.len
  have hls := hs.len
  refine speaks14uspec ht fun h1 e1 => ⟨fun hb => by simp at hb, fun _ => ?_⟩
  refine seq.cut (fun b h' => Ext h h' ∧ (b = false → 0 ≤ reals ∧ ys.length ≤ 6 ∧ reals ≤ 20 ∧ (∀ y ∈ ys, SmP h y) ∧ as.length ≤ 20)) ?_ ?_
  · refine ⟨fun _ => ⟨e1, nofun⟩, fun g => Great14uspec (RS.ext hs e1) e1 hraw fun b h2 hb e2 => ⟨fun _ => ⟨e1.trans e2, nofun⟩, fun hbf => ⟨e1.trans e2, fun g2 => ?_⟩⟩⟩
    obtain ⟨b1, b2, b3⟩ := hb hbf
    have g := of_decide_eq_false g
    have g2 := of_decide_eq_false g2
    exact ⟨by omega, b1, b2, b3, by omega⟩
  rintro b h2 ⟨e2, hbf⟩
  refine ⟨fun _ => K h2 e2, fun hb => ?_⟩
  obtain ⟨g0, g1, g2, g3, g4⟩ := hbf hb
  clear hbf hb
  obtain ⟨n, rfl⟩ : ∃ n : Nat, reals = (n : Int) := ⟨reals.toNat, by omega⟩
  obtain ⟨ps, hps⟩ := All2.choose g3
  have hpl := hps.length
  refine loop.inv (fun t h' => Ext h h' ∧ ∃ i : Nat, t = (i : Int) ∧ i ≤ ps.length ∧ ∀ p ∈ ps.take i, p.1 = 0 ∧ ∀ m ∈ p.2, m.1 < (n : Int)) (fun t _ => ps.length - t.toNat) ⟨e2, 0, rfl, by omega, fun p hp => by simp at hp⟩ ?_
  rintro _ h3 ⟨e3, i, rfl, hi, hall⟩
  rw [hls, hpl]
  refine ⟨fun hlt => ?_, fun hge => ?_⟩
  · simp only [decide_eq_true_eq] at hlt
    have hi' : i < ps.length := by omega
    refine (RS.ext hs e3).ld (j := i) rfl (by omega) ?_
    obtain ⟨hy, fw⟩ := hps.get i (by omega) hi'
    have htk : ps.take (i + 1) = ps.take i ++ [ps[i]] := List.take_succ_eq_append_getElem hi'
    generalize ys[i] = y at *
    generalize ps[i] = p at *
    have hml := hy.m.len
    refine mem_ext fun h4 e4 => ?_
    have e34 := e3.trans e4
    refine seq.cut (fun b h' => h' = h4 ∧ (b = false → p.1 = 0 ∧ ∀ m ∈ p.2, m.1 < (n : Int))) ?_ ?_
    · refine ⟨fun _ => ⟨rfl, nofun⟩, fun c1 => ⟨fun _ => ⟨rfl, nofun⟩, fun c2 => ?_⟩⟩
      have c1 := of_decide_eq_false c1
      have c2 := of_decide_eq_false c2
      have hn12 := fw.n
      rw [w64 (by omega) (by omega)]
      refine (hy.m.ext e34).at (j := p.2.length - 1) (by omega) (by omega) fun a1 y1 hy1 hv1 _ => ⟨_, ld_var hy1, rfl, fun c3 => ⟨(sgn_len hy).1 (by omega), fun m hm => ?_⟩⟩
      have c3 := of_decide_eq_false c3
      rw [hv1] at c3
      obtain ⟨k, hk, rfl⟩ := List.getElem_of_mem hm
      by_cases hkl : k = p.2.length - 1
      · subst hkl; omega
      · have := List.pairwise_iff_getElem.1 fw.rt.srt k (p.2.length - 1) hk (by omega) (by omega)
        omega
    rintro b h5 ⟨he, hb⟩
    rw [he]; clear he
    refine ⟨fun _ => K h4 e34, fun hbf => ?_⟩
    rw [w64 (by omega) (by omega)]
    refine ⟨⟨e34, i + 1, by omega, by omega, fun p' hp' => ?_⟩, by omega⟩
    rw [htk] at hp'
    rcases List.mem_append.1 hp' with hp' | hp'
    · exact hall p' hp'
    · simp only [List.mem_singleton] at hp'
      subst hp'; exact hb hbf
  simp only [decide_eq_false_iff_not] at hge
  have : i = ps.length := by omega
  subst this
  rw [List.take_length] at hall
  clear hge hi
  refine mem_ext fun h4 e4 => ?_
  have e04 := e3.trans e4
  refine New_spec fun a h5 hb5 ha5 e5 => ?_
  have hlim : max (Int.toNat 60) 1 = 60 := rfl
  rw [hlim] at hb5
  have b5 : BO h4 a 60 false h5 := ⟨R.ext ht e04, hb5, e5, by omega⟩
  have hfew : ∀ p ∈ ps, Few4 p := All2.right hps fun _ _ hq => hq.2
  have fit0 : FitT (newT n ps) n := FitT.new (by omega) (by omega) (fun p hp => (hfew p hp).rt) (fun p hp => (hall p hp).1) (fun p hp => (hall p hp).2) fun p hp => fitsP_iff.2 ⟨Nat.le_trans (hfew p hp).c (by decide), fun m hm => Nat.le_trans ((hfew p hp).m m hm) (by decide)⟩
  have hpk : ∀ {K : Nat → Prop} {hh : Heap}, Ext h4 hh → (∀ k, K k → h4.size ≤ k) → All2 (PK K hh) ys ps := fun e hk => hps.imp fun y p hq => PK.of hq.1 (e04.trans e) (fun k hk' => Nat.le_trans e04.size (hk k hk'))
  have hrk : ∀ {K : Nat → Prop} {hh : Heap}, Ext h4 hh → (∀ k, K k → h4.size ≤ k) → RowK CP 4 PK K hh rows ps := fun e hk => ⟨hc, ⟨ys, RS.ext hs (e04.trans e), hpk e hk⟩, fun hne b hb hk' => by
    have := RS.lt hs (by decide) (hps.ne' hne) hb
    have := hk b hk'
    have := e04.size
    omega⟩
  have fin : ∀ {hA hB hC hD : Heap} {x y : S5} {p : Addr} {bv bl bu : Nat}, NewT hA hB x n ps ys bv bl bu → Ext h5 hA → Ext hB hC → Cs hD p (CT x) → Keep (some p.block) hC hD → (p.block < hA.size ∨ hB.size ≤ p.block) → h5.size ≤ p.block → TK (Vol.mk a p bv bl bu).K hC y (newT n ps) →
      ∃ V : Vol, V.a = a ∧ V.p = p ∧ (∃ x, TM h4 V 60 false hD x (newT n ps)) ∧ TK V.K hD y (newT n ps) := by
    intro hA hB hC hD x y p bv bl bu nt eA eC cD kD hpo hp5 tk
    have b1 := nt.vals.lt nt.vb; have b2 := nt.lo.lt nt.lb; have b3 := nt.up.lt nt.ub
    have s1 := eA.size; have s2 := e5.size; have s3 := b5.lt
    have hV : ∀ k, (Vol.mk a p bv bl bu).K k → h4.size ≤ k := by
      rintro k (hk | hk | hk | hk | hk) <;> dsimp only at hk <;> omega
    have bC : BO h4 a 60 false hC := b5.of_ext (eA.trans (nt.ext.trans eC))
    refine ⟨⟨a, p, bv, bl, bu⟩, rfl, rfl, ⟨x, TM.ofNew nt (e5.trans eA) (hpk (e5.trans eA) hV) cD ((KK.ext eC).trans (KK.keep kD fun k hk => by cases hk; exact .inl (.inr rfl))) (bC.fresh kD fun b e => by cases e; exact ⟨by omega, by omega⟩) (.inl (by dsimp only; omega)) hpo (by dsimp only; omega) (by dsimp only; omega)⟩, tk.kk (KK.keep kD fun k hk => by cases hk; exact .inl (.inr (.inl rfl)))⟩
  refine seq.cut (fun s h' => ∃ V : Vol, V.a = a ∧ V.p = s.1 ∧ (∃ x, TM h4 V 60 false h' x (newT n ps)) ∧ TK V.K h' s.2 (newT n ps)) ?_ ?_
  · have csx : ∀ {hh h' : Heap} {p : Addr} {cs : List Value}, Cs hh p cs → Ext hh h' → Cs h' p cs := fun c e => ⟨c.spot, fun k hk => by
      have := c.cell k hk
      exact ⟨cell_keep e this.1 (by simp), frozen_keep e (cell_lt this.1) this.2 (by simp)⟩⟩
    have s5 := b5.lt; have s45 := e5.size
    refine mem_ext fun h6 e6 => ⟨?_, ?_⟩
    · refine tNew_spec (reals := n) (ps := ps) rfl (by omega) (RS.ext hs (e04.trans (e5.trans e6))) hc hpl (by omega) fun x h7 bv bl bu nt => mem_ext fun h8 e8 => ?_
      have b1 := nt.vals.lt nt.vb; have b2 := nt.lo.lt nt.lb; have b3 := nt.up.lt nt.ub
      have s6 := e6.size; have s7 := nt.ext.size; have s8 := e8.size
      refine ⟨?_, ?_⟩
      · refine rNew_spec (K := fun k => k = a.block ∨ k = bv ∨ k = bl ∨ k = bu) rfl (by omega) (by rintro k (hk | hk | hk | hk) <;> omega) (hrk (e5.trans (e6.trans (nt.ext.trans e8))) (by rintro k (hk | hk | hk | hk) <;> omega)) (by omega) fun y h9 tk e9 => mem_ext fun h10 e10 => new_cs fun p h11 c11 hp11 e11 n11 => mem_ext fun h12 e12 => ?_
        have s9 := e9.size; have s10 := e10.size
        refine (csx c11 e12).sts rfl fun h13 c13 k13 => ?_
        refine fin (p := p) (y := y) nt e6 (((((e8.trans e9).trans e10).trans e11).trans e12)) c13 k13 (.inr (by omega)) (by omega) ((tk.raise ?_).ext ((e10.trans e11).trans e12))
        rintro k (hk | hk | hk | hk | hk)
        · exact .inl (.inl hk)
        · right; dsimp only at hk; omega
        · exact .inl (.inr (.inl hk))
        · exact .inl (.inr (.inr (.inl hk)))
        · exact .inl (.inr (.inr (.inr hk)))
      · refine new_cs fun p h9 c9 hp9 e9 n9 => mem_ext fun h10 e10 => ?_
        have s9 := e9.size; have s10 := e10.size
        refine rNew_spec (K := (Vol.mk a p bv bl bu).K) rfl (by omega) (by rintro k (hk | hk | hk | hk | hk) <;> dsimp only at hk <;> omega) (hrk (e5.trans (e6.trans (nt.ext.trans (e8.trans (e9.trans e10))))) (by rintro k (hk | hk | hk | hk | hk) <;> dsimp only at hk <;> omega)) (by omega) fun y h11 tk e11 => mem_ext fun h12 e12 => ?_
        refine (csx c9 (e10.trans (e11.trans e12))).sts rfl fun h13 c13 k13 => ?_
        exact fin (p := p) (y := y) nt e6 (((((e8.trans e9).trans e10).trans e11).trans e12)) c13 k13 (.inr (by omega)) (by omega) (tk.ext e12)
    · refine new_cs fun p h7 c7 hp7 e7 n7 => mem_ext fun h8 e8 => ?_
      have s6 := e6.size; have s7 := e7.size; have s8 := e8.size
      refine tNew_spec (reals := n) (ps := ps) rfl (by omega) (RS.ext hs (e04.trans (e5.trans (e6.trans (e7.trans e8))))) hc hpl (by omega) fun x h9 bv bl bu nt => mem_ext fun h10 e10 => ?_
      have b1 := nt.vals.lt nt.vb; have b2 := nt.lo.lt nt.lb; have b3 := nt.up.lt nt.ub
      have s9 := nt.ext.size; have s10 := e10.size
      refine rNew_spec (K := (Vol.mk a p bv bl bu).K) rfl (by omega) (by rintro k (hk | hk | hk | hk | hk) <;> dsimp only at hk <;> omega) (hrk (e5.trans (e6.trans (e7.trans (e8.trans (nt.ext.trans e10))))) (by rintro k (hk | hk | hk | hk | hk) <;> dsimp only at hk <;> omega)) (by omega) fun y h11 tk e11 => mem_ext fun h12 e12 => ?_
      refine (csx c7 (e8.trans (nt.ext.trans (e10.trans (e11.trans e12))))).sts rfl fun h13 c13 k13 => ?_
      exact fin (p := p) (y := y) nt (e6.trans (e7.trans e8)) ((e10.trans e11).trans e12) c13 k13 (.inl (by omega)) (by omega) (tk.ext e12)
  rintro ⟨p, y⟩ h6 ⟨V, hVa, hVp, ⟨x, q6⟩, tk6⟩
  dsimp only at hVp tk6
  subst hVa hVp
  clear fin hrk hpk
  refine loop.inv (fun s h' => ∃ (i : Nat) (x : S5) (t : TT), s.1 = (i : Int) ∧ i ≤ as.length ∧ TM h4 V 60 false h' x t ∧ TK V.K h' s.2 t ∧ FitT t n) (fun s _ => as.length - s.1.toNat) ⟨0, x, _, rfl, by omega, q6, tk6, fit0⟩ ?_
  rintro ⟨_, y⟩ h7 ⟨i, x, t, rfl, hi, q, tk, f⟩
  rw [hla]
  have e7 : Ext h h7 := e04.trans q.bo.ext
  refine ⟨fun hlt => ?_, fun hge => ?_⟩
  · simp only [decide_eq_true_eq] at hlt
    have hi' : i < as.length := by omega
    refine (RS.ext ha e7).ld (j := i) rfl hi' ?_
    have hr := hra _ (List.getElem_mem hi')
    generalize as[i] = y9 at *
    refine odd1uspec hr.x e7 fun b h8 hb e8 => ⟨fun _ => K h8 (e7.trans e8), fun hbf => ?_⟩
    obtain ⟨d, hd, hds⟩ := hb hbf
    have q8 := q.ext e8
    have tk8 := tk.ext e8
    have hd4 := hd.ext e04
    refine seq.cut (fun e h' => (e = 6 ∧ BO h4 V.a 60 true h') ∨ ∃ x' t', TM h4 V 60 false h' x' t' ∧ KK V.K h8 h' ∧ FitT t' n ∧ Did t t' y9.1 y9.2.1 y9.2.2.1 d e) ?_ ?_
    · refine ⟨fun hu => ?_, fun hu => ?_⟩
      · exact act_upd q8 f hd4 (by omega) hr.v (fun h' b => .inl ⟨rfl, b⟩) fun e x' t' h' g1 g2 g3 g4 => .inr ⟨x', t', g1, g2, g3, hu ▸ g4⟩
      · exact act_piv q8 f hr.v (fun h' b => .inl ⟨rfl, b⟩) fun e x' t' h' g1 g2 g3 g4 => .inr ⟨x', t', g1, g2, g3, hu ▸ g4⟩
    rintro e h9 (⟨rfl, hb9⟩ | ⟨x', t', q9, k9, f9, D⟩)
    · exact Over_spec hb9.bench ⟨fun _ => K h9 (e04.trans hb9.ext), nofun⟩
    refine Over_spec q9.bo.bench ⟨nofun, fun _ => ?_⟩
    have tk9 := tk8.kk k9
    refine seq.cut (fun r h' => r.1 = e ∧ TM h4 V 60 false h' x' t' ∧ TK V.K h' r.2 t') ?_ ?_
    · refine ⟨fun hu => ?_, fun hu => ?_⟩
      · exact ref_upd tk9 q9.lt f (DK.of hd4 q9.bo.ext q9.old) (by omega) (hu ▸ D) fun y' h' g1 g2 => ⟨rfl, q9.ext g2, g1⟩
      · exact ref_piv tk9 q9.lt f f9 (hu ▸ D) fun y' h' g1 g2 => ⟨rfl, q9.ext g2, g1⟩
    rintro ⟨e', y'⟩ h10 ⟨he, q10, tk10⟩
    dsimp only at he tk10
    subst he
    have z := f9.tsz
    have tab10 : Tab h10 := R.ext q10.bo.tab q10.bo.ext
    have pos : 0 < h10.size := Nat.lt_of_le_of_lt (Nat.zero_le _) q10.bo.lt
    refine seq.cut (fun b h' => b = false ∧ TM h4 V 60 false h' x' t' ∧ TK V.K h' y' t') ?_ ?_
    · refine ⟨fun hne => by simp at hne, fun _ => ⟨x', q10.all, ?_⟩⟩
      refine rSame_spec q10.tq tk10.q z z (by decide) (by decide) fun b h11 hb e11 => ?_
      have hb := hb.2 rfl
      subst hb
      refine ⟨nofun, fun _ => ⟨x', (q10.ext e11).all, ?_⟩⟩
      refine tRight_spec (R.ext tab10 e11) (q10.ext e11).tq (Keep.refl _ _) z (by decide) (by decide) (by decide) fun b h12 hb e12 => ?_
      have hb := hb.2 f9.g.right
      subst hb
      have e1012 := e11.trans e12
      refine ⟨nofun, fun _ => ⟨x', (q10.ext e1012).all, ?_⟩⟩
      refine tSame_spec (Nat.lt_of_lt_of_le pos e1012.size) (q10.ext e1012).tq (tk10.ext e1012).q z z (by decide) (by decide) fun b h13 hb e13 => ?_
      have hb := hb.2 rfl
      subst hb
      have e1013 := e1012.trans e13
      refine ⟨nofun, fun _ => ⟨x', (q10.ext e1013).all, ?_⟩⟩
      refine tRow_spec (bs := t'.bs) (q10.ext e1013).bas (by have := z.nb; omega) fun h14 e14 => ?_
      have e1014 := e1013.trans e14
      refine rRow_spec (bs := t'.bs) (tk10.ext e1014).bas (by have := z.nb; omega) fun h15 e15 => ⟨by simp, q10.ext (e1014.trans e15), tk10.ext (e1014.trans e15)⟩
    rintro b h11 ⟨rfl, q11, tk11⟩
    refine ⟨nofun, fun _ => ?_⟩
    rw [w64 (by dsimp only; omega) (by dsimp only; omega)]
    exact ⟨⟨i + 1, x', t', by dsimp only; omega, by omega, q11, tk11, f9⟩, by dsimp only; omega⟩
  · have z := f.tsz
    refine ⟨x, q.all, ?_⟩
    refine rSame_spec q.tq tk.q z z (by decide) (by decide) fun b h8 hb e8 => ?_
    have hb := hb.2 rfl
    subst hb
    exact K h8 (e7.trans e8)
end Go.Sh

namespace Go.Sh
open Go Go.Lift
def RawRows (h : Heap) (s : Sl) : Prop := ∃ ys, RS CP 4 h s ys ∧ s.len ≤ s.cap ∧ ∀ y ∈ ys, Raw4u h y
def RawActs (h : Heap) (s : Sl) : Prop := ∃ ys, RS C9 9 h s ys ∧ ∀ y ∈ ys, RawA h y
abbrev shAct : Shape := .cat .bool (.cat (.int .i64) (.cat (.int .i64) (.cat shD .nil)))
theorem is_rowsB {h : Heap} {cs : List Value} (H : (Shape.slice shPoly).IsB 1048576 h cs) : ∃ s : Sl, cs = [Sl.toV s] ∧ RawRows h s := by
  obtain ⟨s, rfl, ys, a1, a2, a3, _⟩ := is_rsB (toC := CP) (F := Raw4u) 4 rfl (fun r hr => is_pB hr) H
  exact ⟨s, rfl, ys, a1, a3, a2⟩
theorem is_actsB {h : Heap} {cs : List Value} (H : (Shape.slice shAct).IsB 1048576 h cs) : ∃ s : Sl, cs = [Sl.toV s] ∧ RawActs h s := by
  obtain ⟨s, rfl, ys, a1, a2, a3, _⟩ := is_rsB (toC := C9) (F := RawA) 9 rfl (fun r hr => by
    obtain ⟨l1, r1, rfl, ⟨b, rfl⟩, l2, r2, rfl, ⟨n, rfl, _⟩, l3, r3, rfl, ⟨v, rfl, hv⟩, l4, r4, rfl, h4, rfl⟩ := hr
    obtain ⟨x, rfl, hx⟩ := is_dB h4
    have := wf_i64 hv
    exact ⟨(b, n, v, x), by simp [C9, C6, C_bool_i64ui64ubool_sl_sl_bool_sl_sl, C_bool_sl_sl_bool_sl_sl], hx, by dsimp only; omega⟩) H
  exact ⟨s, rfl, ys, a1, a2⟩
end Go.Sh
