/-
  Laws that the proof of this claim's statement leans on, each proved under the conditions that it states.
-/
import Derived.Test.YtkjcocjkcjmafaaSpK
import Derived.Test.YtkjcocjkcjmafaaSpG
import Derived.Test.YtkjcocjkcjmafaaSpE
import Derived.Test.YtkjcocjkcjmafaaSpX
set_option linter.unusedVariables false
set_option linter.unusedSimpArgs false
namespace Go.Sh
open Go Go.Lift Go.Cla
variable {S S0 : SS} {n : Nat}
structure GS (S : SS) : Prop where
  lev : ∀ i, i < S.tra.length → ∃ k, IsLvl S.hea i k ∧ atI S.lev (tr (tl S i)) = (k : Int)
  hea : ∀ i, i < S.hea.length → Hk S i
  fre : ∀ v, v < S.val.length → Fk S v
  rea : ∀ i, i < S.tra.length → RkP S i
  use : ∀ j, j < S.cls.length → 0 ≤ (S.cl j).use
theorem nodup_pairs {W : List (List Int)} (h : ∀ w, w < W.length → (W.getD w []).Nodup) : ∀ m, m ≤ W.length → (pairsW W m).Nodup := by
  intro m
  induction m with
  | zero => intro _; simp [pairsW]
  | succ m ih =>
    intro hm
    simp only [pairsW]
    rw [List.nodup_append]
    refine ⟨ih (by omega), List.Pairwise.map _ (fun a b h => by intro e; cases e; exact h rfl) (h m (by omega)), fun a ha b hb e => ?_⟩
    obtain ⟨y, _, rfl⟩ := List.mem_map.1 hb
    subst e
    have := (pairs_mem.1 ha).1
    omega
theorem Wok.tot (t : Tok n S) (w : Wok n S S.wt) : total S.wat = 2 * S.cls.length := by
  have hw := t.wn
  have hnd : (pairsW S.wat S.wat.length).Nodup := nodup_pairs (fun k hk => by
    rw [List.nodup_iff_count]
    intro y
    by_cases hy : y ∈ S.wat.getD k []
    · obtain ⟨j, hj, rfl⟩ := w.rng k (by omega) y hy
      have h1 : (S.wat.getD k []).count (j : Int) = if watches S j k then 1 else 0 := w.cnt k (by omega) j hj
      rw [h1]; split <;> omega
    · rw [List.count_eq_zero.2 hy]; omega) _ (Nat.le_refl _)
  let f : Nat → Nat × Int := fun j => (wch (lit S (j / 2) (j % 2)), ((j / 2 : Nat) : Int))
  have hfn : ((List.range (2 * S.cls.length)).map f).Nodup := by
    rw [List.nodup_iff_pairwise_ne, List.pairwise_map]
    refine (List.nodup_range (n := 2 * S.cls.length)).imp_of_mem fun {a b} ha hb hab e => ?_
    have ha := List.mem_range.1 ha
    have hb := List.mem_range.1 hb
    have e1 : wch (lit S (a / 2) (a % 2)) = wch (lit S (b / 2) (b % 2)) := congrArg Prod.fst e
    have e2 : ((a / 2 : Nat) : Int) = ((b / 2 : Nat) : Int) := congrArg Prod.snd e
    have e2 : a / 2 = b / 2 := by omega
    have F := t.fit (a / 2) (by omega)
    have h2 := F.2.2
    rw [← e2] at e1
    have := F.two (i := a % 2) (k := b % 2) (by omega) (by omega) (by omega)
    have l1 := F.at (j := a / 2) (i := a % 2) (by omega)
    have l2 := F.at (j := a / 2) (i := b % 2) (by omega)
    refine this ?_
    have g1 := l1.1; have g2 := l2.1
    show tr (lit S (a / 2) (a % 2)) = tr (lit S (a / 2) (b % 2))
    generalize lit S (a / 2) (a % 2) = u at *
    generalize lit S (a / 2) (b % 2) = v at *
    unfold wch at e1
    unfold tr at *
    split at e1 <;> split at e1 <;> omega
  have hp : (pairsW S.wat S.wat.length).Perm ((List.range (2 * S.cls.length)).map f) := by
    refine (List.perm_ext_iff_of_nodup hnd hfn).2 fun ⟨k, e⟩ => ?_
    rw [pairs_mem, List.mem_map]
    constructor
    · rintro ⟨h1, h2⟩
      obtain ⟨j, hj, rfl⟩ := w.rng k (by omega) e h2
      have h3 : (S.wat.getD k []).count (j : Int) = if watches S j k then 1 else 0 := w.cnt k (by omega) j hj
      have h4 : 0 < (S.wat.getD k []).count (j : Int) := List.count_pos_iff.2 h2
      have h5 : watches S j k := by
        by_cases g : watches S j k
        · exact g
        · rw [if_neg g] at h3; omega
      rcases h5 with g | g
      · refine ⟨2 * j, List.mem_range.2 (by omega), ?_⟩
        show (wch (lit S (2 * j / 2) (2 * j % 2)), ((2 * j / 2 : Nat) : Int)) = _
        rw [show 2 * j / 2 = j by omega, show 2 * j % 2 = 0 by omega, g]
      · refine ⟨2 * j + 1, List.mem_range.2 (by omega), ?_⟩
        show (wch (lit S ((2 * j + 1) / 2) ((2 * j + 1) % 2)), (((2 * j + 1) / 2 : Nat) : Int)) = _
        rw [show (2 * j + 1) / 2 = j by omega, show (2 * j + 1) % 2 = 1 by omega, g]
    · rintro ⟨a, ha, e⟩
      have ha := List.mem_range.1 ha
      obtain ⟨rfl, rfl⟩ : wch (lit S (a / 2) (a % 2)) = k ∧ ((a / 2 : Nat) : Int) = _ := Prod.mk.inj e
      have F := t.fit (a / 2) (by omega)
      have h2 := F.2.2
      have hl := wch_lt (F.at (j := a / 2) (i := a % 2) (by omega))
      refine ⟨by omega, List.one_le_count_iff.1 ?_⟩
      have h3 : (S.wat.getD (wch (lit S (a / 2) (a % 2))) []).count ((a / 2 : Nat) : Int) = if watches S (a / 2) (wch (lit S (a / 2) (a % 2))) then 1 else 0 := w.cnt _ hl (a / 2) (by omega)
      rw [h3, if_pos]
      · omega
      · unfold watches
        rcases Nat.mod_two_eq_zero_or_one a with g | g
        · rw [g]; exact .inl rfl
        · rw [g]; exact .inr rfl
  have := hp.length_eq
  rw [pairs_len (Nat.le_refl _), List.take_length, List.length_map, List.length_range] at this
  exact this
theorem right_of (t : Tok n S) (w : Wok n S S.wt) (g : GS S) : RightS S S.nxt where
  wlen := by rw [t.wn, t.vn]
  llen := by rw [t.ln, t.vn]
  rlen := by rw [t.rn, t.vn]
  nlo := by omega
  nhi := by have := t.nx; omega
  cls := fun i hi => ⟨g.use i hi, by rw [t.vn]; exact t.fit i hi⟩
  tot := w.tot t
  wat := fun i hi k hk => by
    have f := t.fit i hi
    have h2 := f.2.2
    have hl := wch_lt (f.at (j := i) (i := k) (by omega))
    refine (w.cnt _ hl i hi).trans (if_pos ?_)
    match k, hk with
    | 0, _ => exact .inl rfl
    | 1, _ => exact .inr rfl
  tra := fun i hi => ⟨by rw [t.vn]; exact (t.tt _ (at_mem hi)).1, fun j hj e => by have := nodup_at t.tn (by omega : j < S.tra.length) hi e; omega, (t.tt _ (at_mem hi)).2, g.lev i hi⟩
  hea := g.hea
  fre := g.fre
  rea := g.rea
theorem few_of (t : Tok n S) (w : Wok n S S.wt) (hn : n ≤ 20) (hc : S.cls.length ≤ 100) (hh : S.hea.length ≤ 40) : Few8 S where
  v := by rw [t.vn]; exact hn
  c := by omega
  w := by rw [t.wn]; omega
  t := by
    have := few_of_nodup t.tn (N := n) (fun v hv => by obtain ⟨l, hl, e⟩ := List.mem_map.1 hv; rw [← e]; exact (t.tt l hl).1.tr)
    rw [List.length_map] at this
    omega
  h := hh
  l := fun i => by
    by_cases hi : i < S.cls.length
    · have ff := t.fit i hi
      have := few_of_nodup ff.2.1 (N := n) (fun v hv => by obtain ⟨l, hl, e⟩ := List.mem_map.1 hv; rw [← e]; exact (ff.1 l hl).tr)
      rw [List.length_map] at this
      omega
    · unfold SS.cl; rw [List.getD_eq_getElem?_getD, List.getElem?_eq_none (by omega)]; simp
  wl := fun k => by
    by_cases hk : k < 2 * n
    · have := w.len hk; omega
    · rw [wt_none (by rw [t.wn]; omega)]; simp
theorem GS.empty : GS (emptyS n) where
  lev := fun i hi => by have : i < ([] : List Int).length := hi; simp at this
  hea := fun i hi => by have : i < ([] : List Int).length := hi; simp at this
  fre := fun v hv _ => ⟨at_rep0, at_rep0, by
    have hv' : v < n := by simpa [emptyS] using hv
    show atI (List.replicate n (-1)) v = -1
    unfold atI
    rw [List.getD_eq_getElem?_getD, List.getElem?_replicate, if_pos hv']; rfl⟩
  rea := fun i hi => by have : i < ([] : List Int).length := hi; simp at this
  use := fun j hj => by have : j < ([] : List Cl).length := hj; simp at this
theorem addS_len (S : SS) (L : List Int) (b : Bool) : (addS S L b).cls.length = S.cls.length + 1 := by
  show (S.cls ++ [_]).length = _; simp
theorem GS.add (g : GS S) (L : List Int) (b : Bool) : GS (addS S L b) where
  lev := g.lev
  hea := fun i hi => by have := g.hea i hi; exact ⟨this.lo, this.hi, this.mo, this.re⟩
  fre := g.fre
  rea := fun i hi => by
    rcases g.rea i hi with h | ⟨c, h1, h2, h3, h4⟩
    · exact .inl h
    · have ec : (addS S L b).cl c = S.cl c := by rw [addS_cl, if_neg (by omega)]
      exact .inr ⟨c, h1, by rw [addS_len]; omega, by rw [ec]; exact h3, by rw [ec]; exact h4⟩
  use := fun j hj => by
    rw [addS_cl]
    split
    · exact Int.le_refl _
    · rename_i hne
      rw [addS_len] at hj
      exact g.use j (by omega)
theorem setU_cl (S : SS) (j : Nat) (u : Int) (i : Nat) : ((setU S j u).cl i).lits = (S.cl i).lits := by
  unfold setU SS.cl
  simp only [List.getD_eq_getElem?_getD]
  rw [List.getElem?_set]
  split
  · rename_i e
    subst e
    split
    · rename_i h
      simp
    · rename_i h
      rw [List.getElem?_eq_none (by omega)]
  · rfl
theorem GS.setU (g : GS S) {j : Nat} {u : Int} (hu : 0 ≤ u) : GS (setU S j u) where
  lev := g.lev
  hea := fun i hi => by have := g.hea i hi; exact ⟨this.lo, this.hi, this.mo, this.re⟩
  fre := g.fre
  rea := fun i hi => by
    rcases g.rea i hi with h | ⟨c, h1, h2, h3, h4⟩
    · exact .inl h
    · exact .inr ⟨c, h1, by show c < (S.cls.set _ _).length; simpa using h2, by rw [setU_cl]; exact h3, by rw [setU_cl]; exact h4⟩
  use := fun i hi => by
    have hi : i < S.cls.length := by have : i < (S.cls.set _ _).length := hi; simpa using this
    unfold Sh.setU SS.cl
    simp only [List.getD_eq_getElem?_getD]
    rw [List.getElem?_set]
    split
    · split
      · exact hu
      · exact Int.le_refl _
    · have := g.use i hi
      unfold SS.cl at this
      rw [List.getD_eq_getElem?_getD] at this
      exact this
end Go.Sh

namespace Go.Sh
open Go Go.Lift Go.Cla
variable {h h' : Heap} {p : Addr} {x : Nm → Sl} {vs : Nm → List Value} {S S0 : SS} {n : Nat}
theorem tl_app (T : List Int) (u : List Int) {i : Nat} (hi : i < T.length) : atI (T ++ u) i = atI T i := by
  unfold atI; rw [List.getD_eq_getElem?_getD, List.getD_eq_getElem?_getD, List.getElem?_append_left hi]
theorem tl_last (T : List Int) (l : Int) : atI (T ++ [l]) T.length = l := by
  unfold atI; rw [List.getD_eq_getElem?_getD, List.getElem?_append_right (Nat.le_refl _)]; simp
theorem untold_tr (t : Tok n S) {l : Int} (hth : There n l) (hv : vl S.val l = 0) {i : Nat} (hi : i < S.tra.length) : tr (tl S i) ≠ tr l := by
  intro e
  have h1 := (t.tt _ (at_mem hi)).2
  have h0 := vl_zero (by rw [t.vn]; exact hth) hv
  have h2 : atI S.val (tr (tl S i)) = sg (tl S i) := h1
  rw [e, h0] at h2
  have := sg_or (tl S i)
  omega
theorem GS.dec (t : Tok n S) {l : Int} (hth : There n l) (hv : vl S.val l = 0) (g : GS S) : GS (decS S l) := by
  have hz := vl_zero (by rw [t.vn]; exact hth) hv
  have hlt := hth.tr
  have eT : (decS S l).tra = S.tra ++ [l] := rfl
  have eH : (decS S l).hea = S.hea ++ [(S.tra.length : Int)] := rfl
  have eL : (decS S l).lev = S.lev.set (tr l) ((S.hea ++ [(S.tra.length : Int)]).length : Int) := rfl
  have eR : (decS S l).rea = S.rea.set (tr l) (-1) := rfl
  have eV : (decS S l).val = S.val.set (tr l) (sg l) := rfl
  have eC : ∀ j, (decS S l).cl j = S.cl j := fun j => rfl
  have aL : ∀ v, atI (decS S l).lev v = if v = tr l then ((S.hea.length + 1 : Nat) : Int) else atI S.lev v := fun v => by rw [eL, at_setL _ _ _ _ (by rw [t.ln]; exact hlt)]; simp
  have aR : ∀ v, atI (decS S l).rea v = if v = tr l then -1 else atI S.rea v := fun v => by rw [eR, at_setL _ _ _ _ (by rw [t.rn]; exact hlt)]
  have aV : ∀ v, atI (decS S l).val v = if v = tr l then sg l else atI S.val v := fun v => by rw [eV, at_setL _ _ _ _ (by rw [t.vn]; exact hlt)]
  have tO : ∀ i, i < S.tra.length → tl (decS S l) i = tl S i := fun i hi => by unfold tl; rw [eT]; exact tl_app _ _ hi
  have tN : tl (decS S l) S.tra.length = l := by unfold tl; rw [eT]; exact tl_last _ _
  have hO : ∀ i, i < S.hea.length → atI (decS S l).hea i = atI S.hea i := fun i hi => by rw [eH]; exact tl_app _ _ hi
  have hN : atI (decS S l).hea S.hea.length = (S.tra.length : Int) := by rw [eH]; exact tl_last _ _
  have len : (decS S l).tra.length = S.tra.length + 1 := by rw [eT]; simp
  have hlen : (decS S l).hea.length = S.hea.length + 1 := by rw [eH]; simp
  have un : ∀ i, i < S.tra.length → tr (tl S i) ≠ tr l := fun i hi => untold_tr t hth hv hi
  refine ⟨fun i hi => ?_, fun i hi => ?_, fun v hv' hno => ?_, fun i hi => ?_, g.use⟩
  · rw [len] at hi
    by_cases e : i = S.tra.length
    · subst e
      refine ⟨S.hea.length + 1, ⟨by omega, fun j hj => ?_, fun h => by omega⟩, by rw [tN, aL, if_pos rfl]⟩
      by_cases e2 : j = S.hea.length
      · subst e2; rw [hN]; omega
      · rw [hO j (by omega)]
        have := (g.hea j (by omega)).hi
        omega
    · obtain ⟨k, hk, hl⟩ := g.lev i (by omega)
      refine ⟨k, ⟨by have := hk.1; omega, fun j hj => by rw [hO j (by have := hk.1; omega)]; exact hk.2.1 j hj, fun hk2 => ?_⟩, by rw [tO i (by omega), aL, if_neg (un i (by omega))]; exact hl⟩
      by_cases e2 : k = S.hea.length
      · subst e2; rw [hN]; omega
      · rw [hO k (by omega)]; exact hk.2.2 (by omega)
  · rw [hlen] at hi
    by_cases e : i = S.hea.length
    · subst e
      refine ⟨by rw [hN]; omega, by rw [hN, len]; omega, fun h0 => ?_, ?_⟩
      · rw [hN, hO _ (by omega)]
        exact (g.hea _ (by omega)).hi
      · rw [hN]
        show atI (decS S l).rea (tr (tl (decS S l) ((S.tra.length : Int)).toNat)) = -1
        rw [Int.toNat_natCast, tN, aR, if_pos rfl]
    · have H := g.hea i (by omega)
      have h1 := H.lo; have h2 := H.hi
      refine ⟨by rw [hO i (by omega)]; exact h1, by rw [hO i (by omega), len]; omega, fun h0 => by rw [hO i (by omega), hO (i - 1) (by omega)]; exact H.mo h0, ?_⟩
      rw [hO i (by omega), tO _ (by omega), aR, if_neg (un _ (by omega))]
      exact H.re
  · have hne : v ≠ tr l := fun e => hno S.tra.length (by rw [len]; omega) (by rw [tN]; exact e.symm)
    have := g.fre v (by have : v < (decS S l).val.length := hv'; rw [eV, List.length_set] at this; exact this) fun i hi e => hno i (by rw [len]; omega) (by rw [tO i hi]; exact e)
    rw [aV, aL, aR, if_neg hne, if_neg hne, if_neg hne]
    exact this
  · rw [len] at hi
    by_cases e : i = S.tra.length
    · subst e
      left
      rw [tN, aR, if_pos rfl]
    · have hi' : i < S.tra.length := by omega
      unfold RkP
      rw [tO i hi', aR, if_neg (un i hi')]
      rcases g.rea i hi' with h | ⟨c, h1, h2, h3, h4⟩
      · exact .inl h
      · refine .inr ⟨c, h1, h2, h3, fun m hm hne => ?_⟩
        obtain ⟨⟨j, hj, ej⟩, hvm⟩ := h4 m hm hne
        refine ⟨⟨j, hj, by rw [tO j (by omega)]; exact ej⟩, ?_⟩
        have hne2 : tr m ≠ tr l := by rw [← ej]; exact un j (by omega)
        have hthm := vl_there (V := S.val) (l := m) (by omega)
        unfold vl at hvm ⊢
        have el : (decS S l).val.length = S.val.length := by rw [eV, List.length_set]
        rw [if_pos hthm] at hvm
        rw [el, if_pos hthm, aV, if_neg hne2]
        exact hvm
theorem GS.run (r : RI n S0 S) (t0 : Tok n S0) (g : GS S0) : GS S := by
  obtain ⟨u, hu⟩ := r.pre
  have w := r.why
  have t := r.t
  have tO : ∀ i, i < S0.tra.length → tl S i = tl S0 i := fun i hi => by unfold tl; rw [hu]; exact tl_app _ _ hi
  have len : S0.tra.length ≤ S.tra.length := by rw [hu]; simp
  have hH := r.hea
  have old : ∀ i, i < S0.tra.length → atI S.rea (tr (tl S i)) = atI S0.rea (tr (tl S0 i)) ∧ atI S.lev (tr (tl S i)) = atI S0.lev (tr (tl S0 i)) := fun i hi => by rw [tO i hi]; exact w.rk _ (at_mem hi)
  refine ⟨fun i hi => ?_, fun i hi => ?_, fun v hv hno => ?_, fun i hi => ?_, fun j hj => ?_⟩
  · rw [hH]
    by_cases e : i < S0.tra.length
    · obtain ⟨k, hk, hl⟩ := g.lev i e
      exact ⟨k, hk, (old i e).2.trans hl⟩
    · refine ⟨S0.hea.length, ⟨Nat.le_refl _, fun j hj => ?_, fun h => by omega⟩, w.lv i (by omega) hi⟩
      have := (g.hea j hj).hi
      omega
  · rw [hH] at hi
    have H := g.hea i hi
    have h1 := H.lo; have h2 := H.hi
    refine ⟨by rw [hH]; exact h1, by rw [hH]; omega, fun h0 => by rw [hH]; exact H.mo h0, ?_⟩
    rw [hH, (old _ (by omega)).1]
    exact H.re
  · have h0 : atI S.val v = 0 := by
      refine Classical.byContradiction fun hne => ?_
      obtain ⟨l, hl, e⟩ := t.tv v (by rw [← t.vn]; exact hv) hne
      obtain ⟨q, hq, rfl⟩ := mem_at hl
      exact hno q hq e
    have hf := g.fre v (by rw [t0.vn, ← t.vn]; exact hv) fun i hi e => hno i (by omega) (by rw [tO i hi]; exact e)
    obtain ⟨u1, u2⟩ := w.un v h0
    exact ⟨h0, u2.trans hf.2.1, u1.trans hf.2.2⟩
  · by_cases e : i < S0.tra.length
    · unfold RkP
      rw [(old i e).1]
      rcases g.rea i e with h | ⟨c, h1, h2, h3, h4⟩
      · exact .inl h
      · refine .inr ⟨c, h1, by rw [r.cl]; exact h2, by rw [tO i e]; exact (r.sl c h2 _).2 h3, fun m hm hne => ?_⟩
        rw [tO i e] at hne
        obtain ⟨⟨j, hj, ej⟩, hvm⟩ := h4 m ((r.sl c h2 m).1 hm) hne
        refine ⟨⟨j, hj, by rw [tO j (by omega)]; exact ej⟩, ?_⟩
        have h5 : vl S0.val (-m) = 1 := by rw [vl_neg, hvm]; rfl
        have h6 := r.told t0 _ h5
        rw [vl_neg] at h6
        omega
    · obtain ⟨j, hj, e1, e2, e3⟩ := w.rs i (by omega) hi
      refine .inr ⟨j, e1, by rw [r.cl]; exact hj, (r.sl j hj _).2 e2, fun m hm hne => ?_⟩
      obtain ⟨q, hq, eq⟩ := e3 m ((r.sl j hj m).1 hm) hne
      refine ⟨⟨q, hq, by show tr (atI S.tra q) = _; rw [eq, tr_neg]⟩, ?_⟩
      have h5 : vl S.val (-m) = 1 := t.vl_iff.2 (by rw [← eq]; exact at_mem (by omega))
      rw [vl_neg] at h5
      omega
  · rw [(r.lu j).2]
    exact g.use j (by rw [← r.cl]; exact hj)
theorem Decide_ok {l : Int} {Q : Bool → Heap → Prop} (q : SM h p x vs S) (a : Ask n S) (hx : S.nxt = S.tra.length) (hh : S.hea.length < 1000000) (hth : There n l) (hv : vl S.val l = 0)
    (K1 : ∀ h' x' vs', SM h' p x' vs' (decS S l) → Ask n (decS S l) → To p 8 h x h' x' → Q true h') : clause_Decide (some p) l h Q := by
  have t := a.t
  have hn := t.nb
  have hvn := t.vn
  refine seq.cut (fun (b : Bool) h1 => Ext h h1 ∧ b = false) ?_ ?_
  · refine q.there (by omega) ⟨fun g => ?_, fun g => ?_⟩
    · rw [hvn] at g
      simp [hth] at g
    · refine q.value (by omega) t.tri fun h1 e1 => ⟨e1, by rw [hv]; rfl⟩
  rintro b h1 ⟨e1, rfl⟩
  refine ⟨nofun, fun _ => ?_⟩
  have q1 := q.ext e1
  refine q1.ld6 (q1.ld5 ?_)
  rw [q1.tra.r.len]
  refine newJ fun h2 hr e2 _ => ?_
  have q2 := q1.ext e2
  refine ⟨(q2.root 6 (by decide)).1, ?_⟩
  refine q2.pushHea hr (by omega) fun h3 x3 vs3 q3 t3 => ?_
  have a1 := a.level hx (by omega)
  have b1 : Bnd (lvS S) := a1.t.bnd a1.w (fun w => Nat.le_refl _)
  refine put_spec q3 b1 (by show There S.val.length l; rw [hvn]; exact hth) (by show S.lev.length = S.val.length; rw [t.ln, t.vn]) (by show S.rea.length = S.val.length; rw [t.rn, t.vn]) fun h4 x4 vs4 q4 t4 => ?_
  exact K1 h4 x4 vs4 q4 (a1.tell hth hv) ((q.toExt e1).trans ((q1.toExt e2).trans (t3.trans t4)))
end Go.Sh

namespace Go.Sh
open Go Go.Lift Go.Cla
variable {h h' g0 h0 : Heap} {p : Addr} {x x' : Nm → Sl} {vs vs' : Nm → List Value} {S S0 : SS} {n : Nat}
theorem list3 {l : List Int} {a b c : Int} (h : l.length = 3) (h0 : atI l 0 = a) (h1 : atI l 1 = b) (h2 : atI l 2 = c) : l = [a, b, c] := by
  match l, h with
  | [u, v, w], _ => simp [atI] at h0 h1 h2; simp [h0, h1, h2]
theorem SM.all (q : SM h p x vs S) : cells? h p 8 0 = some (C_sl_sl_sl_sl_sl_sl_sl_i64 (x .cls, x .wat, x .val, x .lev, x .rea, x .tra, x .hea, (S.nxt : Int))) :=
  cells?_mk (h := h) (a := p) (C_sl_sl_sl_sl_sl_sl_sl_i64 (x .cls, x .wat, x .val, x .lev, x .rea, x .tra, x .hea, (S.nxt : Int))) 0 (fun j hj => by
    rw [Nat.zero_add]
    match j, hj with
    | 0, _ => exact (q.root 0 (by decide)).1
    | 1, _ => exact (q.root 1 (by decide)).1
    | 2, _ => exact (q.root 2 (by decide)).1
    | 3, _ => exact (q.root 3 (by decide)).1
    | 4, _ => exact (q.root 4 (by decide)).1
    | 5, _ => exact (q.root 5 (by decide)).1
    | 6, _ => exact (q.root 6 (by decide)).1
    | 7, _ => exact (q.root 7 (by decide)).1)
structure Ex19 (S : SS) : Prop where
  val : S.val = [1, 1, 1]
  lev : S.lev = [1, 2, 2]
  tra : S.tra = [1, 2, 3]
  hea : S.hea = [0, 1]
  r2 : atI S.rea 2 = 0
  oth : others S 2 = [1]
theorem ex_ready (E : Ex19 S) : Ready S [-1, -3, -2] where
  neg := by rw [E.val]; decide
  one := by decide
  hea := by rw [E.hea]; decide
  lev := by
    obtain ⟨cls, wat, val, lev, rea, tra, hea, nxt⟩ := S
    obtain ⟨rfl, rfl, rfl, rfl, _, _⟩ := E
    rfl
theorem ex_lesson (E : Ex19 S) : ∃ st, lesson S [-1, -3, -2] = some st ∧ (lessF S st.A).map (nl S) = [-2, -1] ∧ levF S st.A = 1 := by
  have rdy := ex_ready E
  obtain ⟨e1, e2, e3, e4, e5, e6⟩ := E
  refine ⟨((st0 S [-1, -3, -2]).out 2).adds S [1], ?_, ?_, ?_⟩
  · unfold lesson
    rw [if_pos rdy]
    have ht : tr (tl S 2) = 2 := by unfold tl; rw [e3]; rfl
    have h1 : cntH S (st0 S [-1, -3, -2]) = 2 := by
      obtain ⟨cls, wat, val, lev, rea, tra, hea, nxt⟩ := S
      dsimp only at e1 e2 e3 e4; subst e1 e2 e3 e4
      rfl
    have h2 : (st0 S [-1, -3, -2]).A 2 = true := by
      obtain ⟨cls, wat, val, lev, rea, tra, hea, nxt⟩ := S
      dsimp only at e1 e2 e3 e4; subst e1 e2 e3 e4
      rfl
    have h3 : cntH S (((st0 S [-1, -3, -2]).out 2).adds S [1]) = 1 := by
      obtain ⟨cls, wat, val, lev, rea, tra, hea, nxt⟩ := S
      dsimp only at e1 e2 e3 e4; subst e1 e2 e3 e4
      rfl
    have hl : S.tra.length = 3 := by rw [e3]; rfl
    rw [hl]
    show (if cntH S (st0 S [-1, -3, -2]) = 1 then _ else if (st0 S [-1, -3, -2]).A (tr (tl S 2)) = true then (if atI S.rea (tr (tl S 2)) = -1 then none else runW S 2 (stepW S (st0 S [-1, -3, -2]) (tr (tl S 2)))) else runW S 2 (st0 S [-1, -3, -2])) = _
    rw [if_neg (by omega), ht, if_pos h2, if_neg (by rw [e5]; decide)]
    unfold stepW
    rw [e6]
    exact runW_one h3 _
  · obtain ⟨cls, wat, val, lev, rea, tra, hea, nxt⟩ := S
    dsimp only at e1 e2 e3 e4; subst e1 e2 e3 e4
    rfl
  · obtain ⟨cls, wat, val, lev, rea, tra, hea, nxt⟩ := S
    dsimp only at e1 e2 e3 e4; subst e1 e2 e3 e4
    rfl
theorem told3 {a b c : Int} {l : Int} (h : vl [a, b, c] l = 1) : (l = 1 ∧ a = 1) ∨ (l = 2 ∧ b = 1) ∨ (l = 3 ∧ c = 1) ∨ (l = -1 ∧ a = -1) ∨ (l = -2 ∧ b = -1) ∨ (l = -3 ∧ c = -1) := by
  have hth := vl_there (by rw [h]; decide : vl [a, b, c] l ≠ 0)
  unfold vl at h
  rw [if_pos hth] at h
  unfold There at hth
  simp only [List.length_cons, List.length_nil] at hth
  have : l = 1 ∨ l = 2 ∨ l = 3 ∨ l = -1 ∨ l = -2 ∨ l = -3 := by omega
  rcases this with rfl | rfl | rfl | rfl | rfl | rfl
  · simp [atI, tr, sg] at h; simp [h]
  · simp [atI, tr, sg] at h; simp [h]
  · simp [atI, tr, sg] at h; simp [h]
  · simp [atI, tr, sg] at h; have : a = -1 := by omega
    simp [this]
  · simp [atI, tr, sg] at h; have : b = -1 := by omega
    simp [this]
  · simp [atI, tr, sg] at h; have : c = -1 := by omega
    simp [this]
structure Ex1 (S : SS) : Prop where
  a : Ask 3 S
  g : GS S
  nx : S.nxt = S.tra.length
  val : S.val = [1, 0, 0]
  tra : S.tra = [1]
  hea : S.hea = [0]
  cl : S.cls.length = 1
  lits : ∀ l, l ∈ (S.cl 0).lits ↔ l ∈ [-2, 3]
  use : (S.cl 0).use = 0
theorem ex1uof (a0 : Ask 3 S0) (g0 : GS S0) (hv : S0.val = [1, 0, 0]) (ht : S0.tra = [1]) (hh : S0.hea = [0]) (hc : S0.cls.length = 1) (hl : (S0.cl 0).lits = [-2, 3]) (hu : (S0.cl 0).use = 0) (r : RI 3 S0 S) (a : Ask 3 S) (hx : S.nxt = S.tra.length) : Ex1 S := by
  have hC : ∀ c, C0 S0 c → c = [-2, 3] := by
    rintro c ⟨j, hj, rfl⟩
    have : j = 0 := by omega
    subst this; exact hl
  have hval : S.val = [1, 0, 0] := one_closure (C := C0 S0) (T := fun l => vl S0.val l = 1) (by rw [r.t.vn]; rfl) r.t.tri (by intro y hy; simp at hy; omega) (r.stand a hx) (fun c hc => by
      rw [hC c hc]
      exact .inr ⟨-2, by simp, 3, by simp, by decide, by decide, by decide⟩) (r.told a0.t) (fun l hl => by rw [hv] at hl; exact hl) r.derV (fun l hl => .told (by rw [hv]; exact hl))
  have htra : S.tra = [1] := by
    obtain ⟨u, hu⟩ := r.pre
    rw [ht] at hu
    have tn := r.t.tn
    rw [hu] at tn ⊢
    cases u with
    | nil => rfl
    | cons y w =>
      exfalso
      have hy : y ∈ S.tra := by rw [hu]; simp
      have := r.t.vl_iff.2 hy
      rw [hval] at this
      rcases told3 this with ⟨rfl, _⟩ | ⟨_, h⟩ | ⟨_, h⟩ | ⟨_, h⟩ | ⟨_, h⟩ | ⟨_, h⟩
      · simp at tn
      all_goals omega
  exact ⟨a, g0.run r a0.t, hx, hval, htra, r.hea.trans hh, r.cl.trans hc, fun l => by rw [r.sl 0 (by omega), hl], (r.lu 0).2.trans hu⟩
theorem ex2uof (E : Ex1 S0) (r : RI 3 (decS S0 2) S) (a : Ask 3 S) (hx : S.nxt = S.tra.length) : Ex19 S ∧ GS S ∧ S.cls.length = 1 := by
  have hth : There 3 2 := by decide
  have hv0 : vl S0.val 2 = 0 := by rw [E.val]; decide
  have a4 : Ask 3 (decS S0 2) := (E.a.level E.nx (by rw [E.hea]; decide)).tell hth hv0
  have g4 := E.g.dec E.a.t hth hv0
  have g5 := g4.run r a4.t
  have hv : (decS S0 2).val = [1, 1, 0] := by show S0.val.set (tr 2) (sg 2) = _; rw [E.val]; rfl
  have ht : (decS S0 2).tra = [1, 2] := by show S0.tra ++ [2] = _; rw [E.tra]; rfl
  have hh : (decS S0 2).hea = [0, 1] := by show S0.hea ++ [(S0.tra.length : Int)] = _; rw [E.hea, E.tra]; rfl
  have hcn : (decS S0 2).cls.length = 1 := E.cl
  have hcl : ∀ l, l ∈ ((decS S0 2).cl 0).lits ↔ l ∈ [-2, 3] := E.lits
  have hval : S.val = [1, 1, 1] := one_closure (C := C0 (decS S0 2)) (T := fun l => vl (decS S0 2).val l = 1) (by rw [r.t.vn]; rfl) r.t.tri (by intro y hy; simp at hy; omega) (r.stand a hx) (fun c hc => by
      obtain ⟨j, hj, rfl⟩ := hc
      have : j = 0 := by omega
      subst this
      exact .inl ⟨3, (hcl 3).2 (by simp), by decide⟩) (r.told a4.t) (fun l hl => by
      rw [hv] at hl
      rcases told3 hl with ⟨rfl, _⟩ | ⟨rfl, _⟩ | ⟨_, h⟩ | ⟨_, h⟩ | ⟨_, h⟩ | ⟨_, h⟩
      · decide
      · decide
      all_goals omega) r.derV (fun l hl => by
      rcases told3 hl with ⟨rfl, _⟩ | ⟨rfl, _⟩ | ⟨rfl, _⟩ | ⟨_, h⟩ | ⟨_, h⟩ | ⟨_, h⟩
      · exact .told (by rw [hv]; decide)
      · exact .told (by rw [hv]; decide)
      · refine .unit (c := ((decS S0 2).cl 0).lits) ⟨0, by omega, rfl⟩ ((hcl 3).2 (by simp)) fun m hm hne => ?_
        have := (hcl m).1 hm
        simp only [List.mem_cons, List.not_mem_nil, or_false] at this
        rcases this with rfl | rfl
        · exact .told (by rw [hv]; decide)
        · exact absurd rfl hne
      all_goals omega)
  have htra : S.tra = [1, 2, 3] := by
    obtain ⟨u, hu⟩ := r.pre
    rw [ht] at hu
    have tn := r.t.tn
    have h3 : (3 : Int) ∈ S.tra := r.t.vl_iff.1 (by rw [hval]; decide)
    have hy : ∀ y ∈ u, y = 3 := fun y hy => by
      have := r.t.vl_iff.2 (show y ∈ S.tra by rw [hu]; simp [hy])
      rw [hval] at this
      rw [hu, List.map_append, List.nodup_append] at tn
      have hd := tn.2.2
      rcases told3 this with ⟨rfl, _⟩ | ⟨rfl, _⟩ | ⟨rfl, _⟩ | ⟨_, h⟩ | ⟨_, h⟩ | ⟨_, h⟩
      · exact absurd rfl (hd 0 (by simp [tr]) 0 (List.mem_map.2 ⟨1, hy, rfl⟩))
      · exact absurd rfl (hd 1 (by simp [tr]) 1 (List.mem_map.2 ⟨2, hy, rfl⟩))
      · rfl
      all_goals omega
    rw [hu] at h3 tn ⊢
    match u, hy, h3, tn with
    | [], _, h3, _ => simp at h3
    | [y], hy, _, _ => rw [hy y (by simp)]; rfl
    | y :: z :: w, hy, _, tn =>
      exfalso
      have h1 := hy y (by simp)
      have h2 := hy z (by simp)
      subst h1 h2
      simp [tr] at tn
  have hhea : S.hea = [0, 1] := r.hea.trans hh
  have lv : ∀ i k, i < 3 → IsLvl S.hea i k → atI S.lev (tr (tl S i)) = (k : Int) := fun i k hi hk => by
    obtain ⟨m, hm, e⟩ := g5.lev i (by rw [htra]; exact hi)
    rw [e, hk.one hm]
  have tl0 : tl S 0 = 1 := by unfold tl; rw [htra]; rfl
  have tl1 : tl S 1 = 2 := by unfold tl; rw [htra]; rfl
  have tl2 : tl S 2 = 3 := by unfold tl; rw [htra]; rfl
  have isl : ∀ i k : Nat, (k ≤ 2 ∧ (∀ j, j < k → atI [0, 1] j ≤ (i : Int)) ∧ (k < 2 → (i : Int) < atI [0, 1] k)) → IsLvl S.hea i k := fun i k h => by rw [hhea]; exact h
  have j01 : ∀ {k : Nat} {b : Int}, 1 ≤ b → ∀ j, j < k → k ≤ 2 → atI [0, 1] j ≤ b := fun {k b} hb j hj hk => by
    match j, (show j < 2 by omega) with
    | 0, _ => show (0 : Int) ≤ b; omega
    | 1, _ => exact hb
  have z0 : ∀ j, j < 1 → atI [0, 1] j ≤ ((0 : Nat) : Int) := by
    intro j hj
    have : j = 0 := by omega
    subst this; decide
  have l0 := lv 0 1 (by decide) (isl 0 1 ⟨by decide, z0, fun _ => by decide⟩)
  have l1 := lv 1 2 (by decide) (isl 1 2 ⟨by decide, fun j hj => j01 (by decide) j hj (by decide), fun h => by omega⟩)
  have l2 := lv 2 2 (by decide) (isl 2 2 ⟨by decide, fun j hj => j01 (by decide) j hj (by decide), fun h => by omega⟩)
  rw [tl0] at l0; rw [tl1] at l1; rw [tl2] at l2
  have hr2 : atI S.rea 2 = 0 := by
    obtain ⟨j, hj, e, _⟩ := r.why.rs 2 (by rw [ht]; decide) (by rw [htra]; decide)
    rw [htra] at e
    have : j = 0 := by omega
    subst this
    exact e
  refine ⟨⟨hval, list3 r.t.ln l0 l1 l2, htra, hhea, hr2, ?_⟩, g5, r.cl.trans hcn⟩
  unfold others
  rw [hr2]
  have hmem : ∀ l, l ∈ (S.cl 0).lits ↔ l ∈ [-2, 3] := fun l => by rw [r.sl 0 (by omega), hcl]
  have hnd : (S.cl 0).lits.Nodup := by
    have := (r.t.fit 0 (by rw [r.cl]; omega)).2.1
    exact (List.pairwise_map.1 this).imp fun h e => h (by rw [e])
  have hp : (S.cl 0).lits.Perm [-2, 3] := (List.perm_ext_iff_of_nodup hnd (by decide)).2 hmem
  have h1 : (((S.cl 0).lits.map tr).filter (· ≠ 2)).Perm [1] := (hp.map tr).filter _
  exact List.perm_singleton.1 h1
end Go.Sh

namespace Go.Sh
open Go Go.Lift Go.Cla
variable {h h' g0 h0 : Heap} {p : Addr} {x x' : Nm → Sl} {vs vs' : Nm → List Value} {S S0 : SS} {n : Nat} {y : S8} {nx : Int} {ls : List Int}
theorem fits_23 : FitsL 3 [-2, 3] := ⟨by decide, by decide, by decide⟩
theorem lesson_nil (h : 0 < S.hea.length) : lesson S [] = none := by
  unfold lesson
  rw [if_neg]
  intro r
  have h1 := r.lev
  have h2 : mxL S [] = 0 := rfl
  omega
theorem speaks19uspec {Q : Bool → Heap → Prop} (K : ∀ h', Ext h h' → Q true h') : law19uspeaks h Q := by
  refine cNew_spec (N := 3) (by decide) fun t h1 x vs q1 => ?_
  refine new8 fun h2 T hb e2 hs2 => ?_
  refine lay8 q1 e2 hb (Nat.le_refl _) fun h3 q3 k3 => ?_
  have e03 : Ext h h3 := ⟨by have := q1.ext.size; have := e2.size; have := k3.size; omega, fun b hb _ => (k3.same b (by have := q1.ext.size; have := e2.size; omega) (by have := q1.ext.size; simp; omega)).trans ((q1.ext.trans e2).same b hb (by simp))⟩
  have hp0 : h.size ≤ h1.size := q1.ext.size
  intro T2
  have e4 := Ext.push h3 (.cells [Value.int .i64 (-2), Value.int .i64 3].toArray T2 (0, 0))
  have hrow := (Own.new (toV := toI) (h := h3) (ys := [-2, 3]) (cs := [Value.int .i64 (-2), Value.int .i64 3]) (T := T2) rfl).r
  generalize (h3.push (.cells [Value.int .i64 (-2), Value.int .i64 3].toArray T2 (0, 0)) : Heap) = h4 at *
  have q4 := q3.ext e4
  have a0 : Ask 3 (emptyS 3) := empty_ask (by decide)
  have len2 : (emptyS 3).val.length = 3 := by decide
  refine cAdd_spec q4 (a0.t.bnd a0.w (fun w => Nat.le_refl _)) (by decide) (by decide) hrow (by decide) (fun hno => absurd (len2 ▸ fits_23) hno) fun _ h5 x5 vs5 q5 t5 => ?_
  have a1 : Ask 3 (addS (emptyS 3) [-2, 3] false) := a0.add rfl fits_23 (by decide)
  have g1 : GS (addS (emptyS 3) [-2, 3] false) := GS.empty.add _ _
  have hth1 : There 3 1 := by decide
  have hv1 : vl (addS (emptyS 3) [-2, 3] false).val 1 = 0 := by decide
  have hcl1 : (addS (emptyS 3) [-2, 3] false).cl 0 = ⟨[-2, 3], false, 0⟩ := by rw [addS_cl]; rfl
  refine Decide_ok q5 a1 rfl (by decide) hth1 hv1 fun h6 x6 vs6 q6 a2 t6 => ?_
  have g2 : GS (decS (addS (emptyS 3) [-2, 3] false) 1) := g1.dec a1.t hth1 hv1
  have v2 : (decS (addS (emptyS 3) [-2, 3] false) 1).val = [1, 0, 0] := rfl
  have t2 : (decS (addS (emptyS 3) [-2, 3] false) 1).tra = [1] := rfl
  have hh2 : (decS (addS (emptyS 3) [-2, 3] false) 1).hea = [0] := rfl
  have cn2 : (decS (addS (emptyS 3) [-2, 3] false) 1).cls.length = 1 := rfl
  have cl2 : (decS (addS (emptyS 3) [-2, 3] false) 1).cl 0 = ⟨[-2, 3], false, 0⟩ := hcl1
  generalize decS (addS (emptyS 3) [-2, 3] false) 1 = S2 at *
  have t06 : To ⟨h1.size, 0, none⟩ 8 h3 x h6 x6 := (q3.toExt e4).trans (t5.trans t6)
  have use0 : ∀ {S : SS}, S.cls.length = 1 → (S.cl 0).use = 0 → ∀ j, 0 ≤ (S.cl j).use ∧ (S.cl j).use ≤ 4611686018427387904 := fun {S} hc h0 j => by
    match j with
    | 0 => rw [h0]; omega
    | j + 1 =>
      have : (S.cl (j + 1)).use = 0 := by unfold SS.cl; rw [List.getD_eq_getElem?_getD, List.getElem?_eq_none (by omega)]; rfl
      omega
  have c2 : ∀ c, C0 S2 c → c = [-2, 3] := by
    rintro c ⟨j, hj, rfl⟩
    have : j = 0 := by omega
    subst this; rw [cl2]
  refine Run_spec q6 a2 (use0 cn2 (by rw [cl2])) (fun h7 x7 vs7 S7 q7 t7 r7 a7 hx7 => ?_) (fun j h7 x7 vs7 S7 hj q7 t7 r7 bad => ?_)
  · have E := ex1uof a2 g2 v2 t2 hh2 cn2 (by rw [cl2]) (by rw [cl2]) r7 a7 hx7
    have hth2 : There 3 2 := by decide
    have hv2 : vl S7.val 2 = 0 := by rw [E.val]; decide
    refine Decide_ok q7 a7 hx7 (by rw [E.hea]; decide) hth2 hv2 fun h8 x8 vs8 q8 a8 t8 => ?_
    refine Run_spec q8 a8 (use0 E.cl E.use) (fun h9 x9 vs9 S9 q9 t9 r9 a9 hx9 => ?_) (fun j h9 x9 vs9 S9 hj q9 t9 r9 bad => ?_)
    · obtain ⟨E9, g9, c9⟩ := ex2uof E r9 a9 hx9
      have t39 := t06.trans (t7.trans (t8.trans t9))
      have e09 : Ext h h9 := ext_of_to e03 t39 (by simpa using hp0) q1.fresh
      have R9 := right_of a9.t a9.w g9
      have F9 := few_of a9.t a9.w (by decide) (by omega) (by rw [E9.hea]; decide)
      obtain ⟨st, hst, hl1, hl2⟩ := ex_lesson E9
      refine ⟨_, q9.all, ?_⟩
      intro T10
      have e10 := Ext.push h9 (.cells [Value.int .i64 (-1), Value.int .i64 (-3), Value.int .i64 (-2)].toArray T10 (0, 0))
      have hrow10 := (Own.new (toV := toI) (h := h9) (ys := [-1, -3, -2]) (cs := [Value.int .i64 (-1), Value.int .i64 (-3), Value.int .i64 (-2)]) (T := T10) rfl).r
      generalize (h9.push (.cells [Value.int .i64 (-1), Value.int .i64 (-3), Value.int .i64 (-2)].toArray T10 (0, 0)) : Heap) = h10 at *
      refine lfrom_spec (q9.srd.ext e10) R9 F9 hrow10 (by decide) (fun hno => by rw [hst] at hno; cases hno) fun st' hst' h11 o sn e11 r1 r2 _ => ?_
      rw [hst] at hst'
      cases hst'
      rw [hl1] at r1
      rw [hl2]
      refine mem_ext fun h12 e12 => ?_
      have e912 := (e10.trans e11).trans e12
      refine ⟨_, (q9.ext e912).all, ?_⟩
      have fin : ∀ h13 (w : (Sl × Int × Sl) × Int), w.2 = 1 → Ext h12 h13 → mem h13 fun h0u13 =>
          seq (fun (K0 : Bool → Heap → Prop) =>
           iteB ((0 : Int) == 0) (
            new [Value.int .i64 (-2), Value.int .i64 (-1)] h0u13 fun a_2 h0u15 =>
            ref18uSameInts o (⟨some a_2, 2, 2⟩ : Sl) h0u15 fun v_13 h0u16 =>
            iteB v_13 (
             iteB ((1 : Int) == 1) (
              K0 (w.2 == 1) h0u16
             ) (
              K0 false h0u16
             )
            ) (
             K0 false h0u16
            )
           ) (
            K0 false h0u13
           )
          ) (fun t0 h0u14 =>
           Q t0 h0u14
          ) := by
        intro h13 w hw e13
        refine mem_ext fun h14 e14 => ?_
        refine seq.cut (fun (b : Bool) hh => b = true ∧ Ext h hh) ⟨fun _ => ?_, fun hb => by simp at hb⟩ (fun t hh ⟨e, g⟩ => e ▸ K hh g)
        intro T15
        have e15 := Ext.push h14 (.cells [Value.int .i64 (-2), Value.int .i64 (-1)].toArray T15 (0, 0))
        have hrow15 := (Own.new (toV := toI) (h := h14) (ys := [-2, -1]) (cs := [Value.int .i64 (-2), Value.int .i64 (-1)]) (T := T15) rfl).r
        generalize (h14.push (.cells [Value.int .i64 (-2), Value.int .i64 (-1)].toArray T15 (0, 0)) : Heap) = h15 at *
        refine SameInts_spec (R.ext r1 (e12.trans (e13.trans (e14.trans e15)))) hrow15 (by decide) ⟨fun _ => ⟨fun _ => ⟨by rw [hw]; rfl, ?_⟩, fun hb => by simp at hb⟩, nofun⟩
        exact e09.trans (e912.trans (e13.trans (e14.trans e15)))
      refine lfrom_spec (q9.srd.ext e912) R9 F9 (ls := []) R.nil (by decide) (fun _ h13 e13 => fin h13 _ rfl e13) fun st2 hst2 => ?_
      rw [lesson_nil (by rw [E9.hea]; decide)] at hst2
      cases hst2
    · exfalso
      obtain ⟨c, hc, hf⟩ := r9.bad (by rw [r9.cl]; exact hj) bad
      have v8 : (decS S7 2).val = [1, 1, 0] := by show S7.val.set (tr 2) (sg 2) = _; rw [E.val]; rfl
      refine no_clash (C := C0 (decS S7 2)) (T := fun l => vl (decS S7 2).val l = 1) (V := [1, 1, 1]) (W := S9.val) (fun c hc => ?_) (fun l hl => ?_) r9.derV hc hf
      · obtain ⟨i, hi, rfl⟩ := hc
        have hi : i < S7.cls.length := hi
        have : i = 0 := by have := E.cl; omega
        subst this
        exact .inl ⟨3, (E.lits 3).2 (by simp), by decide⟩
      · rw [v8] at hl
        rcases told3 hl with ⟨rfl, _⟩ | ⟨rfl, _⟩ | ⟨_, h⟩ | ⟨_, h⟩ | ⟨_, h⟩ | ⟨_, h⟩
        · decide
        · decide
        all_goals omega
  · exfalso
    obtain ⟨c, hc, hf⟩ := r7.bad (by rw [r7.cl]; exact hj) bad
    refine no_clash (C := C0 S2) (T := fun l => vl S2.val l = 1) (V := [1, 0, 0]) (W := S7.val) (fun c hc => ?_) (fun l hl => ?_) r7.derV hc hf
    · rw [c2 c hc]
      exact .inr ⟨-2, by simp, 3, by simp, by decide, by decide, by decide⟩
    · rw [v2] at hl; exact hl
end Go.Sh
