/-
  Laws that the proof of this claim's statement leans on, each proved under the conditions that it states.
-/
import Derived.Test.YtlclchgingkkhaaGreatDoorSB
import Derived.Test.YtlclchgingkkhaaGreatDoorUC
import Derived.Test.YtlclchgingkkhaaGreatDoorMD
set_option linter.unusedVariables false
set_option linter.unusedSimpArgs false
namespace Go.Sh
open Go Go.Lift
theorem acN {p q : Rat} (hp : szQ p ≤ 1) (hq : szQ q ≤ 1) : szQ (p * q) ≤ 2 := by
  rw [← wS]
  have hd : p.den * q.den ≠ 0 := Nat.mul_ne_zero p.den_nz q.den_nz
  have h0 := aat (p.num * q.num) hd
  have h2 := kS p.num q.num
  have h4 := d9 p.den q.den
  have := aG p; have := aG q; have := zQ p; have := zQ q; have := gS p; have := gS q
  omega
theorem vJ {f : Int → Rat} : ∀ {l : PL}, (∀ m ∈ l, szQ m.2 ≤ 1 ∧ szQ (f m.1) ≤ 1) → szQ (valL f l) ≤ 4 * l.length
  | [], _ => by simp [valL, bP]
  | m :: l, h => by
    have h1 := h m (List.mem_cons_self ..)
    have h2 := vJ fun x hx => h x (List.mem_cons_of_mem _ hx)
    have h3 := acN h1.1 h1.2
    have h4 := wR (m.2 * f m.1) (valL f l)
    simp only [valL, List.length_cons]
    omega
section
variable {t t' : TT} {v : Int} {up : Bool} {e : Eg} {rs : PL} {er : Int} {lim : Nat} {d : Rat × Rat}
structure Sz (t : TT) : Prop where
  row : ∀ i, i < t.ps.length → (psA t i).2.length ≤ 12 ∧ ∀ m ∈ (psA t i).2, szQ m.2 ≤ 1
  val : ∀ w, 0 ≤ w → w < (t.vs.length : Int) → ¬ Bas t w → szD (atD t.vs w) ≤ 1
theorem p8 {k : Nat} (h : szD d ≤ k) : szQ d.1 ≤ k ∧ szQ d.2 ≤ k := by
  unfold szD at h; omega
theorem Sz.upd (s : Sz t) (g : RG t) (h0 : 0 ≤ v) (h1 : v < (t.vs.length : Int)) (h2 : rowI t.bs v < 0) (hd : szD d ≤ 1) : fI 60 t v d := by
  have hb := nbas g h2
  have hv := s.val v h0 h1 hb
  have hdd := p8 hd
  have hvv := p8 hv
  have he : szD (subD d (atD t.vs v)) ≤ 4 := by
    have a1 := abB d.1 (atD t.vs v).1
    have a2 := abB d.2 (atD t.vs v).2
    unfold szD subD
    dsimp only
    omega
  refine ⟨by omega, ?_⟩
  have hee := p8 he
  have lb := g.lb
  have key : ∀ (n i : Nat) (W : DL), i + n = t.ps.length → (∀ j, i ≤ j → j < t.ps.length → W.getD (at0 t.bs j).toNat (0, 0) = atD t.vs (at0 t.bs j)) → fitM 60 t.bs v (subD d (atD t.vs v)) (t.ps.drop i) i W := by
    intro n
    induction n with
    | zero => intro i W hn _; rw [List.drop_eq_nil_of_le (by omega)]; trivial
    | succ n ih =>
      intro i W hn hW
      have hi : i < t.ps.length := by omega
      rw [List.drop_eq_getElem_cons hi, ← br hi]
      refine ⟨fun hc => ?_, ih (i + 1) _ (by omega) fun j hj hjl => ?_⟩
      · obtain ⟨m, hm, hme⟩ := lp hc
        have hsrt := (g.row i hi).rt.srt
        have hcm : ak (psA t i).2 v = m.2 := by rw [← hme]; exact fk hsrt hm
        have hcs : szQ (ak (psA t i).2 v) ≤ 1 := by rw [hcm]; exact ((s.row i hi).2 m hm)
        have b1 := pd (ak (psA t i).2 v) (subD d (atD t.vs v)).1
        have b2 := pd (ak (psA t i).2 v) (subD d (atD t.vs v)).2
        refine ⟨by unfold szD scD; dsimp only; omega, ?_⟩
        rw [hW i (Nat.le_refl _) hi, ← g.val i hi]
        -- what it comes to is the row with the new value
        let F : Int → Rat × Rat := fun w => if w = v then d else atD t.vs w
        have hF : ∀ m ∈ (psA t i).2, szQ (F m.1).1 ≤ 1 ∧ szQ (F m.1).2 ≤ 1 := by
          intro x hx
          show szQ (if x.1 = v then d else atD t.vs x.1).1 ≤ 1 ∧ szQ (if x.1 = v then d else atD t.vs x.1).2 ≤ 1
          split
          · exact hdd
          · have hr := (g.row i hi).vars x hx
            exact p8 (s.val x.1 ((g.row i hi).rt.nn x hx) hr.1 fun ⟨k, hk, e⟩ => hr.2 k hk e.symm)
        have hl := (s.row i hi).1
        have c1 := vJ (f := fun w => (F w).1) (l := (psA t i).2) fun x hx => ⟨(s.row i hi).2 x hx, (hF x hx).1⟩
        have c2 := vJ (f := fun w => (F w).2) (l := (psA t i).2) fun x hx => ⟨(s.row i hi).2 x hx, (hF x hx).2⟩
        have hFv : F v = d := if_pos rfl
        have hFo : ∀ w, w ≠ v → F w = atD t.vs w := fun w hw => if_neg hw
        have e1 : valL (fun w => (F w).1) (psA t i).2 = (valV (atD t.vs) (psA t i).2).1 + ak (psA t i).2 v * (d.1 - (atD t.vs v).1) := by
          rw [jg (f := fun w => (atD t.vs w).1) (q := v) hsrt fun x hx hne => by rw [hFo _ hne], hFv]; rfl
        have e2 : valL (fun w => (F w).2) (psA t i).2 = (valV (atD t.vs) (psA t i).2).2 + ak (psA t i).2 v * (d.2 - (atD t.vs v).2) := by
          rw [jg (f := fun w => (atD t.vs w).2) (q := v) hsrt fun x hx hne => by rw [hFo _ hne], hFv]; rfl
        rw [e1] at c1
        rw [e2] at c2
        unfold szD addD scD subD
        dsimp only
        omega
      · have hne := g.dis i j hi hjl (by omega)
        have r1 := g.rng i hi
        have r2 := g.rng j hjl
        have hne2 : (at0 t.bs i).toNat ≠ (at0 t.bs j).toNat := by omega
        split
        · exact hW j (by omega) hjl
        · unfold tS
          rw [List.getD_eq_getElem?_getD, List.getElem?_set_ne hne2, ← List.getD_eq_getElem?_getD]
          exact hW j (by omega) hjl
  have := key t.ps.length 0 (t.vs.set v.toNat d) (by omega) fun j _ hjl => by
    have r2 := g.rng j hjl
    have : at0 t.bs j ≠ v := fun e => hb ⟨j, hjl, e⟩
    rw [List.getD_eq_getElem?_getD, List.getElem?_set_ne (by omega), ← List.getD_eq_getElem?_getD]
    rfl
  rw [List.drop_zero] at this
  exact this
theorem Sz.setE (s : Sz t) : Sz (setE t up v e) := by
  have hb : ∀ w, Bas (Go.Sh.setE t up v e) w → Bas t w := fun w ⟨k, hk, h⟩ => ⟨k, by rw [fA] at hk; exact hk, by rw [fm] at h; exact h⟩
  have hb' : ∀ w, Bas t w → Bas (Go.Sh.setE t up v e) w := fun w ⟨k, hk, h⟩ => ⟨k, by rw [fA]; exact hk, by rw [fm]; exact h⟩
  refine ⟨fun i hi => ?_, fun w h0 h1 h => ?_⟩
  · have : psA (Go.Sh.setE t up v e) i = psA t i := by unfold psA; rw [fA]
    rw [this]
    exact s.row i (by rw [fA] at hi; exact hi)
  · rw [eP] at h1 ⊢
    exact s.val w h0 h1 fun hh => h (hb' w hh)
theorem Bd.sz (D : Bd lim t v up e t' rs er) (g : RG t) (s : Sz t) (hd : szD e.2 ≤ 1) : Sz t' := by
  cases D with
  | rng => exact s
  | arg => exact s
  | old => exact s
  | cla => exact s
  | set => exact s.setE
  | upd h0 h1 he _ hb hr hy _ =>
    have g1 := g.setE (up := up) (v := v) he
    have hr1 : rowI (Go.Sh.setE t up v e).bs v < 0 := by rw [fm]; exact hr
    have h11 : v < ((Go.Sh.setE t up v e).vs.length : Int) := by rw [eP]; exact h1
    have s1 : Sz (Go.Sh.setE t up v e) := s.setE
    have hl : (updT (Go.Sh.setE t up v e) v e.2).vs.length = (Go.Sh.setE t up v e).vs.length := by
      rw [← fV (g1.upd h0 h11 hr1), iS]; simp
    refine ⟨s1.row, fun w hw hwl hb => ?_⟩
    rw [hl] at hwl
    have hb1 : ¬ Bas (Go.Sh.setE t up v e) w := hb
    rw [mJ g1 h0 h11 hr1 hw hb1]
    split
    · exact hd
    · exact s1.val w hw hwl hb1
end
end Go.Sh

namespace Go.Sh
open Go Go.Lift
section
variable {t t' : TT} {n : Nat}
theorem ab9 {f : Int → Rat} : ∀ {l : PL}, (∀ m ∈ l, f m.1 = 0) → valL f l = 0
  | [], _ => rfl
  | m :: l, h => by
    simp only [valL, h m (List.mem_cons_self ..), ab9 fun x hx => h x (List.mem_cons_of_mem _ hx)]
    grind
open Classical in
noncomputable def unit (t : TT) (q : Int) (w : Int) : Rat := if h : Bas t w then ak (psA t (Classical.choose h)).2 q else if w = q then 1 else 0
theorem xu (g : RG t) {q : Int} {j : Nat} (hj : j < t.ps.length) : unit t q (at0 t.bs j) = ak (psA t j).2 q := by
  have h : Bas t (at0 t.bs j) := ⟨j, hj, rfl⟩
  unfold unit
  rw [dif_pos h]
  have hc := Classical.choose_spec h
  have : Classical.choose h = j := Classical.byContradiction fun hne => g.dis _ _ hc.1 hj hne hc.2
  rw [this]
theorem xm (g : RG t) {q : Int} (hq : ¬ Bas t q) : Sol t (unit t q) := by
  intro j hj
  rw [xu g hj]
  have hr := g.row j hj
  have hnb : ∀ m ∈ (psA t j).2, ¬ Bas t m.1 := fun m hm ⟨k, hk, e⟩ => (hr.vars m hm).2 k hk e.symm
  rw [jg (f := fun _ => 0) (q := q) hr.rt.srt fun m hm hne => by unfold unit; rw [dif_neg (hnb m hm), if_neg hne], ab9 fun _ _ => rfl]
  unfold unit
  rw [dif_neg hq, if_pos rfl]
  grind
theorem aaD (g : RG t) (h : ∀ j, j < t.ps.length → (psA t j).2 ≠ []) (g' : RG t') (r : Rch t t') {i : Nat} (hi : i < t'.ps.length) : (psA t' i).2 ≠ [] := by
  intro he
  have zero : ∀ f, Sol t f → f (at0 t'.bs i) = 0 := fun f hf => by
    have := (r.sol f).2 hf i hi
    rw [he] at this
    exact this.symm
  by_cases hb : Bas t (at0 t'.bs i)
  · obtain ⟨j, hj, e⟩ := hb
    obtain ⟨m, hm⟩ := List.exists_mem_of_ne_nil _ (h j hj)
    have hr := g.row j hj
    have hnb : ¬ Bas t m.1 := fun ⟨k, hk, e⟩ => (hr.vars m hm).2 k hk e.symm
    have := zero _ (xm g hnb)
    rw [← e, xu g hj, fk hr.rt.srt hm] at this
    exact hr.rt.nz m hm this
  · have := zero _ (xm g hb)
    unfold unit at this
    rw [dif_neg hb, if_pos rfl] at this
    exact absurd this (by decide)
end
end Go.Sh

namespace Go.Sh
open Go Go.Lift
theorem yZ {h : Heap} {x : X3} {q : Rat} (hq : RQ h x q) (h1 : x.2.1.len ≤ 1) (h2 : x.2.2.len ≤ 1) : szQ q ≤ 1 := by
  have a1 := hq.num.nl
  have a2 := hq.den.nl
  unfold szQ
  omega
theorem uz {h h1 : Heap} {reals : Int} {rows acts : Sl} {ys : List X4} {as : List AA} {Q : Bool → Heap → Prop} (hs : RS CP 4 h rows ys) (hraw : ∀ y ∈ ys, x7 h y) (ha : RS CA 10 h acts as) (hra : ∀ y ∈ as, RawC h y) (e1 : Ext h h1)
    (KT : ∀ h', Ext h h' → Q true h') (KF : ∀ (n : Nat) ps h', reals = (n : Int) → ys.length ≤ 6 → n ≤ 20 → All2 (fun y p => PQ h y p ∧ Few4 p) ys ps → (∀ p ∈ ps, p.1 = 0 ∧ (∀ m ∈ p.2, m.1 < (n : Int)) ∧ 2 ≤ p.2.length ∧ ∀ m ∈ p.2, szQ m.2 ≤ 1) → as.length ≤ 24 → (∀ a ∈ as, ∃ d, DQ h a.2.2.2.2 d ∧ szD d ≤ 1) → Ext h h' → Q false h') : mI reals rows acts h1 Q := by
  have hla := ha.len
  have hls := hs.len
  refine seq.cut (fun b h' => Ext h h' ∧ (b = false → 0 ≤ reals ∧ ys.length ≤ 6 ∧ reals ≤ 20 ∧ (∀ y ∈ ys, SmP h y) ∧ as.length ≤ 24)) ?_ ?_
  · refine ⟨fun _ => ⟨e1, nofun⟩, fun g => tX (RS.ext hs e1) e1 hraw fun b h2 hb e2 => ⟨fun _ => ⟨e1.trans e2, nofun⟩, fun hbf => ⟨e1.trans e2, fun g2 => ?_⟩⟩⟩
    obtain ⟨b1, b2, b3⟩ := hb hbf
    have g := of_decide_eq_false g
    have g2 := of_decide_eq_false g2
    exact ⟨by omega, b1, b2, b3, by omega⟩
  rintro b h2 ⟨e2, hbf⟩
  refine ⟨fun _ => KT h2 e2, fun hb => ?_⟩
  obtain ⟨g0, g1, g2, g3, g4⟩ := hbf hb
  clear hbf hb
  obtain ⟨n, rfl⟩ : ∃ n : Nat, reals = (n : Int) := ⟨reals.toNat, by omega⟩
  obtain ⟨ps, hps⟩ := All2.choose g3
  have hpl := hps.length
  have KF := fun h' hall => KF n ps h' rfl g1 (by omega) hps hall g4
  refine loop.inv (fun t h' => Ext h h' ∧ ∃ i : Nat, t = (i : Int) ∧ i ≤ ps.length ∧ ∀ p ∈ ps.take i, p.1 = 0 ∧ (∀ m ∈ p.2, m.1 < (n : Int)) ∧ 2 ≤ p.2.length ∧ ∀ m ∈ p.2, szQ m.2 ≤ 1) (fun t _ => ps.length - t.toNat) ⟨e2, 0, rfl, by omega, fun p hp => by simp at hp⟩ ?_
  rintro _ h3 ⟨e3, i, rfl, hi, hall⟩
  rw [hls, hpl]
  refine ⟨fun hlt => ?_, fun hge => ?_⟩
  · simp only [decide_eq_true_eq] at hlt
    have hi' : i < ps.length := by omega
    refine (RS.ext hs e3).ld (j := i) rfl (by omega) ?_
    obtain ⟨hy, fw⟩ := hps.get i (by omega) hi'
    have htk : ps.take (i + 1) = ps.take i ++ [ps[i]] := List.take_succ_eq_append_getElem hi'
    generalize ys[i] = y at *
    generalize ps[i] = p at *
    have hml := hy.m.len
    refine ae fun h4 e4 => ?_
    have e34 := e3.trans e4
    have hn12 := fw.n
    refine seq.cut (fun b h' => h' = h4 ∧ (b = false → p.1 = 0 ∧ (∀ m ∈ p.2, m.1 < (n : Int)) ∧ 2 ≤ p.2.length)) ?_ ?_
    · refine ⟨fun _ => ⟨rfl, nofun⟩, fun c1 => ⟨fun _ => ⟨rfl, nofun⟩, fun c2 => ?_⟩⟩
      have c1 := of_decide_eq_false c1
      have c2 := of_decide_eq_false c2
      rw [w64 (by omega) (by omega)]
      refine (hy.m.ext e34).at (j := p.2.length - 1) (by omega) (by omega) fun a1 y1 hy1 hv1 _ => ⟨_, dX hy1, rfl, fun c3 => ⟨(wB hy).1 (by omega), fun m hm => ?_, by omega⟩⟩
      have c3 := of_decide_eq_false c3
      rw [hv1] at c3
      obtain ⟨k, hk, rfl⟩ := List.getElem_of_mem hm
      by_cases hkl : k = p.2.length - 1
      · subst hkl; omega
      · have := List.pairwise_iff_getElem.1 fw.rt.srt k (p.2.length - 1) hk (by omega) (by omega)
        omega
    rintro b h5 ⟨he, hb⟩
    rw [he]; clear he
    refine ⟨fun _ => KT h4 e34, fun hbf => ?_⟩
    have hb := hb hbf
    refine loop.inv (fun (z : Int) h' => Ext h h' ∧ ∃ j : Nat, z = (j : Int) ∧ j ≤ p.2.length ∧ ∀ m ∈ p.2.take j, szQ m.2 ≤ 1) (fun z _ => p.2.length - z.toNat) ⟨e34, 0, rfl, by omega, fun m hm => by simp at hm⟩ ?_
    rintro _ h6 ⟨e6, j, rfl, hj, hsz⟩
    rw [hml]
    refine ⟨fun g => ?_, fun g => ?_⟩
    · have g := of_decide_eq_true g
      have hjl : j < p.2.length := by omega
      refine (hy.m.ext e6).at rfl hjl fun a1 y1 hy1 _ hq1 => ⟨y1, hy1, ae fun h7 e7 => ?_⟩
      have htk2 : p.2.take (j + 1) = p.2.take j ++ [p.2[j]] := List.take_succ_eq_append_getElem hjl
      have hq1 : RQ h6 (co y1) p.2[j].2 := hq1.rq
      refine seq.cut (fun b h' => h' = h7 ∧ (b = false → szQ p.2[j].2 ≤ 1)) ⟨fun _ => ⟨rfl, nofun⟩, fun c1 => ⟨rfl, fun c2 => ?_⟩⟩ ?_
      · have c1 := of_decide_eq_false c1
        have c2 := of_decide_eq_false c2
        exact yZ hq1 (by show y1.2.2.1.len ≤ 1; omega) (by show y1.2.2.2.len ≤ 1; omega)
      rintro b _ ⟨rfl, hb2⟩
      refine ⟨fun _ => KT _ (e6.trans e7), fun hbf => ⟨⟨e6.trans e7, j + 1, w64 (by omega) (by omega), by omega, fun m hm => ?_⟩, by rw [w64 (by omega) (by omega)]; omega⟩⟩
      rw [htk2] at hm
      rcases List.mem_append.1 hm with hm | hm
      · exact hsz m hm
      · simp only [List.mem_singleton] at hm
        subst hm; exact hb2 hbf
    · rw [w64 (by omega) (by omega)]
      have g := of_decide_eq_false g
      have hjp : j = p.2.length := by omega
      rw [hjp, List.take_length] at hsz
      refine ⟨⟨e6, i + 1, by omega, by omega, fun p' hp' => ?_⟩, by omega⟩
      rw [htk] at hp'
      rcases List.mem_append.1 hp' with hp' | hp'
      · exact hall p' hp'
      · simp only [List.mem_singleton] at hp'
        subst hp'; exact ⟨hb.1, hb.2.1, hb.2.2, hsz⟩
  simp only [decide_eq_false_iff_not] at hge
  have : i = ps.length := by omega
  subst this
  rw [List.take_length] at hall
  have KF := fun h' => KF h' hall
  clear hge hi
  refine loop.inv (fun (z : Int) h' => Ext h h' ∧ ∃ j : Nat, z = (j : Int) ∧ j ≤ as.length ∧ ∀ a ∈ as.take j, ∃ d, DQ h a.2.2.2.2 d ∧ szD d ≤ 1) (fun z _ => as.length - z.toNat) ⟨e3, 0, rfl, by omega, fun a ha => by simp at ha⟩ ?_
  rintro _ h4 ⟨e4, j, rfl, hj, hsm⟩
  rw [hla]
  refine ⟨fun g => ?_, fun g => ?_⟩
  · have g := of_decide_eq_true g
    have hjl : j < as.length := by omega
    have hr := hra _ (List.getElem_mem hjl)
    have htk : as.take (j + 1) = as.take j ++ [as[j]] := List.take_succ_eq_append_getElem hjl
    refine (RS.ext ha e4).ld (j := j) rfl hjl ?_
    generalize as[j] = y at *
    refine ae fun h5 e5 => ?_
    refine seq.cut (fun b h' => Ext h h' ∧ (b = false → ∃ d, DQ h y.2.2.2.2 d ∧ szD d ≤ 1)) ?_ ?_
    · refine za hr.x (e4.trans e5) fun b h6 hb e6 => ?_
      have e06 := (e4.trans e5).trans e6
      exact ⟨fun _ => ⟨e06, nofun⟩, fun hb' => ⟨fun _ => ⟨e06, nofun⟩, fun c1 => ⟨fun _ => ⟨e06, nofun⟩, fun c2 => ⟨fun _ => ⟨e06, nofun⟩, fun c3 => ⟨e06, fun c4 => by
        obtain ⟨d, hd, _⟩ := hb hb'
        have c1 := of_decide_eq_false c1
        have c2 := of_decide_eq_false c2
        have c3 := of_decide_eq_false c3
        have c4 := of_decide_eq_false c4
        refine ⟨d, hd, ?_⟩
        have z1 := yZ hd.1 (by show y.2.2.2.2.2.1.len ≤ 1; omega) (by show y.2.2.2.2.2.2.1.len ≤ 1; omega)
        have z2 := yZ hd.2 (by show y.2.2.2.2.2.2.2.2.1.len ≤ 1; omega) (by show y.2.2.2.2.2.2.2.2.2.len ≤ 1; omega)
        unfold szD; omega⟩⟩⟩⟩⟩
    rintro b h6 ⟨e6, hb⟩
    refine ⟨fun _ => KT h6 e6, fun hbf => ⟨⟨e6, j + 1, w64 (by omega) (by omega), by omega, fun a hm => ?_⟩, by rw [w64 (by omega) (by omega)]; omega⟩⟩
    rw [htk] at hm
    rcases List.mem_append.1 hm with hm | hm
    · exact hsm a hm
    · simp only [List.mem_singleton] at hm
      subst hm; exact hb hbf
  · have g := of_decide_eq_false g
    have : j = as.length := by omega
    subst this
    rw [List.take_length] at hsm
    exact KF h4 hsm e4
end Go.Sh

namespace Go.Sh
open Go Go.Lift
section
variable {h0 h h' : Heap} {V : Vol} {x : S5} {t : TT} {n : Nat}
theorem newE {h : Heap} {k : Addr → Heap → Prop} (K : ∀ a h', OwnS C7 7 h.size h' (⟨some a, 0, 0⟩ : Sl) ([] : List E7) → Ext h h' → a.block = h.size → h.size < h'.size → k a h') : new [] h k := by
  intro T
  exact K _ _ (OwnS.nil (n := 0)) (Ext.push h _) rfl (by simp)
theorem appE {B : Nat} {s x : Sl} {ys : List E7} {k : Sl → Heap → Prop} (ho : OwnS C7 7 B h s ([] : List E7)) (hB : B ≤ h.size) (hx : RS C7 7 h x ys) (hc : x.len ≤ x.cap) (hl : ys.length ≤ 1000)
    (K : ∀ w h', OwnS C7 7 B h' w ys → Keep s.blk h h' → (w.blk = s.blk ∨ ∀ b, w.blk = some b → h.size ≤ b) → k w h') : aK 7 120 s x h k :=
  ho.appendR len7 (by decide) one7 hB hx hc (by simp; omega) fun w h' o k' hb => K w h' (by simpa using o) k' hb
end
theorem zd {n : Nat} {ps : List (Rat × PL)} {i : Nat} (hi : i < ps.length) : psA (newT n ps) i = ps[i] := by
  unfold psA newT
  rw [List.getD_eq_getElem?_getD, List.getElem?_eq_getElem hi]; rfl
theorem yW {α : Type} {d : α} {k j : Nat} : (List.replicate k d).getD j d = d := by
  rw [List.getD_eq_getElem?_getD, List.getElem?_replicate]
  split <;> rfl
def RowF (t : TT) : Prop := ∀ j, j < t.ps.length → (psA t j).2 ≠ []
theorem Bd.rf {t t' : TT} {v : Int} {up : Bool} {e : Eg} {rs : PL} {er : Int} {lim : Nat} (D : Bd lim t v up e t' rs er) (r : RowF t) : RowF t' := by
  have hs : ∀ {j}, psA (setE t up v e) j = psA t j := by intro j; unfold psA; rw [fA]
  cases D with
  | rng => exact r
  | arg => exact r
  | old => exact r
  | cla => exact r
  | set => exact fun j hj => by rw [hs]; exact r j (by rw [fA] at hj; exact hj)
  | upd =>
    intro j hj
    show (psA (setE t up v e) j).2 ≠ []
    rw [hs]; exact r j (by rw [abT, fA] at hj; exact hj)
theorem iy (SP : ∀ {h : Heap} {Q : Bool → Heap → Prop}, Tab h → (∀ h', Ext h h' → Q true h') → cR h Q) {reals : Int} {rows acts : Sl} {h : Heap} {Q : Bool → Heap → Prop} {ys : List X4} {as : List AA} (ht : Tab h) (hs : RS CP 4 h rows ys) (hc : rows.len ≤ rows.cap) (hraw : ∀ y ∈ ys, x7 h y) (ha : RS CA 10 h acts as) (hra : ∀ y ∈ as, RawC h y) (K : ∀ h', Ext h h' → Q true h') : b7 reals rows acts h Q := by
  have hla := ha.len
  have hls := hs.len
  refine SP ht fun h1 e1 => ⟨fun hb => by simp at hb, fun _ => ?_⟩
  refine uz hs hraw ha hra e1 (fun h2 e2 => ⟨fun _ => K h2 e2, nofun⟩) fun n ps h4 hre g1 g2 hps hall g4 hsm e04 => ⟨nofun, fun _ => ?_⟩
  subst hre
  have hpl := hps.length
  refine qN fun a h5 hb5 ha5 e5 => ?_
  have hlim : max (Int.toNat 60) 1 = 60 := rfl
  rw [hlim] at hb5
  have b5 : BO h4 a 60 false h5 := ⟨R.ext ht e04, hb5, e5, by omega⟩
  have hfew : ∀ p ∈ ps, Few4 p := All2.right hps fun _ _ hq => hq.2
  have fit0 : FitT (newT n ps) n := FitT.new (by omega) (by omega) (fun p hp => (hfew p hp).rt) (fun p hp => (hall p hp).1) (fun p hp => (hall p hp).2.1) fun p hp => zZ.2 ⟨Nat.le_trans (hfew p hp).c (by decide), fun m hm => Nat.le_trans ((hfew p hp).m m hm) (by decide)⟩
  have hpk : ∀ {K : Nat → Prop} {hh : Heap}, Ext h4 hh → (∀ k, K k → h4.size ≤ k) → All2 (PK K hh) ys ps := fun e hk => hps.imp fun y p hq => PK.of hq.1 (e04.trans e) (fun k hk' => Nat.le_trans e04.size (hk k hk'))
  refine tT (reals := n) (ps := ps) rfl (by omega) (RS.ext hs (e04.trans e5)) hc hpl (by omega) fun x h6 bv bl bu nt => ?_
  refine aby fun p h7 c7 hp7 e7 n7 => ?_
  refine c7.sts rfl fun h8 c8 k8 => ?_
  have q8 : ∃ V : Vol, V.a = a ∧ V.p = p ∧ TM h4 V 60 false h8 x (newT n ps) := by
    have b1 := nt.vals.lt nt.vb; have b2 := nt.lo.lt nt.lb; have b3 := nt.up.lt nt.ub
    have s2 := e5.size; have s3 := b5.lt; have s4 := nt.ext.size; have s5 := e7.size
    have hV : ∀ k, (Vol.mk a p bv bl bu).K k → h4.size ≤ k := by
      rintro k (hk | hk | hk | hk | hk) <;> dsimp only at hk <;> omega
    have bC : BO h4 a 60 false h7 := b5.of_ext (nt.ext.trans e7)
    exact ⟨⟨a, p, bv, bl, bu⟩, rfl, rfl, TM.ofNew nt e5 (hpk e5 hV) c8 ((KK.ext e7).trans (KK.keep k8 fun k hk => by cases hk; exact .inl (.inr rfl))) (bC.fresh k8 fun b e => by cases e; exact ⟨by omega, by omega⟩) (.inl (by dsimp only; omega)) (.inr (by dsimp only; omega)) (by dsimp only; omega) (by dsimp only; omega)⟩
  obtain ⟨V, hVa, hVp, q8⟩ := q8
  subst hVa hVp
  have nb0 : NB0 (newT n ps) := by
    have hz : ∀ c w, egT (newT n ps) c w = (0, (0, 0)) := fun c w => by
      unfold egT edA
      cases c <;> exact yW
    exact ⟨fun w _ _ _ c => by rw [hz]; rfl, fun w _ c hc => by rw [hz] at hc; exact absurd rfl hc⟩
  have sz0 : Sz (newT n ps) := by
    refine ⟨fun i hi => ?_, fun w _ _ _ => ?_⟩
    · have hi' : i < ps.length := hi
      rw [zd hi']
      exact ⟨(hfew _ (List.getElem_mem hi')).n, (hall _ (List.getElem_mem hi')).2.2.2⟩
    · have : atD (newT n ps).vs w = (0, 0) := by
        unfold atD
        exact yW
      rw [this]
      unfold szD
      simp [bP]
  have rf0 : RowF (newT n ps) := fun i hi he => by
    have hi' : i < ps.length := hi
    rw [zd hi'] at he
    have := (hall _ (List.getElem_mem hi')).2.2.1
    rw [he] at this
    simp at this
  clear hpk c7 c8 k8 nt hp7
  refine loop.inv (fun (s : Int) h' => ∃ (i : Nat) (t : TT), s = (i : Int) ∧ i ≤ as.length ∧ TM h4 V 60 false h' x t ∧ FitT t n ∧ NB0 t ∧ Sz t ∧ RowF t) (fun s _ => as.length - s.toNat) ⟨0, _, rfl, by omega, q8, fit0, nb0, sz0, rf0⟩ ?_
  clear q8 fit0 nb0 sz0 rf0
  rintro _ h9 ⟨i, t, rfl, hi, q, f, nb, sz, rf⟩
  rw [hla]
  have e9 : Ext h h9 := e04.trans q.bo.ext
  refine ⟨fun hlt => ?_, fun _ => ?_⟩
  · simp only [decide_eq_true_eq] at hlt
    have hi' : i < as.length := by omega
    refine seq.cut (fun (_ : Unit) h' => ∃ t', TM h4 V 60 false h' x t' ∧ FitT t' n ∧ NB0 t' ∧ Sz t' ∧ RowF t') ?_ ?_
    · refine (RS.ext ha e9).ld (j := i) rfl hi' (ae fun h10 e10 => ?_)
      have hr := hra _ (List.getElem_mem hi')
      obtain ⟨d, hd, hds⟩ := hsm _ (List.getElem_mem hi')
      generalize as[i] = y9 at *
      have q10 := q.ext e10
      have hd4 := hd.ext e04
      refine ⟨fun _ => ?_, fun _ => ⟨t, q10, f, nb, sz, rf⟩⟩
      have he : EK V.K h10 (y9.2.2.1, y9.2.2.2.2) (y9.2.2.1, d) := ⟨rfl, DK.of hd4 q10.bo.ext q10.old⟩
      refine gP (e := (y9.2.2.1, d)) q10 (by decide) f.fl he (by dsimp only; omega) hr.v (fun h11 v0 v1 hrow hnf _ => ?_) fun s er t' rs h11 q11 k11 D ms => ⟨t', q11, (D.fit f (by dsimp only; omega)).1, D.nb0 f.g nb, D.sz f.g sz hds, D.rf rf⟩
      have hf := sz.upd f.g v0 v1 hrow hds
      exact absurd (by cases hup : y9.2.2.2.1 <;> exact hf) hnf
    · rintro _ h11 ⟨t', q11, f11, n11, s11, r11⟩
      rw [w64 (by omega) (by omega)]
      exact ⟨⟨i + 1, t', by omega, by omega, q11, f11, n11, s11, r11⟩, by omega⟩
  obtain ⟨ls, l1, l2⟩ := q.lo
  obtain ⟨us, u1, u2⟩ := q.up
  have ll : ls.length ≤ 1000 := by have := l2.length; have := f.g.ll; have := f.nv; have := f.nr; have := f.np; omega
  have lu : us.length ≤ 1000 := by have := u2.length; have := f.g.lu; have := f.nv; have := f.nr; have := f.np; omega
  have r3 := l1.rs len7 (by decide)
  have r4 := u1.rs len7 (by decide)
  have cl := q.tq.lo.cap
  have cu := q.tq.up.cap
  have c3 : ∀ {h' : Heap}, Ext h9 h' → cell? h' (V.p.add 3) = some (Sl.toV x.2.2.2.1) := fun e => ((q.ext e).root 3 (by decide)).1
  have c4 : ∀ {h' : Heap}, Ext h9 h' → cell? h' (V.p.add 4) = some (Sl.toV x.2.2.2.2) := fun e => ((q.ext e).root 4 (by decide)).1
  refine seq.cut (fun (s : Sl × Sl) h' => Ext h9 h' ∧ RowK C7 7 EK V.K h' s.1 t.lo ∧ RowK C7 7 EK V.K h' s.2 t.up) ?_ ?_
  · have fin : ∀ {w1 w2 : Sl} {B1 B2 : Nat} {h' : Heap}, OwnS C7 7 B1 h' w1 ls → OwnS C7 7 B2 h' w2 us → h9.size ≤ B1 → h9.size ≤ B2 → Ext h9 h' → Ext h9 h' ∧ RowK C7 7 EK V.K h' w1 t.lo ∧ RowK C7 7 EK V.K h' w2 t.up := fun o1 o2 b1 b2 e =>
      ⟨e, RowK.own o1 len7 (by decide) (fun k hk => Nat.lt_of_lt_of_le (q.lt k hk) b1) (l2.imp fun y m h => h.keep e (by simp)), RowK.own o2 len7 (by decide) (fun k hk => Nat.lt_of_lt_of_le (q.lt k hk) b2) (u2.imp fun y m h => h.keep e (by simp))⟩
    refine ⟨_, (q.root 3 (by decide)).1, _, (q.root 4 (by decide)).1, newE fun a1 h11 o1 e11 ab1 lt1 => ⟨c3 e11, c4 e11, ?_, ?_⟩, newE fun a4 h18 o4 e18 ab4 lt4 => ⟨c3 e18, c4 e18, newE fun a5 h19 o5 e19 ab5 lt5 => ?_⟩⟩
    · refine appE o1 (by omega) (RS.ext r3 e11) cl ll fun w1 h12 o1' k12 hb1 => ?_
      have e12 : Ext h9 h12 := e11.fresh (Nat.le_of_eq ab1.symm) k12
      refine ⟨c4 e12, newE fun a2 h13 o2 e13 ab2 lt2 => ?_⟩
      have e93 := e12.trans e13
      have s12 := e12.size
      refine ⟨c4 e93, appE o2 (by omega) (RS.ext r4 e93) cu lu fun w2 h14 o2' k14 hb2 => ?_⟩
      exact fin ((o1'.ext e13).keep k14 fun b hb e => by have := (o1'.lt hb).2; have e' : b = a2.block := Option.some.inj e; omega) o2' (Nat.le_refl _) s12 (e93.fresh (Nat.le_trans s12 (Nat.le_of_eq ab2.symm)) k14)
    · refine newE fun a3 h15 o3 e15 ab3 lt3 => ?_
      have e95 := e11.trans e15
      refine ⟨c3 e95, c4 e95, appE (o1.ext e15) (by omega) (RS.ext r3 e95) cl ll fun w1 h16 o1' k16 hb1 => ?_⟩
      have e96 : Ext h9 h16 := e95.fresh (Nat.le_of_eq ab1.symm) k16
      have s16 := e96.size
      refine ⟨c4 e96, appE (o3.keep k16 fun b hb e => by have e' : b = a1.block := Option.some.inj e; have := (o3.lt hb).1; omega) (by have := k16.size; omega) (RS.ext r4 e96) cu lu fun w2 h17 o2' k17 hb2 => ?_⟩
      exact fin (o1'.keep k17 fun b hb e => by
        have e' : b = a3.block := Option.some.inj e
        rcases hb1 with h | h
        · have e2 : b = a1.block := Option.some.inj (hb.symm.trans h)
          omega
        · have := h _ hb; omega) o2' (Nat.le_refl _) e11.size (e96.fresh (Nat.le_trans e11.size (Nat.le_of_eq ab3.symm)) k17)
    · have e99 := e18.trans e19
      refine ⟨c3 e99, c4 e99, appE o5 (by omega) (RS.ext r3 e99) cl ll fun w1 h20 o5' k20 hb1 => ?_⟩
      have e90 : Ext h9 h20 := e99.fresh (Nat.le_trans e18.size (Nat.le_of_eq ab5.symm)) k20
      refine ⟨c4 e90, appE ((o4.ext e19).keep k20 fun b hb e => by have e' : b = a5.block := Option.some.inj e; have := ((o4.ext e19).lt hb).2; have e2 : a4.block = b := Option.some.inj hb; omega) (by have := e90.size; omega) (RS.ext r4 e90) cu lu fun w2 h21 o4' k21 hb2 => ?_⟩
      exact fin (o5'.keep k21 fun b hb e => by
        have e' : b = a4.block := Option.some.inj e
        have := (o5'.lt hb).1
        omega) o4' e18.size (Nat.le_refl _) (e90.fresh (Nat.le_of_eq ab4.symm) k21)
  rintro ⟨lo', up'⟩ h10 ⟨e10, rlo, rup⟩
  have q10 := q.ext e10
  refine xS q10 f (nb.nb f.g) (fun h22 b => seq.dup ⟨fun _ => ⟨fun _ => seq.dup ⟨fun _ => bZ b.bench ⟨fun _ => K h22 (e04.trans b.ext), nofun⟩, fun g => by simp at g⟩, nofun⟩, fun g => by simp at g⟩) fun s t' rs x' h22 q22 k22 f' r' hfin ms => ?_
  refine seq.dup ⟨fun g => by simp at g, fun _ => bZ q22.bo.bench ⟨nofun, fun _ => ?_⟩⟩
  have hlen : s.len = rs.length := ms.len
  have e22 : Ext h h22 := e04.trans q22.bo.ext
  refine ⟨x', q22.all, ae fun h27 e27 => ?_⟩
  have q27 := q22.ext e27
  have z := f'.tsz
  have g' := f'.g
  refine seq.cut (fun b h' => b = false ∧ Ext h27 h') ?_ ?_
  · refine ⟨x', q27.all, wh q27.tq (Keep.refl _ _) z (by decide) (by decide) (by decide) fun b h29 hb e29 => ?_⟩
    have hb : b = true := hb.2 g'.right
    subst hb
    refine ⟨nofun, fun _ => ⟨x', (q27.ext e29).all, ?_⟩⟩
    have tq := (q27.ext e29).tq
    have e2729 := e27.trans e29
    have tl : RowQ C7 7 EQ h29 lo' t'.lo := by
      rw [r'.lo]
      exact (RowK.kk (by decide) (fun y m h => (KK.ext e2729).ek (k22.ek h)) (k22.trans (KK.ext e2729)) rlo).q fun y m h => EK.eq h
    have tu : RowQ C7 7 EQ h29 up' t'.up := by
      rw [r'.up]
      exact (RowK.kk (by decide) (fun y m h => (KK.ext e2729).ek (k22.ek h)) (k22.trans (KK.ext e2729)) rup).q fun y m h => EK.eq h
    refine yB (y := (x'.1, x'.2.1, x'.2.2.1, lo', up')) tq ⟨tq.bas, tq.rows, tq.vals, tl, tu⟩ z z (by decide) (by decide) fun b h30 hb e30 => ?_
    have hb : b = true := hb.2 rfl
    subst hb
    exact ⟨rfl, e29.trans e30⟩
  rintro _ h28 ⟨rfl, e28⟩
  refine ⟨nofun, fun _ => ?_⟩
  have q28 := q27.ext e28
  refine ⟨_, (q28.root 2 (by decide)).1, ?_⟩
  have hvl := q28.tq.vals.len
  refine loop.inv (fun (w : Int) h' => Ext h28 h' ∧ ∃ j : Nat, w = (j : Int) ∧ j ≤ t'.vs.length) (fun w _ => t'.vs.length - w.toNat) ⟨Keep.refl _ _, 0, rfl, by omega⟩ ?_
  rintro _ h31 ⟨e31, j, rfl, hj⟩
  have q31 := q28.ext e31
  have nvs : t'.vs.length ≤ 26 := by have := f'.nv; have := f'.nr; have := f'.np; omega
  refine ⟨fun g => ?_, fun _ => ?_⟩
  · have g := of_decide_eq_true g
    have hjl : j < t'.vs.length := by omega
    refine seq.cut (fun b h' => b = false ∧ Ext h28 h') ?_ ?_
    · refine ⟨fun g0 => ?_, fun _ => ⟨rfl, e31⟩⟩
      have hrs : rs = [] := by
        have : rs.length = 0 := by simp at g0; omega
        exact List.eq_nil_of_length_eq_zero this
      have hno : ∀ c, byd c (edA (sd t' c) (j : Int)) (atD t'.vs (j : Int)) = false := by
        intro c
        rcases hfin with ⟨hf, _⟩ | ⟨i, up, w, hr⟩
        · by_cases hb : Bas t' (j : Int)
          · obtain ⟨k, hk, e⟩ := hb
            have := hf k c hk
            unfold viol at this
            rw [e] at this
            exact this
          · exact r'.nb.inb (j : Int) (by omega) (by omega) hb c
        · rw [hrs] at hr
          unfold rsn at hr
          cases hr
      refine ⟨x', q31.all, u6 (lim := 60) q31.tq f'.fl (by decide) (by omega) (by omega) fun h33 e33 => ?_⟩
      rw [hno false]
      refine ⟨nofun, fun _ => ⟨x', (q31.ext e33).all, vt (lim := 60) (q31.ext e33).tq f'.fl (by decide) (by omega) (by omega) fun h34 e34 => ?_⟩⟩
      rw [hno true]
      exact ⟨rfl, (e31.trans e33).trans e34⟩
    · rintro _ h32 ⟨rfl, e32⟩
      refine ⟨nofun, fun _ => ?_⟩
      rw [w64 (by omega) (by omega)]
      exact ⟨⟨e32, j + 1, by omega, by omega⟩, by omega⟩
  · have hne : s.len ≠ 1 := by
      rw [hlen]
      rcases hfin with ⟨_, hr⟩ | ⟨i, up, w, hr⟩
      · rw [hr]; simp
      · rw [hr]
        have := aaD f.g rf g' r' w.lt
        unfold rsn
        simp
        exact this
    have : (((s.len : Nat) : Int) != 1) = true := by
      rw [bne_iff_ne]; omega
    rw [this]
    exact K h31 ((e22.trans e27).trans (e28.trans e31))
end Go.Sh
