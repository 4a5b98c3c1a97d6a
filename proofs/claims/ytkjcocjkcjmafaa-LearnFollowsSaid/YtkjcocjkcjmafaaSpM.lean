/-
  Laws that the proof of this claim's statement leans on, each proved under the conditions that it states.
-/
import Derived.Test.YtkjcocjkcjmafaaSpL
import Derived.Test.YtkjcocjkcjmafaaSpK
set_option linter.unusedVariables false
set_option linter.unusedSimpArgs false
namespace Go.Sh
open Go Go.Lift Go.Cla
variable {S : SS} {nx : Int} {n : Nat}
def PW (S : SS) (W : List Int) (st : AE) : Prop := ∀ v, st.A v = true → vl W (nl S v) = -1
theorem nl_tl (R : RightS S nx) {i : Nat} (hi : i < S.tra.length) : nl S (tr (tl S i)) = - tl S i := by
  have T := R.tra i hi
  unfold nl
  rw [T.sgn]
  have h0 := T.th.1
  unfold sg tr
  split <;> omega
theorem rup (R : RightS S nx) {W : List Int} (h0 : ∀ l, vl S.val l = -1 → atI S.lev (tr l) = 0 → vl W l = -1) (hst : ∀ c, C0 S c → Stand W c) : ∀ {i : Nat} {st st' : AE}, InvW S i st → i ≤ S.tra.length → runW S i st = some st' → PW S W st' → PW S W st := by
  intro i
  induction i with
  | zero =>
    intro st st' I _ h hp
    unfold runW at h
    split at h
    · cases h; exact hp
    · cases h
  | succ i ih =>
    intro st st' I hi h hp
    unfold runW at h
    split at h
    · cases h; exact hp
    · rename_i hc
      split at h
      · rename_i hA
        split at h
        · cases h
        · rename_i hr
          have I2 := I.step R (by omega) hA hc hr
          have hp2 := ih I2 (by omega) h hp
          intro w hw
          by_cases e : w = tr (tl S i)
          · subst e
            rcases R.rea i (by omega) with g | ⟨c, h1, h2, h3, h4⟩
            · exact absurd g hr
            have F := (R.cls c h2).2
            have others_in : ∀ m ∈ (S.cl c).lits, m ≠ tl S i → vl W m = -1 := by
              intro m hm hne
              obtain ⟨_, hv⟩ := h4 m hm hne
              have hth := F.1 m hm
              have htr : tr m ≠ tr (tl S i) := fun e => by
                obtain ⟨a, ha, ea⟩ := mem_at hm
                obtain ⟨b, hb, eb⟩ := mem_at h3
                have hab : a = b := nodup_at F.2.1 ha hb (by rw [ea, eb]; exact e)
                exact hne (by rw [← ea, ← eb, hab])
              by_cases hl : atI S.lev (tr m) = 0
              · exact h0 m hv hl
              · have hl2 := (R.lev_le' hth.tr).1
                have hin : tr m ∈ others S (tr (tl S i)) := by
                  unfold others
                  rw [h1]
                  exact List.mem_filter.2 ⟨List.mem_map_of_mem hm, by simpa using htr⟩
                have := hp2 (tr m) (by
                  have : ∀ (vs : List Nat) (st : AE), tr m ∈ vs → (st.adds S vs).A (tr m) = true := by
                    intro vs
                    induction vs with
                    | nil => intro st h; cases h
                    | cons x r ih =>
                      intro st h
                      by_cases hr : tr m ∈ r
                      · exact ih _ hr
                      · have e : tr m = x := by simpa [hr] using h
                        rw [← e]
                        exact (adds_up (vs := r) (tr m)).1 (add_in (by omega)).1
                  exact this _ _ hin)
                rw [← nl_of hv] at this
                exact this
            rw [nl_tl R (by omega), vl_neg]
            have hs := hst _ ⟨c, h2, rfl⟩
            have : vl W (tl S i) = 1 := by
              rcases hs with ⟨l, hl, hv⟩ | ⟨l, hl, m, hm, hne, hv1, hv2⟩
              · by_cases e : l = tl S i
                · rw [← e]; exact hv
                · have := others_in l hl e; omega
              · by_cases e : l = tl S i
                · have := others_in m hm (fun e2 => hne (e.trans e2.symm)); omega
                · have := others_in l hl e; omega
            omega
          · refine hp2 w ((adds_up w).1 ?_)
            unfold AE.out
            simp [e, hw]
      · rename_i hA
        exact ih (I.skip (by simpa using hA)) (by omega) h hp
theorem rup_clash (R : RightS S nx) (hn : S.val.length ≤ 1048576) {W : List Int} (h0 : ∀ l, vl S.val l = -1 → atI S.lev (tr l) = 0 → vl W l = -1) (hst : ∀ c, C0 S c → Stand W c) {j : Nat} (hj : j < S.cls.length) {st' : AE} (h : lesson S (S.cl j).lits = some st') (hp : PW S W st') : False := by
  unfold lesson at h
  split at h
  · rename_i rdy
    have hp0 := rup R h0 hst (st0uinv R hn rdy) (Nat.le_refl _) h hp
    have hf : ∀ m ∈ (S.cl j).lits, vl W m = -1 := by
      intro m hm
      have hv := rdy.neg m hm
      have hth := vl_there (V := S.val) (l := m) (by omega)
      by_cases hl : atI S.lev (tr m) = 0
      · exact h0 m hv hl
      · have hl2 := (R.lev_le' hth.tr).1
        have := hp0 (tr m) (st0uA.2 ⟨List.mem_map_of_mem hm, by omega⟩)
        rw [← nl_of hv] at this
        exact this
    rcases hst _ ⟨j, hj, rfl⟩ with ⟨l, hl, hv⟩ | ⟨l, hl, m, hm, hne, hv1, hv2⟩
    · have := hf l hl; omega
    · have := hf l hl; omega
  · cases h
theorem runW_some (R : RightS S nx) (hdec : ∀ i, i < S.tra.length → atI S.lev (tr (tl S i)) = (S.hea.length : Int) → atI S.rea (tr (tl S i)) = -1 → ∀ q, q < i → atI S.lev (tr (tl S q)) ≠ (S.hea.length : Int)) : ∀ {i : Nat} {st : AE}, InvW S i st → i ≤ S.tra.length → ∃ st', runW S i st = some st' := by
  intro i
  induction i with
  | zero =>
    intro st I _
    obtain ⟨q, hq, hp⟩ := cnt_pos I.one
    have := I.pos q hq hp
    omega
  | succ i ih =>
    intro st I hi
    unfold runW
    by_cases hc : cntH S st = 1
    · rw [if_pos hc]; exact ⟨_, rfl⟩
    · rw [if_neg hc]
      by_cases hA : st.A (tr (tl S i)) = true
      · rw [if_pos hA]
        have hT := I.top R (by omega) hA
        by_cases hr : atI S.rea (tr (tl S i)) = -1
        · exfalso
          have hco := cnt_out R (show i < S.tra.length by omega) hT
          have h1 := I.one
          obtain ⟨q, hq, hp⟩ := cnt_pos (S := S) (st := st.out (tr (tl S i))) (by omega)
          unfold inH at hp hT
          simp only [Bool.and_eq_true, beq_iff_eq] at hp hT
          have hne : q ≠ i := fun e => by subst e; unfold AE.out at hp; simp at hp
          have hAq : st.A (tr (tl S q)) = true := by
            have := hp.1
            unfold AE.out at this
            dsimp only at this
            split at this
            · cases this
            · exact this
          have hlt := I.pos q hq (by unfold inH; simp only [Bool.and_eq_true, beq_iff_eq]; exact ⟨hAq, hp.2⟩)
          exact hdec i (by omega) hT.2 hr q (by omega) hp.2
        · rw [if_neg hr]
          exact ih (I.step R (by omega) hA hc hr) (by omega)
      · rw [if_neg hA]
        exact ih (I.skip (by simpa using hA)) (by omega)
end Go.Sh

namespace Go.Sh
open Go Go.Lift Go.Cla
variable {S : SS} {n : Nat}
def rst (y : Int) (T : List Int) (l : List Int) : List Int := T.foldr (fun x l => l.set (tr x) y) l
theorem rst_len (y : Int) (T : List Int) (l : List Int) : (rst y T l).length = l.length := by
  induction T with
  | nil => rfl
  | cons x r ih => show ((rst y r l).set _ _).length = _; rw [List.length_set, ih]
theorem rst_at {y : Int} {T : List Int} {l : List Int} (hT : ∀ x ∈ T, tr x < l.length) (v : Nat) : ((∃ x ∈ T, tr x = v) → atI (rst y T l) v = y) ∧ ((∀ x ∈ T, tr x ≠ v) → atI (rst y T l) v = atI l v) := by
  induction T with
  | nil => exact ⟨fun h => (by obtain ⟨x, hx, _⟩ := h; cases hx), fun _ => rfl⟩
  | cons x r ih =>
    have ih := ih fun z hz => hT z (by simp [hz])
    have e : atI (rst y (x :: r) l) v = if v = tr x then y else atI (rst y r l) v := at_setL _ _ _ _ (by show _ < (rst y r l).length; rw [rst_len]; exact hT x (by simp))
    rw [e]
    refine ⟨fun h => ?_, fun h => ?_⟩
    · by_cases e2 : v = tr x
      · rw [if_pos e2]
      · rw [if_neg e2]
        obtain ⟨z, hz, hz2⟩ := h
        rcases List.mem_cons.1 hz with rfl | hz
        · exact absurd hz2.symm e2
        · exact ih.1 ⟨z, hz, hz2⟩
    · rw [if_neg (fun e2 => h x (by simp) e2.symm)]
      exact ih.2 fun z hz => h z (by simp [hz])
def backS (S : SS) (k d : Nat) : SS := { S with val := rst 0 (S.tra.drop d) S.val, lev := rst 0 (S.tra.drop d) S.lev, rea := rst (-1) (S.tra.drop d) S.rea, tra := S.tra.take d, hea := S.hea.take k, nxt := min d S.nxt }
structure BackP (n : Nat) (S : SS) (k d : Nat) : Prop where
  t : Tok n S
  g : GS S
  hk : k < S.hea.length
  hd : atI S.hea k = (d : Int)
theorem BackP.dle {k d : Nat} (b : BackP n S k d) : d < S.tra.length := by
  have := (b.g.hea k b.hk).hi
  rw [b.hd] at this
  omega
theorem hea_mono (g : GS S) : ∀ {i k : Nat}, i < k → k < S.hea.length → atI S.hea i < atI S.hea k := by
  intro i k hik hk
  induction k with
  | zero => omega
  | succ k ih =>
    have h1 := (g.hea (k + 1) hk).mo (by omega)
    rw [Nat.add_sub_cancel] at h1
    by_cases e : i = k
    · subst e; exact h1
    · have := ih (by omega) (by omega)
      omega
section
variable {k d : Nat}
theorem BackP.tlO (b : BackP n S k d) {i : Nat} (hi : i < d) : tl (backS S k d) i = tl S i := by
  unfold tl backS
  unfold atI
  simp only [List.getD_eq_getElem?_getD]
  rw [List.getElem?_take, if_pos hi]
theorem BackP.heaO {i : Nat} (hi : i < k) : atI (backS S k d).hea i = atI S.hea i := by
  unfold backS atI
  simp only [List.getD_eq_getElem?_getD]
  rw [List.getElem?_take, if_pos hi]
theorem BackP.tlen (b : BackP n S k d) : (backS S k d).tra.length = d := by
  have := b.dle
  show (S.tra.take d).length = d
  rw [List.length_take]; omega
theorem BackP.hlen (b : BackP n S k d) : (backS S k d).hea.length = k := by
  have := b.hk
  show (S.hea.take k).length = k
  rw [List.length_take]; omega
theorem BackP.dropT (b : BackP n S k d) {x : Int} (hx : x ∈ S.tra.drop d) : ∃ i, d ≤ i ∧ i < S.tra.length ∧ tl S i = x := by
  obtain ⟨i, hi, e⟩ := List.getElem_of_mem hx
  rw [List.length_drop] at hi
  refine ⟨d + i, by omega, by omega, ?_⟩
  unfold tl
  rw [show atI S.tra (d + i) = S.tra[d + i] from at_get (by omega), ← e, List.getElem_drop]
theorem BackP.inDrop (b : BackP n S k d) {i : Nat} (h1 : d ≤ i) (h2 : i < S.tra.length) : tl S i ∈ S.tra.drop d := by
  have e : tl S i = (S.tra.drop d)[i - d]'(by rw [List.length_drop]; omega) := by
    rw [List.getElem_drop]
    unfold tl
    rw [show atI S.tra i = S.tra[i] from at_get h2]
    congr 1; omega
  rw [e]
  exact List.getElem_mem _
theorem BackP.vals (b : BackP n S k d) (v : Nat) : ((∃ i, d ≤ i ∧ i < S.tra.length ∧ tr (tl S i) = v) → atI (backS S k d).val v = 0 ∧ atI (backS S k d).lev v = 0 ∧ atI (backS S k d).rea v = -1) ∧
    ((∀ i, d ≤ i → i < S.tra.length → tr (tl S i) ≠ v) → atI (backS S k d).val v = atI S.val v ∧ atI (backS S k d).lev v = atI S.lev v ∧ atI (backS S k d).rea v = atI S.rea v) := by
  have t := b.t
  have hT : ∀ x ∈ S.tra.drop d, tr x < n := fun x hx => by
    obtain ⟨i, _, hi, rfl⟩ := b.dropT hx
    exact (t.tt _ (at_mem hi)).1.tr
  have r1 := rst_at (y := 0) (T := S.tra.drop d) (l := S.val) (fun x hx => by rw [t.vn]; exact hT x hx) v
  have r2 := rst_at (y := 0) (T := S.tra.drop d) (l := S.lev) (fun x hx => by rw [t.ln]; exact hT x hx) v
  have r3 := rst_at (y := -1) (T := S.tra.drop d) (l := S.rea) (fun x hx => by rw [t.rn]; exact hT x hx) v
  refine ⟨fun ⟨i, h1, h2, h3⟩ => ?_, fun h => ?_⟩
  · have hx : ∃ x ∈ S.tra.drop d, tr x = v := ⟨_, b.inDrop h1 h2, h3⟩
    exact ⟨r1.1 hx, r2.1 hx, r3.1 hx⟩
  · have hx : ∀ x ∈ S.tra.drop d, tr x ≠ v := fun x hx => by
      obtain ⟨i, h1, h2, rfl⟩ := b.dropT hx
      exact h i h1 h2
    exact ⟨r1.2 hx, r2.2 hx, r3.2 hx⟩
theorem tra_ne (t : Tok n S) {i j : Nat} (hi : i < S.tra.length) (hj : j < S.tra.length) (hne : i ≠ j) : tr (tl S i) ≠ tr (tl S j) := fun e => hne (nodup_at t.tn hi hj e)
theorem BackP.old (b : BackP n S k d) {i : Nat} (hi : i < d) : atI (backS S k d).val (tr (tl S i)) = atI S.val (tr (tl S i)) ∧ atI (backS S k d).lev (tr (tl S i)) = atI S.lev (tr (tl S i)) ∧ atI (backS S k d).rea (tr (tl S i)) = atI S.rea (tr (tl S i)) :=
  (b.vals _).2 fun j h1 h2 => tra_ne b.t h2 (by have := b.dle; omega) (by omega)
theorem BackP.tok (b : BackP n S k d) : Tok n (backS S k d) where
  nb := b.t.nb
  vn := by show (rst _ _ _).length = _; rw [rst_len]; exact b.t.vn
  ln := by show (rst _ _ _).length = _; rw [rst_len]; exact b.t.ln
  rn := by show (rst _ _ _).length = _; rw [rst_len]; exact b.t.rn
  wn := b.t.wn
  tri := by
    intro y hy
    obtain ⟨v, hv, rfl⟩ := mem_at hy
    by_cases h : ∃ i, d ≤ i ∧ i < S.tra.length ∧ tr (tl S i) = v
    · rw [((b.vals v).1 h).1]; simp
    · rw [((b.vals v).2 fun i h1 h2 h3 => h ⟨i, h1, h2, h3⟩).1]
      exact b.t.tri.at v
  cn := b.t.cn
  fit := b.t.fit
  tt := fun l hl => by
    obtain ⟨i, hi, e⟩ := mem_at hl
    rw [b.tlen] at hi
    have e2 : tl (backS S k d) i = l := e
    rw [b.tlO hi] at e2
    subst e2
    have hlt := b.dle
    obtain ⟨h1, h2⟩ := b.t.tt _ (at_mem (show i < S.tra.length by omega))
    exact ⟨h1, by rw [(b.old hi).1]; exact h2⟩
  tn := by
    show ((S.tra.take d).map tr).Nodup
    exact List.Sublist.nodup ((List.take_sublist _ _).map _) b.t.tn
  tv := fun v hv hne => by
    by_cases h : ∃ i, d ≤ i ∧ i < S.tra.length ∧ tr (tl S i) = v
    · exact absurd ((b.vals v).1 h).1 hne
    · rw [((b.vals v).2 fun i h1 h2 h3 => h ⟨i, h1, h2, h3⟩).1] at hne
      obtain ⟨l, hl, e⟩ := b.t.tv v hv hne
      obtain ⟨i, hi, rfl⟩ := mem_at hl
      have hid : i < d := by
        refine Classical.byContradiction fun hge => h ⟨i, by omega, hi, e⟩
      refine ⟨tl (backS S k d) i, at_mem (by rw [b.tlen]; exact hid), ?_⟩
      rw [b.tlO hid]; exact e
  nx := by
    rw [b.tlen]
    show min d S.nxt ≤ d
    omega
  hn := by rw [b.hlen]; have := b.hk; have := b.t.hn; omega
theorem BackP.gs (b : BackP n S k d) : GS (backS S k d) where
  lev := fun i hi => by
    rw [b.tlen] at hi
    have hlt := b.dle
    obtain ⟨m, hm, hl⟩ := b.g.lev i (by omega)
    have hmk : m ≤ k := by
      refine Classical.byContradiction fun hgt => ?_
      have := hm.2.1 k (by omega)
      rw [b.hd] at this
      omega
    refine ⟨m, ⟨by rw [b.hlen]; exact hmk, fun j hj => by rw [BackP.heaO (by omega)]; exact hm.2.1 j hj, fun h => ?_⟩, by rw [b.tlO hi, (b.old hi).2.1]; exact hl⟩
    rw [b.hlen] at h
    rw [BackP.heaO h]
    exact hm.2.2 (by have := b.hk; omega)
  hea := fun i hi => by
    rw [b.hlen] at hi
    have hk := b.hk
    have H := b.g.hea i (by omega)
    have hlt := hea_mono b.g hi hk
    rw [b.hd] at hlt
    have h0 := H.lo
    refine ⟨by rw [BackP.heaO hi]; exact h0, by rw [BackP.heaO hi, b.tlen]; exact hlt, fun h => by rw [BackP.heaO hi, BackP.heaO (by omega)]; exact H.mo h, ?_⟩
    rw [BackP.heaO hi, b.tlO (by omega), (b.old (by omega)).2.2]
    exact H.re
  fre := fun v hv hno => by
    by_cases h : ∃ i, d ≤ i ∧ i < S.tra.length ∧ tr (tl S i) = v
    · exact (b.vals v).1 h
    · have e := (b.vals v).2 fun i h1 h2 h3 => h ⟨i, h1, h2, h3⟩
      rw [e.1, e.2.1, e.2.2]
      refine b.g.fre v (by have : v < (rst 0 (S.tra.drop d) S.val).length := hv; rw [rst_len] at this; exact this) fun i hi e2 => ?_
      by_cases hid : i < d
      · exact hno i (by rw [b.tlen]; exact hid) (by rw [b.tlO hid]; exact e2)
      · exact h ⟨i, by omega, hi, e2⟩
  rea := fun i hi => by
    rw [b.tlen] at hi
    have hlt := b.dle
    unfold RkP
    rw [b.tlO hi, (b.old hi).2.2]
    rcases b.g.rea i (by omega) with h | ⟨c, h1, h2, h3, h4⟩
    · exact .inl h
    · refine .inr ⟨c, h1, h2, h3, fun m hm hne => ?_⟩
      obtain ⟨⟨j, hj, ej⟩, hvm⟩ := h4 m hm hne
      refine ⟨⟨j, hj, by rw [b.tlO (by omega)]; exact ej⟩, ?_⟩
      have hth := vl_there (V := S.val) (l := m) (by omega)
      unfold vl at hvm ⊢
      have el : (backS S k d).val.length = S.val.length := rst_len _ _ _
      rw [if_pos hth] at hvm
      rw [el, if_pos hth, ← ej, (b.old (by omega)).1, ej]
      exact hvm
  use := b.g.use
theorem BackP.proc (b : BackP n S k d) {m : Nat} (hm : d ≤ m) (p : Proc S m none2) : Proc (backS S k d) d none2 := by
  intro j hj i hi hex
  have hlt := b.dle
  have h := p j hj i (by omega) hex
  have e : atI (backS S k d).tra i = atI S.tra i := b.tlO hi
  have up : ∀ l, NotLate S i l → NotLate (backS S k d) i l := by
    rintro l ⟨q, h1, h2, h3⟩
    have hq : q < d := by
      have hmem : (atI S.hea k) ∈ S.hea := at_mem b.hk
      rw [b.hd] at hmem
      have := h3 _ hmem (by omega)
      omega
    refine ⟨q, by rw [b.tlen]; exact hq, (b.tlO hq).trans h2, fun hd hm hlt => h3 hd ?_ hlt⟩
    exact List.mem_of_mem_take hm
  exact ⟨fun g => up _ (h.1 (by rw [← e]; exact g)), fun g => up _ (h.2 (by rw [← e]; exact g))⟩
theorem BackP.ask (b : BackP n S k d) (w : Wok n S S.wt) {m : Nat} (hm : d ≤ m) (p : Proc S m none2) (hx : d ≤ S.nxt) : Ask n (backS S k d) := by
  have e : (backS S k d).nxt = d := Nat.min_eq_left hx
  refine ⟨b.tok, w.same rfl, by rw [e]; exact b.proc hm p, fun hd hmem => ?_⟩
  rw [e]
  obtain ⟨i, hi, rfl⟩ := mem_at hmem
  rw [b.hlen] at hi
  rw [BackP.heaO hi]
  have := hea_mono b.g hi b.hk
  rw [b.hd] at this
  omega
end
end Go.Sh

namespace Go.Sh
open Go Go.Lift Go.Cla
variable {S : SS} {n : Nat}
theorem GS.tell (t : Tok n S) {l : Int} {c : Nat} (hth : There n l) (hv : vl S.val l = 0) (g : GS S) (hc : c < S.cls.length) (hlc : l ∈ (S.cl c).lits) (ho : ∀ m ∈ (S.cl c).lits, m ≠ l → vl S.val m = -1) : GS (putS S l (c : Int)) := by
  have hlt := hth.tr
  have eT : (putS S l c).tra = S.tra ++ [l] := rfl
  have eH : (putS S l c).hea = S.hea := rfl
  have eL : (putS S l c).lev = S.lev.set (tr l) (S.hea.length : Int) := rfl
  have eR : (putS S l c).rea = S.rea.set (tr l) (c : Int) := rfl
  have eV : (putS S l c).val = S.val.set (tr l) (sg l) := rfl
  have aL : ∀ v, atI (putS S l c).lev v = if v = tr l then (S.hea.length : Int) else atI S.lev v := fun v => by rw [eL, at_setL _ _ _ _ (by rw [t.ln]; exact hlt)]
  have aR : ∀ v, atI (putS S l c).rea v = if v = tr l then (c : Int) else atI S.rea v := fun v => by rw [eR, at_setL _ _ _ _ (by rw [t.rn]; exact hlt)]
  have aV : ∀ v, atI (putS S l c).val v = if v = tr l then sg l else atI S.val v := fun v => by rw [eV, at_setL _ _ _ _ (by rw [t.vn]; exact hlt)]
  have tO : ∀ i, i < S.tra.length → tl (putS S l c) i = tl S i := fun i hi => by unfold tl; rw [eT]; exact tl_app _ _ hi
  have tN : tl (putS S l c) S.tra.length = l := by unfold tl; rw [eT]; exact tl_last _ _
  have len : (putS S l c).tra.length = S.tra.length + 1 := by rw [eT]; simp
  have un : ∀ i, i < S.tra.length → tr (tl S i) ≠ tr l := fun i hi => untold_tr t hth hv hi
  have el : (putS S l c).val.length = S.val.length := by rw [eV, List.length_set]
  have keepV : ∀ m, vl S.val m = -1 → vl (putS S l c).val m = -1 := fun m hvm => by
    have hthm := vl_there (V := S.val) (l := m) (by omega)
    have hm := (t.vlf_iff).1 hvm
    obtain ⟨j, hj, ej⟩ := mem_at hm
    have hne : tr m ≠ tr l := by
      have := un j hj
      unfold tl at this
      rw [ej, tr_neg] at this
      exact this
    unfold vl at hvm ⊢
    rw [if_pos hthm] at hvm
    rw [el, if_pos hthm, aV, if_neg hne]
    exact hvm
  refine ⟨fun i hi => ?_, fun i hi => ?_, fun v hv' hno => ?_, fun i hi => ?_, g.use⟩
  · rw [len] at hi
    by_cases e : i = S.tra.length
    · subst e
      refine ⟨S.hea.length, ⟨by rw [eH]; omega, fun j hj => ?_, fun h => by rw [eH] at h; omega⟩, by rw [tN, aL, if_pos rfl]⟩
      rw [eH]
      have := (g.hea j hj).hi
      omega
    · obtain ⟨k, hk, hl⟩ := g.lev i (by omega)
      exact ⟨k, hk, by rw [tO i (by omega), aL, if_neg (un i (by omega))]; exact hl⟩
  · have H := g.hea i hi
    have h1 := H.lo; have h2 := H.hi
    refine ⟨h1, by rw [len]; show atI S.hea i < _; omega, H.mo, ?_⟩
    show atI (putS S l c).rea (tr (tl (putS S l c) (atI S.hea i).toNat)) = -1
    rw [tO _ (by omega), aR, if_neg (un _ (by omega))]
    exact H.re
  · have hne : v ≠ tr l := fun e => hno S.tra.length (by rw [len]; omega) (by rw [tN]; exact e.symm)
    have := g.fre v (by rw [← el]; exact hv') fun i hi e => hno i (by rw [len]; omega) (by rw [tO i hi]; exact e)
    rw [aV, aL, aR, if_neg hne, if_neg hne, if_neg hne]
    exact this
  · rw [len] at hi
    by_cases e : i = S.tra.length
    · subst e
      refine .inr ⟨c, by rw [tN, aR, if_pos rfl], hc, by rw [tN]; exact hlc, fun m hm hne => ?_⟩
      rw [tN] at hne
      have hvm := ho m hm hne
      obtain ⟨j, hj, ej⟩ := mem_at ((t.vlf_iff).1 hvm)
      exact ⟨⟨j, hj, by rw [tO j hj]; show tr (atI S.tra j) = _; rw [ej, tr_neg]⟩, keepV m hvm⟩
    · have hi' : i < S.tra.length := by omega
      unfold RkP
      rw [tO i hi', aR, if_neg (un i hi')]
      rcases g.rea i hi' with h | ⟨c', h1, h2, h3, h4⟩
      · exact .inl h
      · refine .inr ⟨c', h1, h2, h3, fun m hm hne => ?_⟩
        obtain ⟨⟨j, hj, ej⟩, hvm⟩ := h4 m hm hne
        exact ⟨⟨j, hj, by rw [tO j (by omega)]; exact ej⟩, keepV m hvm⟩
theorem addS_tw (t : Tok n S) (w : Wok n S S.wt) {L : List Int} {b : Bool} (f : FitsL n L) (hc : S.cls.length < 1073741824) : Tok n (addS S L b) ∧ Wok n (addS S L b) (addS S L b).wt := by
  have a0 : Ask n { S with nxt := 0, hea := [] } := ⟨{ nb := t.nb, vn := t.vn, ln := t.ln, rn := t.rn, wn := t.wn, tri := t.tri, cn := t.cn, fit := t.fit, tt := t.tt, tn := t.tn, tv := t.tv, nx := by show 0 ≤ _; omega, hn := by show ([] : List Int).length ≤ _; simp }, w.same rfl, fun j hj k hk => by have hk : k < 0 := hk; omega, fun hd hm => by cases hm⟩
  have a1 := a0.add rfl (b := b) f hc
  have t1 := a1.t
  exact ⟨{ nb := t1.nb, vn := t1.vn, ln := t1.ln, rn := t1.rn, wn := t1.wn, tri := t1.tri, cn := t1.cn, fit := t1.fit, tt := t1.tt, tn := t1.tn, tv := t1.tv, nx := t.nx, hn := t.hn }, a1.w.same rfl⟩
structure Learn (n : Nat) (S : SS) (L : List Int) : Prop where
  a : Ask n S
  g : GS S
  f : FitsL n L
  nx : S.nxt = S.tra.length
  un : vl S.val (atI L 0) = 0
  fa : ∀ m ∈ L, m ≠ atI L 0 → vl S.val m = -1
  la : ∀ i, i < S.tra.length → tl S i = - atI L 1 → ∀ hd ∈ S.hea, hd ≤ (i : Int)
  cn : S.cls.length < 1000000
def lrnS (S : SS) (L : List Int) : SS := putS (addS S L true) (atI L 0) (S.cls.length : Int)
theorem Learn.l0 {L : List Int} (q : Learn n S L) : There n (atI L 0) := q.f.1 _ (at_mem (by have := q.f.2.2; omega))
theorem Learn.tw {L : List Int} (q : Learn n S L) : Tok n (addS S L true) ∧ Wok n (addS S L true) (addS S L true).wt := addS_tw q.a.t q.a.w q.f (by have := q.cn; omega)
theorem Learn.gs {L : List Int} (q : Learn n S L) : GS (lrnS S L) := by
  have ec : (addS S L true).cl S.cls.length = ⟨L, true, 0⟩ := by rw [addS_cl, if_pos rfl]
  refine GS.tell q.tw.1 q.l0 q.un (q.g.add L true) (by rw [addS_len]; omega) (by rw [ec]; show atI L 0 ∈ L; exact at_mem (by have := q.f.2.2; omega)) fun m hm hne => ?_
  rw [ec] at hm
  exact q.fa m hm hne
theorem Learn.ask {L : List Int} (q : Learn n S L) : Ask n (lrnS S L) := by
  have t := q.a.t
  have eT : (lrnS S L).tra = S.tra ++ [atI L 0] := rfl
  have len : (lrnS S L).tra.length = S.tra.length + 1 := by rw [eT]; simp
  have tO : ∀ i, i < S.tra.length → atI (lrnS S L).tra i = atI S.tra i := fun i hi => by rw [eT]; exact tl_app _ _ hi
  have tN : atI (lrnS S L).tra S.tra.length = atI L 0 := by rw [eT]; exact tl_last _ _
  have hlit : ∀ j u, lit (lrnS S L) j u = if j = S.cls.length then atI L u else lit S j u := fun j u => by
    show lit (addS S L true) j u = _
    unfold lit; rw [addS_cl]; split <;> rfl
  have up : ∀ k l, NotLate S k l → NotLate (lrnS S L) k l := by
    rintro k l ⟨p, h1, h2, h3⟩
    exact ⟨p, by rw [len]; omega, by rw [tO p h1]; exact h2, h3⟩
  refine ⟨q.tw.1.put q.l0 q.un, q.tw.2.same rfl, fun j hj k hk hex => ?_, q.a.hd⟩
  have hk : k < S.nxt := hk
  have hkt : k < S.tra.length := by have := q.nx; omega
  rw [hlit, hlit, tO k hkt]
  by_cases e : j = S.cls.length
  · rw [if_pos e, if_pos e]
    refine ⟨fun g => ?_, fun g => ?_⟩
    · exfalso
      have hm : - atI L 0 ∈ S.tra := by rw [← g]; exact at_mem hkt
      have := (t.vlf_iff).2 hm
      have := q.un
      omega
    · refine ⟨S.tra.length, by rw [len]; omega, tN, fun hd hm hlt => ?_⟩
      have := q.la k hkt g hd hm
      omega
  · rw [if_neg e, if_neg e]
    have hj : j < S.cls.length := by
      have : j < (addS S L true).cls.length := hj
      rw [addS_len] at this; omega
    have := q.a.p j hj k hk hex
    exact ⟨fun g => up _ _ (this.1 g), fun g => up _ _ (this.2 g)⟩
end Go.Sh

namespace Go.Sh
open Go Go.Lift Go.Cla
variable {h h' hh h2 : Heap} {p : Addr} {x x' : Nm → Sl} {vs vs' : Nm → List Value} {S : SS} {n : Nat}
theorem To.fresh {m : Nat} {o : Option Nat} (t : To p m h x hh x') (k : Keep o hh h2) (ho : ∀ b, o = some b → h.size ≤ b) (hp : p.block < h.size) : To p m h x h2 x' := by
  refine ⟨Nat.le_trans t.size k.size, fun b hb h1 h3 => ?_, fun i b hb => t.foot i b hb, fun a ha hr => ?_⟩
  · rw [k.same b (Nat.lt_of_lt_of_le hb t.size) (fun e => by have := ho b e.symm; omega), t.same b hb h1 h3]
  · have e := k.same a.block (by have := t.size; rw [ha]; omega) (fun e => by have := ho _ e.symm; rw [ha] at this; omega)
    have := t.root a ha hr
    unfold cell? frozen? at this ⊢
    rw [e]
    exact this
theorem own_take {s : Sl} {xs : List Int} {d : Nat} (o : Own toI 0 h s xs) (hd : d ≤ xs.length) : Own toI 0 h ⟨s.a, d, s.cap⟩ (xs.take d) := by
  have hc := o.r.cap
  have hl := o.r.len
  refine ⟨R.sub o.r rfl rfl hd (by dsimp only; omega), ?_⟩
  rcases o.own with g | ⟨b, c, T, g1, g2, g3, g4⟩
  · exact .inl g
  · exact .inr ⟨b, c, T, g1, g2, g3, g4⟩
theorem sliceTake {s : Sl} {xs : List Int} {d : Nat} {k : Sl → Prop} (o : Own toI 0 h s xs) (hd : d ≤ xs.length) (K : k ⟨s.a, d, s.cap⟩) : sliceOf s none (some (d : Int)) none 1 k := by
  have hc := o.r.cap
  have hl := o.r.len
  refine ⟨⟨by simp, by simp⟩, ⟨by simp, .inr (by simp; omega)⟩, ⟨by simp, by simp⟩, ?_⟩
  simp only [Option.getD_none, Option.getD_some, Int.toNat_natCast, Int.toNat_zero, Nat.zero_mul, Nat.sub_zero]
  have e : (if (s.cap : Int) = 0 then s.a else s.a.map (·.add 0)) = s.a := by
    split
    · rfl
    · rcases o.own with ⟨g, _⟩ | ⟨b, c, T, g1, _⟩
      · rw [g]; rfl
      · rw [g1]
        simp only [Option.map_some]
        rw [addr_add _ _ rfl]
  rw [e]
  exact K
theorem own_drop {s : Sl} {xs : List Int} {b d : Nat} (r : R toI h s xs) (ha : s.a = some ⟨b, 0, none⟩) (hd : d < xs.length) : R toI h ⟨some ⟨b, d, none⟩, s.len - d, s.cap - d⟩ (xs.drop d) := by
  have hl := r.len
  have hc := r.cap
  refine R.mk' (by simp [hl]) (by dsimp only; omega) _ rfl fun i hi => ?_
  simp only [List.length_drop] at hi
  obtain ⟨a1, e1, e2⟩ := r.get (i := d + i) (by omega)
  rw [ha] at e1; cases e1
  rw [addr_add _ _ rfl] at e2 ⊢
  simp only [Nat.zero_add] at e2
  rw [List.getElem_drop]
  exact e2
theorem root_tra {nxt : Nat} {s : Sl} : ∀ i, i < 8 → (if i = 5 then Sl.toV s else rootV x nxt i) = rootV (upd x .tra s) nxt i := by
  intro i hi
  match i, hi with
  | 0, _ => simp only [rootV]; rw [upd_ne (by simp)]; rfl
  | 1, _ => simp only [rootV]; rw [upd_ne (by simp)]; rfl
  | 2, _ => simp only [rootV]; rw [upd_ne (by simp)]; rfl
  | 3, _ => simp only [rootV]; rw [upd_ne (by simp)]; rfl
  | 4, _ => simp only [rootV]; rw [upd_ne (by simp)]; rfl
  | 5, _ => simp only [rootV]; rw [upd_at]; rfl
  | 6, _ => simp only [rootV]; rw [upd_ne (by simp)]; rfl
  | 7, _ => rfl
theorem root_hea {nxt : Nat} {s : Sl} : ∀ i, i < 8 → (if i = 6 then Sl.toV s else rootV x nxt i) = rootV (upd x .hea s) nxt i := by
  intro i hi
  match i, hi with
  | 0, _ => simp only [rootV]; rw [upd_ne (by simp)]; rfl
  | 1, _ => simp only [rootV]; rw [upd_ne (by simp)]; rfl
  | 2, _ => simp only [rootV]; rw [upd_ne (by simp)]; rfl
  | 3, _ => simp only [rootV]; rw [upd_ne (by simp)]; rfl
  | 4, _ => simp only [rootV]; rw [upd_ne (by simp)]; rfl
  | 5, _ => simp only [rootV]; rw [upd_ne (by simp)]; rfl
  | 6, _ => simp only [rootV]; rw [upd_at]; rfl
  | 7, _ => rfl
theorem upd_blk {i : Nm} {s : Sl} (hb : ∀ b, s.blk = some b → (x i).blk = some b) : ∀ j b, (upd x i s j).blk = some b → ∃ m, (x m).blk = some b := fun j b hj => by
  by_cases e : j = i
  · subst e; rw [upd_at] at hj; exact ⟨j, hb b hj⟩
  · rw [upd_ne e] at hj; exact ⟨j, hj⟩
theorem SM.cutTra (q : SM h p x vs S) {s : Sl} {l : List Int} {k : Heap → Prop} (o : Own toI 0 h s l) (hb : ∀ b, s.blk = some b → (x .tra).blk = some b) (K : ∀ h' vs', SM h' p (upd x .tra s) vs' { S with tra := l } → To p 8 h x h' (upd x .tra s) → k h') : Lift.store (p.add 5) (Sl.toV s) h k := by
  refine ⟨⟨_, (q.root 5 (by decide)).1⟩, (q.root 5 (by decide)).2, ?_⟩
  have ns1 := q.ns.put .tra (s' := s) (l' := l.map toI) (Keep.refl _ _) (by rw [show Nm.sc .tra = 1 from rfl, Sl.sc_one]; exact OwnV.of one_toI o) (fun b e => .inl (hb b e))
  have pn1 : ∀ i, (upd x .tra s i).blk ≠ some p.block := fun i e => by obtain ⟨m, hm⟩ := upd_blk hb i _ e; exact q.pn m hm
  have k2 := Keep.setCell h (p.add 5) (Sl.toV s)
  rw [addr_add_block] at k2
  refine K _ _ ⟨ns1.keep k2 (fun i b hb e => pn1 i (by rw [hb, e])), q.spot, ?_, pn1, q.enc.setTra s _⟩ ((To.names (upd_blk hb)).trans (To.set q.spot (by decide)))
  intro i hi
  have := q.root.set q.spot (i := 5) (by decide) (Sl.toV s) i hi
  exact ⟨this.1.trans (congrArg some (root_tra i hi)), this.2⟩
theorem SM.cutHea (q : SM h p x vs S) {s : Sl} {l : List Int} {k : Heap → Prop} (o : Own toI 0 h s l) (hb : ∀ b, s.blk = some b → (x .hea).blk = some b) (K : ∀ h' vs', SM h' p (upd x .hea s) vs' { S with hea := l } → To p 8 h x h' (upd x .hea s) → k h') : Lift.store (p.add 6) (Sl.toV s) h k := by
  refine ⟨⟨_, (q.root 6 (by decide)).1⟩, (q.root 6 (by decide)).2, ?_⟩
  have ns1 := q.ns.put .hea (s' := s) (l' := l.map toI) (Keep.refl _ _) (by rw [show Nm.sc .hea = 1 from rfl, Sl.sc_one]; exact OwnV.of one_toI o) (fun b e => .inl (hb b e))
  have pn1 : ∀ i, (upd x .hea s i).blk ≠ some p.block := fun i e => by obtain ⟨m, hm⟩ := upd_blk hb i _ e; exact q.pn m hm
  have k2 := Keep.setCell h (p.add 6) (Sl.toV s)
  rw [addr_add_block] at k2
  refine K _ _ ⟨ns1.keep k2 (fun i b hb e => pn1 i (by rw [hb, e])), q.spot, ?_, pn1, q.enc.setHea s _⟩ ((To.names (upd_blk hb)).trans (To.set q.spot (by decide)))
  intro i hi
  have := q.root.set q.spot (i := 6) (by decide) (Sl.toV s) i hi
  exact ⟨this.1.trans (congrArg some (root_hea i hi)), this.2⟩
def bkS (S : SS) (d m : Nat) : SS := { S with val := rst 0 ((S.tra.drop d).drop m) S.val, lev := rst 0 ((S.tra.drop d).drop m) S.lev, rea := rst (-1) ((S.tra.drop d).drop m) S.rea }
structure BK (h hq hh : Heap) (p : Addr) (x : Nm → Sl) (S : SS) (d m : Nat) (s0 out c0 : Addr) (v7 : Sl) : Prop where
  q : ∃ vs, SM hh p x vs (bkS S d m)
  to : To p 8 h x hh x
  sz : hq.size ≤ hh.size
  cs : cell? hh s0 = some (Value.pointer (some p))
  cc : cell? hh c0 = some (Sl.toV v7)
  co : ∃ o ys, cell? hh out = some (Sl.toV o) ∧ Own toI hq.size hh o ys ∧ ys.length ≤ S.tra.length - m
  fo : frozen? hh out = false
theorem Back_spec {k d : Nat} {Q : Sl → Heap → Prop} (q : SM h p x vs S) (b : BackP n S k d) (hn1 : n ≤ 1000) (K : ∀ h' x' vs' r, SM h' p x' vs' (backS S k d) → To p 8 h x h' x' → Q r h') : clause_Back (some p) (k : Int) h Q := by
  have t := b.t
  have hn := t.nb
  have hdl := b.dle
  have hk := b.hk
  have htl := t.tlen
  have hx : ∀ {b : Nat}, h.size ≤ b → Out p x b := fun {b} hb => ⟨fun e => by have := q.plt; omega, fun i e => by have := q.ns.lt e; omega⟩
  intro T1 T2
  generalize hA : h.push (.cells [Value.pointer (some p)].toArray T1 (0, 0)) = h1
  have e1 : Ext h h1 := by rw [← hA]; exact Ext.push _ _
  have c1 : cell? h1 ⟨h.size, 0, none⟩ = some (Value.pointer (some p)) := by rw [← hA]; exact cell_push_new _ _ _ _ _
  have s1 : h1.size = h.size + 1 := by rw [← hA]; simp
  clear hA
  generalize hB : h1.push (.cells [Sl.toV Sl.nil].toArray T2 (0, 0)) = h2
  have e2 : Ext h1 h2 := by rw [← hB]; exact Ext.push _ _
  have c2 : cell? h2 ⟨h1.size, 0, none⟩ = some (Sl.toV Sl.nil) := by rw [← hB]; exact cell_push_new _ _ _ _ _
  have f2 : frozen? h2 ⟨h1.size, 0, none⟩ = false := by rw [← hB]; unfold frozen?; simp
  have s2 : h2.size = h1.size + 1 := by rw [← hB]; simp
  clear hB
  intro lv hlv
  have hlv : lv = (k : Int) := by rw [hlv]; split <;> omega
  subst hlv
  have q2 := (q.ext e1).ext e2
  have w2 := cell_keep e2 c1 (by simp)
  refine ⟨_, w2, q2.ld6 ⟨fun g => ?_, fun _ => ?_⟩⟩
  · have g := of_decide_eq_true g
    rw [q2.hea.r.len] at g
    omega
  refine ⟨_, w2, q2.ld6 ?_⟩
  refine RJ.ld q2.hea.r (j := k) rfl hk ?_
  rw [at_atI, b.hd]
  refine ⟨_, w2, q2.ld5 ?_⟩
  obtain ⟨bt, hbt, _, hbt2⟩ := ownAt q2.tra (fun e => by rw [e] at hdl; simp at hdl)
  have hxl := q2.tra.r.len
  refine sliceCut (j := d) hbt q2.tra.r.cap (by omega) ?_
  intro T3
  generalize hC : h2.push (.cells [Sl.toV ⟨some ⟨bt, d, none⟩, (x .tra).len - d, (x .tra).cap - d⟩].toArray T3 (0, 0)) = h3
  have e3 : Ext h2 h3 := by rw [← hC]; exact Ext.push _ _
  have c3 : cell? h3 ⟨h2.size, 0, none⟩ = some (Sl.toV ⟨some ⟨bt, d, none⟩, (x .tra).len - d, (x .tra).cap - d⟩) := by rw [← hC]; exact cell_push_new _ _ _ _ _
  have s3 : h3.size = h2.size + 1 := by rw [← hC]; simp
  clear hC
  refine ⟨_, rfl, mem_ext fun h4 e4 => ?_⟩
  have s4 := e4.size
  have q4 := (q2.ext e3).ext e4
  have e04 := ((e1.trans e2).trans e3).trans e4
  have nil7 : (S.tra.drop d).drop ((x .tra).len - d) = [] := List.drop_eq_nil_of_le (by rw [List.length_drop]; omega)
  have I0 : BK h h4 h4 p x S d ((x .tra).len - d) ⟨h.size, 0, none⟩ ⟨h1.size, 0, none⟩ ⟨h2.size, 0, none⟩ ⟨some ⟨bt, d, none⟩, (x .tra).len - d, (x .tra).cap - d⟩ := {
    q := ⟨vs, by unfold bkS; rw [nil7]; exact q4⟩
    to := q.toExt e04
    sz := Nat.le_refl _
    cs := cell_keep (e3.trans e4) w2 (by simp)
    cc := cell_keep e4 c3 (by simp)
    co := ⟨Sl.nil, [], cell_keep (e3.trans e4) c2 (by simp), Own.nil, by simp⟩
    fo := frozen_keep (e3.trans e4) (by show h1.size < _; omega) f2 (by simp) }
  refine backL_inv (cell_keep e4 c3 (by simp)) (fun m hh => BK h h4 hh p x S d m ⟨h.size, 0, none⟩ ⟨h1.size, 0, none⟩ ⟨h2.size, 0, none⟩ ⟨some ⟨bt, d, none⟩, (x .tra).len - d, (x .tra).cap - d⟩) I0 (by dsimp only; omega) (fun m hh J hm I hJ => ?_) (fun hh I => ?_)
  · obtain ⟨vs5, q5⟩ := I.q
    dsimp only at hm
    have hmd : d + m < S.tra.length := by omega
    have hmd2 : m < (S.tra.drop d).length := by rw [List.length_drop]; omega
    refine ⟨_, I.cc, ?_⟩
    refine RJ.ld (own_drop (q5.tra.r) hbt (by show d < S.tra.length; omega)) (j := m) rfl (by show m < (S.tra.drop d).length; exact hmd2) ?_
    have el : at0 ((bkS S d (m + 1)).tra.drop d) m = (S.tra.drop d)[m] := at_get hmd2
    rw [el]
    have hmem : (S.tra.drop d)[m] ∈ S.tra := List.mem_of_mem_drop (List.getElem_mem hmd2)
    have hth := (t.tt _ hmem).1
    have hht := hth.tr
    have edr : (S.tra.drop d).drop m = (S.tra.drop d)[m] :: (S.tra.drop d).drop (m + 1) := List.drop_eq_getElem_cons hmd2
    generalize hl0 : (S.tra.drop d)[m] = l at *
    refine truth_spec hth hn ?_
    refine ⟨_, I.cs, q5.ld2 ⟨_, I.cs, q5.ld3 ⟨_, I.cs, q5.ld4 ?_⟩⟩⟩
    have l1 : (rst 0 ((S.tra.drop d).drop (m + 1)) S.val).length = n := by rw [rst_len, t.vn]
    have l2 : (rst 0 ((S.tra.drop d).drop (m + 1)) S.lev).length = n := by rw [rst_len, t.ln]
    have l3 : (rst (-1) ((S.tra.drop d).drop (m + 1)) S.rea).length = n := by rw [rst_len, t.rn]
    refine q5.stI (nm := .val) rfl q5.enc.val (j := tr l) rfl (by show _ < (rst 0 _ S.val).length; omega) (q5.enc.setVal _) rfl fun h6 q6 t6 => ?_
    refine q6.stI (nm := .lev) rfl q6.enc.lev (j := tr l) rfl (by show _ < (rst 0 _ S.lev).length; omega) (q6.enc.setLev _) rfl fun h7 q7 t7 => ?_
    refine q7.stI (nm := .rea) rfl q7.enc.rea (j := tr l) rfl (by show _ < (rst (-1) _ S.rea).length; omega) (q7.enc.setRea _) rfl fun h8 q8 t8 => ?_
    have t58 := t6.trans (t7.trans t8)
    have to8 := I.to.trans t58
    have out5 : ∀ {b : Nat}, h.size ≤ b → Out p x b := hx
    obtain ⟨o, ys, co, oo, hys⟩ := I.co
    have sz8 := t58.size
    have szh := I.sz
    have co8 := t58.cell co (out5 (by show h.size ≤ h1.size; omega))
    have fo8 := t58.frozen (cell_lt co) I.fo (out5 (by show h.size ≤ h1.size; omega))
    have oo8 : Own toI h4.size h8 o ys := by
      refine ⟨R.to oo.r t58 (fun b hb => out5 (by have := (oo.lt hb).1; have := e04.size; omega)), ?_⟩
      rcases oo.own with g | ⟨b', c, T, g1, g2, g3, g4⟩
      · exact .inl g
      · refine .inr ⟨b', c, T, g1, g2, ?_, g4⟩
        have ob := out5 (b := b') (by have := e04.size; omega)
        rw [t58.same b' (Array.getElem?_eq_some_iff.1 g3).1 ob.1 ob.2]; exact g3
    refine ⟨o, co8, ?_⟩
    refine push1 oo8 (by omega) (by omega) fun o' h9 oo9 k9 hbk => ?_
    have ob9 : ∀ b, o.blk = some b → h4.size ≤ b := fun b hb => (oo8.lt hb).1
    have co9 := cell_keep k9 co8 (fun e => by have := ob9 _ e.symm; dsimp only at this; omega)
    have fo9 := frozen_keep k9 (cell_lt co8) fo8 (fun e => by have := ob9 _ e.symm; dsimp only at this; omega)
    have q9 := q8.keepO k9 (fun b hb => out5 (by have := ob9 b hb; have := e04.size; omega))
    have to9 := to8.fresh k9 (fun b hb => by have := ob9 b hb; have := e04.size; omega) q.plt
    have sz9 := k9.size
    have k10 := Keep.setCell h9 ⟨h1.size, 0, none⟩ (Sl.toV o')
    have Q10 : ∃ vs, SM (setCell h9 ⟨h1.size, 0, none⟩ (Sl.toV o')) p x vs (bkS S d m) := by
      have q10 := q9.keepO k10 (fun b hb => out5 (by cases hb; show h.size ≤ h1.size; omega))
      have e : ({ ({ ({ bkS S d (m + 1) with val := (bkS S d (m + 1)).val.set (tr l) 0 } : SS) with lev := ({ bkS S d (m + 1) with val := (bkS S d (m + 1)).val.set (tr l) 0 } : SS).lev.set (tr l) 0 } : SS) with rea := ({ ({ bkS S d (m + 1) with val := (bkS S d (m + 1)).val.set (tr l) 0 } : SS) with lev := ({ bkS S d (m + 1) with val := (bkS S d (m + 1)).val.set (tr l) 0 } : SS).lev.set (tr l) 0 } : SS).rea.set (tr l) (-1) } : SS) = bkS S d m := by
        unfold bkS
        rw [edr]
        rfl
      rw [← e]
      exact ⟨_, q10⟩
    refine ⟨⟨_, co9⟩, fo9, hJ _ ?_⟩
    have n0 : ∀ j, j < h4.size → ∀ b, o.blk = some b → b ≠ j := fun j hj b hb e => by have := ob9 b hb; omega
    refine ⟨Q10, to9.fresh k10 (fun b hb => by cases hb; show h.size ≤ h1.size; omega) q.plt, by have := k10.size; omega, ?_, ?_, ⟨o', _, cell_set_same co9, oo9.keep k10 (fun b hb e => by have := (oo9.lt hb).1; have e := Option.some.inj e; dsimp only at e; omega), by simp; omega⟩, by rw [frozen_set]; exact fo9⟩
    · refine cell_keep k10 (cell_keep k9 (t58.cell I.cs (out5 (Nat.le_refl _))) (fun e => by have := ob9 _ e.symm; dsimp only at this; omega)) (fun e => by have := Option.some.inj e; dsimp only at this; omega)
    · refine cell_keep k10 (cell_keep k9 (t58.cell I.cc (out5 (by show h.size ≤ h2.size; omega))) (fun e => by have := ob9 _ e.symm; dsimp only at this; omega)) (fun e => by have := Option.some.inj e; dsimp only at this; omega)
  · obtain ⟨vs5, q5⟩ := I.q
    have e5 : bkS S d 0 = { S with val := rst 0 (S.tra.drop d) S.val, lev := rst 0 (S.tra.drop d) S.lev, rea := rst (-1) (S.tra.drop d) S.rea } := by unfold bkS; rw [List.drop_zero]
    rw [e5] at q5
    refine ⟨_, I.cs, _, I.cs, _, I.cs, q5.ld5 ?_⟩
    refine sliceTake q5.tra (by show d ≤ S.tra.length; omega) ⟨_, I.cs, q5.ld6 ?_⟩
    refine sliceTake q5.hea (by show k ≤ S.hea.length; omega) ⟨p, rfl, ?_⟩
    refine q5.cutTra (own_take q5.tra (by show d ≤ S.tra.length; omega)) (fun b hb => hb) fun h6 vs6 q6 t6 => ?_
    have outS : Out p x h.size := hx (Nat.le_refl _)
    have outS6 : Out p (upd x .tra ⟨(x .tra).a, d, (x .tra).cap⟩) h.size := t6.out (by have := cell_lt I.cs; exact this) outS
    refine ⟨t6.cell I.cs outS, p, rfl, ?_⟩
    have o6 := own_take q6.hea (show k ≤ S.hea.length by omega)
    have eh : (upd x .tra ⟨(x .tra).a, d, (x .tra).cap⟩) .hea = x .hea := upd_ne (by simp)
    rw [eh] at o6
    refine q6.cutHea o6 (fun b hb => by rw [eh]; exact hb) fun h7 vs7 q7 t7 => ?_
    have cs7 := t7.cell (t6.cell I.cs outS) outS6
    refine ⟨_, cs7, _, cs7, q7.ld7 ?_⟩
    have enx : (if (d : Int) < (S.nxt : Int) then (d : Int) else (S.nxt : Int)) = ((min d S.nxt : Nat) : Int) := by split <;> omega
    refine q7.setNxt enx fun h8 q8 t8 => ?_
    have t08 := I.to.trans (t6.trans (t7.trans t8))
    have t58 := t6.trans (t7.trans t8)
    obtain ⟨o, ys, co, oo, hys⟩ := I.co
    have outO : Out p x h1.size := hx (by omega)
    have co8 := t58.cell co outO
    have fo8 := t58.frozen (cell_lt co) I.fo outO
    refine ⟨o, co8, ⟨_, co8⟩, fo8, o, cell_set_same co8, ?_⟩
    have k9 := Keep.setCell h8 ⟨h1.size, 0, none⟩ (Sl.toV o)
    have outE : Out p (upd (upd x .tra ⟨(x .tra).a, d, (x .tra).cap⟩) .hea ⟨(x .hea).a, k, (x .hea).cap⟩) h1.size := t58.out (cell_lt co) outO
    refine K _ _ _ o (q8.keepO k9 fun b hb => by cases hb; exact outE) (t08.fresh k9 (fun b hb => by cases hb; show h.size ≤ h1.size; omega) q.plt)
end Go.Sh
