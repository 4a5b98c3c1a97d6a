/-
  Laws that the proof of this claim's statement leans on, each proved under the conditions that it states.
-/
import Derived.Test.YtkjcocjkcjmafaaSpM
import Derived.Test.YtkjcocjkcjmafaaSpJ
import Derived.Test.YtkjcocjkcjmafaaSpG
set_option linter.unusedVariables false
set_option linter.unusedSimpArgs false
namespace Go.Sh
open Go Go.Lift Go.Cla
variable {h h' : Heap} {p : Addr} {x x' : Nm → Sl} {vs vs' : Nm → List Value} {S S1 S2 S4 : SS} {n : Nat} {nx : Int}
theorem Decide_any {l : Int} {Q : Bool → Heap → Prop} (q : SM h p x vs S) (a : Ask n S) (hx : S.nxt = S.tra.length) (hh : S.hea.length < 1000000)
    (K0 : ∀ h', Ext h h' → Q false h') (K1 : There n l → vl S.val l = 0 → ∀ h' x' vs', SM h' p x' vs' (decS S l) → Ask n (decS S l) → To p 8 h x h' x' → Q true h') : clause_Decide (some p) l h Q := by
  have t := a.t
  have hn := t.nb
  have hvn := t.vn
  refine seq.cut (fun (b : Bool) h1 => Ext h h1 ∧ (b = false → There n l ∧ vl S.val l = 0)) ?_ ?_
  · refine q.there (by omega) ⟨fun g => ⟨Keep.refl _ _, nofun⟩, fun g => ?_⟩
    have hth : There S.val.length l := by simpa using g
    refine q.value (by omega) t.tri fun h1 e1 => ⟨e1, fun hb => ⟨by rw [← hvn]; exact hth, by simpa using hb⟩⟩
  rintro b h1 ⟨e1, hb⟩
  refine ⟨fun _ => K0 h1 e1, fun hbf => ?_⟩
  obtain ⟨hth, hv⟩ := hb hbf
  have q1 := q.ext e1
  refine q1.ld6 (q1.ld5 ?_)
  rw [q1.tra.r.len]
  refine newJ fun h2 hr e2 _ => ?_
  have q2 := q1.ext e2
  refine ⟨(q2.root 6 (by decide)).1, ?_⟩
  refine q2.pushHea hr (by omega) fun h3 x3 vs3 q3 t3 => ?_
  have a1 := a.level hx (by omega)
  have b1 : Bnd (lvS S) := a1.t.bnd a1.w (fun w => Nat.le_refl _)
  refine put_spec q3 b1 (by show There S.val.length l; rw [hvn]; exact hth) (by show S.lev.length = S.val.length; rw [t.ln, t.vn]) (by show S.rea.length = S.val.length; rw [t.rn, t.vn]) fun h4 x4 vs4 q4 t4 => ?_
  exact K1 hth hv h4 x4 vs4 q4 (a1.tell hth hv) ((q.toExt e1).trans ((q1.toExt e2).trans (t3.trans t4)))
theorem rFalse_spec {s u : Sl} {V ls : List Int} {Q : Bool → Heap → Prop} (hV : RJ h s V) (hr : RJ h u ls) (hn : V.length ≤ 1048576) (ht : Tri V) (hl : ls.length ≤ 1000000) (hf : ∀ l ∈ ls, vl V l = -1) (K : Q true h) : ref18uFalse s u h Q := by
  have hlen := hr.len
  refine loop.inv (fun (t : Int) hh => ∃ i : Nat, t = (i : Int) ∧ i ≤ ls.length ∧ hh = h) (fun t _ => ls.length - t.toNat) ⟨0, rfl, by omega, rfl⟩ ?_
  rintro t hh ⟨i, rfl, hi, rfl⟩
  refine ⟨fun g => ?_, fun _ => K⟩
  have g := of_decide_eq_true g
  have hi2 : i < ls.length := by omega
  refine RJ.ld hr (j := i) rfl hi2 ?_
  have e : at0 ls i = ls[i] := at_get hi2
  rw [e]
  have hv := hf _ (List.getElem_mem hi2)
  refine rValue_spec hV hn (vl_there (by omega)) (ht.at _) ?_
  rw [hv]
  refine ⟨fun g => by simp at g, fun _ => ?_⟩
  intro k hk
  subst hk
  rw [w64 (by omega) (by omega)]
  exact ⟨⟨i + 1, by omega, by omega, rfl⟩, by omega⟩
theorem mem_less {A : Nat → Bool} {v : Nat} (hlev : ∀ v, v < S.val.length → atI S.lev v ≤ (S.hea.length : Int)) : v ∈ lessF S A ↔ v < S.val.length ∧ A v = true := by
  have hs := secF_spec (S := S) A S.val.length
  unfold lessF headF restF
  simp only [List.mem_append, List.mem_filter, List.mem_range, Bool.and_eq_true, beq_iff_eq, decide_eq_true_eq]
  constructor
  · rintro ((⟨h1, h2, _⟩ | h) | ⟨h1, ⟨h2, _⟩, _⟩)
    · exact ⟨h1, h2⟩
    · rcases hs with ⟨e, _⟩ | ⟨s, hs1, e, hs2, _⟩
      · rw [if_neg (by omega)] at h; cases h
      · rw [if_pos (by omega), e] at h
        have : v = s := by simpa using h
        subst this; exact ⟨hs1, hs2⟩
    · exact ⟨h1, h2⟩
  · rintro ⟨h1, h2⟩
    have hle := hlev v h1
    by_cases e : atI S.lev v = (S.hea.length : Int)
    · exact .inl (.inl ⟨h1, h2, e⟩)
    · by_cases e2 : (v : Int) = secF S A S.val.length
      · refine .inl (.inr ?_)
        rw [if_pos (by omega), ← e2]; simp
      · exact .inr ⟨h1, ⟨h2, by omega⟩, e2⟩
theorem less_nodup {A : Nat → Bool} : (lessF S A).Nodup := by
  have hs := secF_spec (S := S) A S.val.length
  unfold lessF
  rw [List.nodup_append, List.nodup_append]
  refine ⟨⟨List.nodup_range.filter _, by split <;> simp, fun a ha b hb e => ?_⟩, List.nodup_range.filter _, fun a ha b hb e => ?_⟩
  · subst e
    unfold headF at ha
    simp only [List.mem_filter, List.mem_range, Bool.and_eq_true, beq_iff_eq] at ha
    rcases hs with ⟨e, _⟩ | ⟨s, hs1, e, hs2, hs3, _⟩
    · rw [if_neg (by omega)] at hb; cases hb
    · rw [if_pos (by omega), e] at hb
      have : a = s := by simpa using hb
      subst this; omega
  · subst e
    unfold restF at hb
    simp only [List.mem_filter, List.mem_range, Bool.and_eq_true, decide_eq_true_eq] at hb
    rcases List.mem_append.1 ha with ha | ha
    · unfold headF at ha
      simp only [List.mem_filter, List.mem_range, Bool.and_eq_true, beq_iff_eq] at ha
      omega
    · rcases hs with ⟨e, _⟩ | ⟨s, hs1, e, _⟩
      · rw [if_neg (by omega)] at ha; cases ha
      · rw [if_pos (by omega), e] at ha
        have : a = s := by simpa using ha
        subst this
        exact hb.2.2 e.symm
structure CB (n : Nat) (S1 S : SS) (j : Nat) : Prop where
  t : Tok n S
  w : Wok n S S.wt
  g : GS S
  pr : Proc S (S.nxt - 1) none2
  hd : ∀ hd ∈ S.hea, hd ≤ ((S.nxt - 1 : Nat) : Int)
  f : FalseC S.val (S.cl j).lits
  hj : j < S.cls.length
  hea : S.hea = S1.hea ++ [(S1.tra.length : Int)]
  pre : ∃ l u, S.tra = S1.tra ++ l :: u
  cn : S.cls.length = S1.cls.length
  sl : ∀ i, i < S1.cls.length → ∀ m, m ∈ (S.cl i).lits ↔ m ∈ (S1.cl i).lits
  rs : ∀ q, S1.tra.length < q → q < S.tra.length → atI S.rea (tr (tl S q)) ≠ -1
  st1 : ∀ c, C0 S1 c → Stand S1.val c
  t1 : Tok n S1
theorem CB.of {l : Int} {j : Nat} {u : Int} (a1 : Ask n S1) (g1 : GS S1) (x1 : S1.nxt = S1.tra.length) (hh : S1.hea.length < 1000000) (st1 : ∀ c, C0 S1 c → Stand S1.val c) (th : There n l) (un : vl S1.val l = 0) (r : RI n (decS S1 l) S) (b : Bad n S j) (hj : j < S.cls.length) (hu : 0 ≤ u) : CB n S1 (setU S j u) j := by
  have a2 : Ask n (decS S1 l) := (a1.level x1 (by omega)).tell th un
  have g : GS S := (g1.dec a1.t th un).run r a2.t
  have hlen : (setU S j u).cls.length = S.cls.length := by show (S.cls.set _ _).length = _; simp
  have aA : Ask n { S with nxt := S.nxt - 1 } := ⟨{ nb := b.t.nb, vn := b.t.vn, ln := b.t.ln, rn := b.t.rn, wn := b.t.wn, tri := b.t.tri, cn := b.t.cn, fit := b.t.fit, tt := b.t.tt, tn := b.t.tn, tv := b.t.tv, nx := by show S.nxt - 1 ≤ S.tra.length; have := b.t.nx; omega, hn := b.t.hn }, b.w.same rfl, b.p, b.hd⟩
  have aC := aA.cls (cs := (setU S j u).cls) hlen (fun i => setU_cl S j u i)
  obtain ⟨u2, hu2⟩ := r.pre
  have eT : (decS S1 l).tra = S1.tra ++ [l] := rfl
  rw [eT, List.append_assoc] at hu2
  exact {
    t := { nb := aC.t.nb, vn := aC.t.vn, ln := aC.t.ln, rn := aC.t.rn, wn := aC.t.wn, tri := aC.t.tri, cn := aC.t.cn, fit := aC.t.fit, tt := aC.t.tt, tn := aC.t.tn, tv := aC.t.tv, nx := b.t.nx, hn := aC.t.hn }
    w := aC.w.same rfl
    g := g.setU hu
    pr := aC.p
    hd := b.hd
    f := by rw [setU_cl]; exact b.f
    hj := by rw [hlen]; exact hj
    hea := r.hea
    pre := ⟨l, u2, hu2⟩
    cn := hlen.trans r.cl
    sl := fun i hi m => by rw [setU_cl]; exact r.sl i hi m
    rs := fun q h1 h2 => by
      obtain ⟨i, _, e, _⟩ := r.why.rs q (by rw [eT]; simp; omega) h2
      show atI S.rea (tr (atI S.tra q)) ≠ -1
      rw [e]; omega
    st1 := st1
    t1 := a1.t }
section
variable {j : Nat}
theorem CB.right (c : CB n S1 S j) : RightS S S.nxt := right_of c.t c.w c.g
theorem CB.hlen (c : CB n S1 S j) : S.hea.length = S1.hea.length + 1 := by rw [c.hea]; simp
theorem CB.last (c : CB n S1 S j) : atI S.hea S1.hea.length = (S1.tra.length : Int) := by rw [c.hea]; exact tl_last _ _
theorem CB.tlen (c : CB n S1 S j) : S1.tra.length < S.tra.length := by obtain ⟨l, u, h⟩ := c.pre; rw [h]; simp
theorem CB.tlO (c : CB n S1 S j) {i : Nat} (hi : i < S1.tra.length) : tl S i = tl S1 i := by obtain ⟨l, u, h⟩ := c.pre; unfold tl; rw [h]; exact tl_app _ _ hi
theorem CB.lev (c : CB n S1 S j) {q : Nat} (hq : q < S.tra.length) : atI S.lev (tr (tl S q)) = (S.hea.length : Int) ↔ S1.tra.length ≤ q := by
  obtain ⟨k, hk, e⟩ := c.g.lev q hq
  have hl := c.hlen
  have hla := c.last
  rw [e]
  constructor
  · intro h
    have := hk.2.1 S1.hea.length (by omega)
    rw [hla] at this
    omega
  · intro h
    have h1 := hk.1
    refine Classical.byContradiction fun hne => ?_
    have h2 := hk.2.2 (by omega)
    have : atI S.hea k ≤ (S1.tra.length : Int) := by
      rw [← hla]
      by_cases e2 : k = S1.hea.length
      · rw [e2]; exact Int.le_refl _
      · exact Int.le_of_lt (hea_mono c.g (by omega) (by omega))
    omega
theorem CB.ready (c : CB n S1 S j) : Ready S (S.cl j).lits := by
  have R := c.right
  have F := c.t.fit j c.hj
  have hn : S.val.length ≤ 1048576 := by rw [c.t.vn]; exact c.t.nb
  have hth : ∀ m ∈ (S.cl j).lits, There S.val.length m := fun m hm => by rw [c.t.vn]; exact F.1 m hm
  have hl := c.hlen
  refine ⟨c.f, F.2.1, by omega, ?_⟩
  refine Int.le_antisymm (foldM_le _ _ (by omega) fun m hm => ?_) ?_
  · rw [lvI_there R (hth m hm) hn]
    exact (R.lev_le' (hth m hm).tr).2
  · refine Classical.byContradiction fun hlt => ?_
    -- then all its literals were told false before the decision
    have hall : FalseC S1.val (S1.cl j).lits := by
      intro m hm1
      have hm := (c.sl j (by rw [← c.cn]; exact c.hj) m).2 hm1
      have hv := c.f m hm
      obtain ⟨q, hq, e⟩ := mem_at ((c.t.vlf_iff).1 hv)
      have hq1 : q < S1.tra.length := by
        refine Classical.byContradiction fun hge => hlt ?_
        have h1 := (c.lev hq).2 (by omega)
        have e1 : tr (tl S q) = tr m := by show tr (atI S.tra q) = _; rw [e, tr_neg]
        rw [e1] at h1
        have h2 := (foldM_ge (S := S) (S.cl j).lits 0).2 m hm
        rw [lvI_there R (hth m hm) hn, h1] at h2
        exact h2
      refine (c.t1.vlf_iff).2 ?_
      have : tl S1 q = - m := by rw [← c.tlO hq1]; exact e
      rw [← this]
      exact at_mem hq1
    rcases c.st1 _ ⟨j, by rw [← c.cn]; exact c.hj, rfl⟩ with ⟨l, hl1, hv⟩ | ⟨l, hl1, m, hm, hne, hv1, hv2⟩
    · have := hall l hl1; omega
    · have := hall l hl1; omega
theorem CB.lesson (c : CB n S1 S j) : ∃ st, lesson S (S.cl j).lits = some st := by
  have R := c.right
  have hn : S.val.length ≤ 1048576 := by rw [c.t.vn]; exact c.t.nb
  unfold Sh.lesson
  rw [if_pos c.ready]
  refine runW_some R (fun i hi h1 h2 q hq h3 => ?_) (st0uinv R hn c.ready) (Nat.le_refl _)
  have hi1 := (c.lev hi).1 h1
  have hq1 := (c.lev (by omega)).1 h3
  exact c.rs i (by omega) hi h2
theorem CB.backs (c : CB n S1 S j) {st : AE} (hst : Sh.lesson S (S.cl j).lits = some st) : ∃ k d : Nat, levF S st.A = (k : Int) ∧ BackP n S k d ∧ Ask n (backS S k d) ∧ GS (backS S k d) ∧ (backS S k d).nxt = (backS S k d).tra.length ∧
    ∃ u, atI S.lev u = (S.hea.length : Int) ∧ st.A u = true ∧ headF S st.A = [u] ∧ vl (backS S k d).val (nl S u) = 0 ∧ (∀ v ∈ lessF S st.A, v ≠ u → vl (backS S k d).val (nl S v) = -1) := by
  have R := c.right
  have hn : S.val.length ≤ 1048576 := by rw [c.t.vn]; exact c.t.nb
  have L := lesson_p R hn hst
  obtain ⟨u, hu, hlu, hone⟩ := L.one
  have hAn : ∀ v, st.A v = true → v < S.val.length ∧ 0 < atI S.lev v := fun v hv => L.inn v (L.sub v hv)
  have hlevs : ∀ v, v < S.val.length → atI S.lev v ≤ (S.hea.length : Int) := fun v hv => (R.lev_le' hv).2
  have hl := c.hlen
  have hsec := secF_spec (S := S) st.A S.val.length
  have hk : ∃ k : Nat, levF S st.A = (k : Int) ∧ k < S.hea.length ∧ ∀ v ∈ lessF S st.A, v ≠ u → atI S.lev v ≤ (k : Int) := by
    rcases hsec with ⟨e, h0⟩ | ⟨s, hs1, e, hs2, hs3, hs4⟩
    · refine ⟨0, by unfold levF; rw [if_neg (by omega)]; rfl, by omega, fun v hv hne => ?_⟩
      have hv := (mem_less hlevs).1 hv
      have h1 := h0 v hv.1 hv.2
      have h2 := hlevs v hv.1
      exact absurd (hone v hv.2 (by omega)) hne
    · have h1 := (R.lev_le' hs1).1
      refine ⟨(atI S.lev s).toNat, by unfold levF; rw [if_pos (by omega), e]; simp; omega, by omega, fun v hv hne => ?_⟩
      have hv := (mem_less hlevs).1 hv
      have h2 := hlevs v hv.1
      have h3 : atI S.lev v ≠ (S.hea.length : Int) := fun h => hne (hone v hv.2 h)
      by_cases ev : v = s
      · subst ev; omega
      · have := hs4 v hv.1 hv.2 (by omega) ev
        unfold befo at this
        omega
  obtain ⟨k, ek, hkl, hmax⟩ := hk
  have H := c.g.hea k hkl
  have hlo := H.lo
  have B : BackP n S k (atI S.hea k).toNat := ⟨c.t, c.g, hkl, by omega⟩
  have hd := c.hd _ (at_mem hkl)
  refine ⟨k, (atI S.hea k).toNat, ek, B, B.ask c.w (m := S.nxt - 1) (by omega) c.pr (by omega), B.gs, ?_, u, hlu, hu, headF_eq hu (hAn u hu).1 hlu hone, ?_, fun v hv hne => ?_⟩
  · rw [B.tlen]
    show min _ S.nxt = _
    omega
  · -- the level's own one is not told
    obtain ⟨q, hq, hqu⟩ := R.place (hAn u hu).1 (by have := (hAn u hu).2; omega)
    have hq1 : (atI S.hea k).toNat ≤ q := by
      obtain ⟨m, hm, e⟩ := c.g.lev q hq
      rw [hqu, hlu] at e
      have := hm.2.1 k (by omega)
      omega
    have h0 := ((B.vals u).1 ⟨q, hq1, hq, hqu⟩).1
    have e := nl_told R (hAn u hu).1 (hAn u hu).2
    have el : (backS S k (atI S.hea k).toNat).val.length = S.val.length := rst_len _ _ _
    unfold vl
    rw [el, if_pos e.1, e.2.1, h0]
    simp
  · have hv2 := (mem_less hlevs).1 hv
    have hle := hmax v hv hne
    obtain ⟨q, hq, hqu⟩ := R.place hv2.1 (by have := (hAn v hv2.2).2; omega)
    have hq1 : q < (atI S.hea k).toNat := by
      obtain ⟨m, hm, e⟩ := c.g.lev q hq
      rw [hqu] at e
      have h1 := hm.2.2 (by omega)
      have h2 : atI S.hea m ≤ atI S.hea k := by
        by_cases e2 : m = k
        · rw [e2]; exact Int.le_refl _
        · exact Int.le_of_lt (hea_mono c.g (by omega) hkl)
      omega
    have h0 := (B.old hq1).1
    rw [hqu] at h0
    have e := nl_told R hv2.1 (hAn v hv2.2).2
    have el : (backS S k (atI S.hea k).toNat).val.length = S.val.length := rst_len _ _ _
    have e3 := e.2.2
    unfold vl at e3 ⊢
    rw [if_pos e.1] at e3
    rw [el, if_pos e.1, e.2.1, h0]
    rw [e.2.1] at e3
    exact e3
end
end Go.Sh

namespace Go.Sh
open Go Go.Lift Go.Cla
variable {h h' hb : Heap} {p : Addr} {x x' : Nm → Sl} {vs vs' : Nm → List Value} {S S1 : SS} {n : Nat} {nx : Int} {L V : List Int}
theorem tri_set {V : List Int} (ht : Tri V) (j : Nat) {l : Int} : Tri (V.set j (sg l)) := by
  intro y hy
  rcases List.mem_or_eq_of_mem_set hy with h | rfl
  · exact ht y h
  · rcases sg_or l with g | g <;> rw [g] <;> simp
theorem vrowL_spec {o v : Sl} {Rr : Heap → Prop} (hr : RJ hb o L) (hv : Own toI hb.size h v V) (e : Ext hb h) (hl : V.length = n) (hn : n ≤ 1048576) (hL : L.length ≤ 1000000) (ht : Tri V) (hth : ∀ m ∈ L, There n m) (hnd : (L.map tr).Nodup)
    (K : ∀ h' V', Own toI hb.size h' v V' → Ext hb h' → V'.length = n → Tri V' → (∀ m ∈ L, vl V' m = -1) → Rr h') :
    loop (fun (s0u3 : Int) h0u21 (K0u6 : Int → Heap → Prop) =>
      iteB (decide (s0u3 < ((o.len : Nat) : Int))) (
       idxS o s0u3 1 fun a_3 =>
       Lift.load (Value.int .i64) a_3 h0u21 fun v_17 =>
       ref18uTruth v_17 h0u21 fun v_18 h0u22 =>
       ref18uSign v_17 h0u22 fun v_19 h0u23 =>
       idxS v v_18 1 fun a_4 =>
       Lift.store a_4 (Value.int .i64 (IntKind.wrap .i64 (0 - v_19))) h0u23 fun h0u24 =>
       K0u6 (IntKind.wrap .i64 (s0u3 + 1)) h0u24
      ) (Rr h0u21)) 0 h := by
  have hlen := hr.len
  refine loop.inv (fun (t : Int) hh => ∃ (k : Nat) (V' : List Int), t = (k : Int) ∧ k ≤ L.length ∧ Own toI hb.size hh v V' ∧ Ext hb hh ∧ V'.length = n ∧ Tri V' ∧ ∀ m ∈ L.take k, vl V' m = -1) (fun t _ => L.length - t.toNat) ⟨0, V, rfl, by omega, hv, e, hl, ht, by simp⟩ ?_
  rintro _ hh ⟨k, V', rfl, hk, o1, e1, l1, t1, f1⟩
  refine ⟨fun g => ?_, fun g => ?_⟩
  · have g := of_decide_eq_true g
    have hk2 : k < L.length := by omega
    refine RJ.ldE hr e1 (j := k) rfl hk2 ?_
    rw [show atI L k = L[k] from at_get hk2]
    have hmem : L[k] ∈ L := List.getElem_mem hk2
    have th := hth _ hmem
    have es : sg (-L[k]) = - sg L[k] := sg_neg th.1
    refine rTruth_spec th hn (rSign_spec ?_)
    rw [w64 (n := 0 - sg L[k]) (by rcases sg_or L[k] with g | g <;> rw [g] <;> omega) (by rcases sg_or L[k] with g | g <;> rw [g] <;> omega)]
    refine Own.stE o1 (j := tr L[k]) rfl (by rw [l1]; exact th.tr) fun h2 o2 k2 => ?_
    have e2 : Ext hb h2 := ⟨Nat.le_trans e1.size k2.size, fun b hb' _ => by rw [k2.same b (Nat.lt_of_lt_of_le hb' e1.size) (fun e => by have := (o1.lt e.symm).1; omega), e1.same b hb' (by simp)]⟩
    rw [w64 (by omega) (by omega)]
    have ev : 0 - sg L[k] = sg (-L[k]) := by rw [es]; omega
    have et : tr L[k] = tr (-L[k]) := (tr_neg _).symm
    rw [ev, et] at o2
    refine ⟨⟨k + 1, _, by omega, by omega, o2, e2, by simp [l1], tri_set t1 _, fun m hm => ?_⟩, by omega⟩
    have thn : There V'.length (-L[k]) := by rw [l1]; exact th.neg
    rw [List.take_succ_eq_append_getElem hk2] at hm
    rcases List.mem_append.1 hm with hm | hm
    · have hne : tr m ≠ tr (-L[k]) := by
        rw [tr_neg]
        intro e
        have h3 : ((L.take k ++ [L[k]]).map tr).Nodup := by
          rw [← List.take_succ_eq_append_getElem hk2]
          exact List.Sublist.nodup ((List.take_sublist _ _).map _) hnd
        rw [List.map_append, List.nodup_append] at h3
        exact h3.2.2 (tr m) (List.mem_map_of_mem hm) (tr L[k]) (by simp) e
      rw [vl_set thn, if_neg (fun h => hne h.2)]
      exact f1 m hm
    · have hm : m = L[k] := by simpa using hm
      rw [hm, vl_set thn, if_pos ⟨by rw [l1]; exact th, (tr_neg _).symm⟩, es]
      have := sg_sq L[k]
      rw [Int.neg_mul]; omega
  · have g := of_decide_eq_false g
    have : k = L.length := by omega
    subst this
    rw [List.take_length] at f1
    exact K hh V' o1 e1 l1 t1 f1
theorem vrowT_spec {v : Sl} {Rr : Heap → Prop} (q : SM hb p x vs S) (R : RightS S nx) (hv : Own toI hb.size h v V) (e : Ext hb h) (hl : V.length = S.val.length) (hn : S.val.length ≤ 1048576) (hT : S.tra.length ≤ 1000000) (hhea : 0 < S.hea.length) (ht : Tri V) (hL : ∀ m ∈ L, vl V m = -1) (hlev : ∀ m ∈ L, atI S.lev (tr m) ≠ 0)
    (K : ∀ h' V', Own toI hb.size h' v V' → Ext hb h' → V'.length = S.val.length → Tri V' → (∀ m ∈ L, vl V' m = -1) → (∀ i, i < S.tra.length → (i : Int) < atI S.hea 0 → vl V' (tl S i) = 1) → Rr h') :
    loop (fun (s0u4 : Int) h0u25 (K0u7 : Int → Heap → Prop) =>
       iteB (decide (s0u4 < (((x .tra).len : Nat) : Int))) (
        seq (fun (K0u8 : Unit → Heap → Prop) =>
         idxS (x .tra) s0u4 1 fun a_5 =>
         Lift.load (Value.int .i64) a_5 h0u25 fun v_21 =>
         seq (fun (K0u9 : Bool → Heap → Prop) =>
          Lift.load Sl.toV (p.add 6) h0u25 fun v_22 =>
          iteB (decide (((v_22.len : Nat) : Int) > 0)) (
           Lift.load Sl.toV (p.add 6) h0u25 fun v_23 =>
           idxS v_23 0 1 fun a_6 =>
           Lift.load (Value.int .i64) a_6 h0u25 fun v_24 =>
           K0u9 (decide (s0u4 < v_24)) h0u25
          ) (
           K0u9 false h0u25
          )
         ) (fun t0u5 h0u27 =>
          iteB t0u5 (
           ref18uTruth v_21 h0u27 fun v_25 h0u28 =>
           ref18uSign v_21 h0u28 fun v_26 h0u29 =>
           idxS v v_25 1 fun a_7 =>
           Lift.store a_7 (Value.int .i64 v_26) h0u29 fun h0u30 =>
           K0u8 () h0u30
          ) (
           K0u8 () h0u27
          )
         )
        ) (fun t0u4 h0u26 =>
         K0u7 (IntKind.wrap .i64 (s0u4 + 1)) h0u26
        )
       ) (Rr h0u25)) 0 h := by
  have hlen := q.tra.r.len
  refine loop.inv (fun (t : Int) hh => ∃ (k : Nat) (V' : List Int), t = (k : Int) ∧ k ≤ S.tra.length ∧ Own toI hb.size hh v V' ∧ Ext hb hh ∧ V'.length = S.val.length ∧ Tri V' ∧ (∀ m ∈ L, vl V' m = -1) ∧ ∀ i, i < k → (i : Int) < atI S.hea 0 → vl V' (tl S i) = 1) (fun t _ => S.tra.length - t.toNat) ⟨0, V, rfl, by omega, hv, e, hl, ht, hL, fun i hi => by omega⟩ ?_
  rintro _ hh ⟨k, V', rfl, hk, o1, e1, l1, t1, f1, g1⟩
  refine ⟨fun g => ?_, fun g => ?_⟩
  · have g := of_decide_eq_true g
    have hk2 : k < S.tra.length := by omega
    have T := R.tra k hk2
    have q1 := q.ext e1
    refine seq.cut (fun _ h2 => ∃ V', Own toI hb.size h2 v V' ∧ Ext hb h2 ∧ V'.length = S.val.length ∧ Tri V' ∧ (∀ m ∈ L, vl V' m = -1) ∧ ∀ i, i < k + 1 → (i : Int) < atI S.hea 0 → vl V' (tl S i) = 1) ?_ ?_
    · refine RJ.ld q1.tra.r (j := k) rfl hk2 ?_
      rw [show at0 S.tra k = tl S k from rfl]
      refine seq.cut (fun (b : Bool) h2 => h2 = hh ∧ b = decide ((k : Int) < atI S.hea 0)) ?_ ?_
      · refine q1.g6 ⟨fun _ => q1.g6 (RJ.ld q1.hea.r (j := 0) rfl hhea ⟨rfl, rfl⟩), fun g2 => ?_⟩
        have g2 := of_decide_eq_false g2
        rw [q1.hea.r.len] at g2
        omega
      · rintro _ h2 ⟨rfl, rfl⟩
        refine ⟨fun g2 => ?_, fun g2 => ?_⟩
        · have g2 := of_decide_eq_true g2
          refine rTruth_spec T.th hn (rSign_spec ?_)
          refine Own.stE o1 (j := tr (tl S k)) rfl (by rw [l1]; exact T.th.tr) fun h3 o3 k3 => ?_
          have e3 : Ext hb h3 := ⟨Nat.le_trans e1.size k3.size, fun b hb' _ => by rw [k3.same b (Nat.lt_of_lt_of_le hb' e1.size) (fun e => by have := (o1.lt e.symm).1; omega), e1.same b hb' (by simp)]⟩
          have th2 : There V'.length (tl S k) := by rw [l1]; exact T.th
          have lev0 : atI S.lev (tr (tl S k)) = 0 := by
            obtain ⟨m, hm, em⟩ := T.lev
            rw [em]
            refine Int.ofNat_eq_zero.2 (Classical.byContradiction fun hne => ?_)
            have := hm.2.1 0 (by omega)
            omega
          refine ⟨_, o3, e3, by simp [l1], tri_set t1 _, fun m hm => ?_, fun i hi hi2 => ?_⟩
          · have hne : tr m ≠ tr (tl S k) := fun e => hlev m hm (by rw [e]; exact lev0)
            rw [vl_set th2, if_neg (fun h => hne h.2)]
            exact f1 m hm
          · by_cases e : i = k
            · subst e
              rw [vl_set th2, if_pos ⟨th2, rfl⟩]
              exact sg_sq _
            · have hne : tr (tl S i) ≠ tr (tl S k) := fun e2 => e (trk_one R.tra (by omega) hk2 e2)
              rw [vl_set th2, if_neg (fun h => hne h.2)]
              exact g1 i (by omega) hi2
        · have g2 := of_decide_eq_false g2
          refine ⟨V', o1, e1, l1, t1, f1, fun i hi hi2 => ?_⟩
          by_cases e : i = k
          · subst e; exact absurd hi2 g2
          · exact g1 i (by omega) hi2
    · rintro _ h2 ⟨V2, o2, e2, l2, t2, f2, g2⟩
      rw [w64 (by omega) (by omega)]
      exact ⟨⟨k + 1, V2, by omega, by omega, o2, e2, l2, t2, f2, g2⟩, by omega⟩
  · have g := of_decide_eq_false g
    have : k = S.tra.length := by omega
    subst this
    exact K hh V' o1 e1 l1 t1 f1 g1
end Go.Sh
