/-
  Laws that the proof of this claim's statement leans on, each proved under the conditions that it states.
-/
import Derived.Test.YtkjcocjkcjmafaaSpH
set_option linter.unusedVariables false
set_option linter.unusedSimpArgs false
namespace Go.Sh
open Go Go.Lift Go.Cla
variable {h h' : Heap} {x x' : Nm → Sl} {vs' : Nm → List Value} {n : Nat} {cs : List Cl} {g : Int → Option Bool}
theorem range_get (cs : List Cl) : (List.range cs.length).map (fun j => cs.getD j d0) = cs := by
  apply List.ext_getElem
  · simp
  · intro i h1 h2
    simp [List.getElem?_eq_getElem h2]
theorem lrn_count (n : Nat) (cs : List Cl) : (lrn (bldN n cs) cs.length).length = (cs.filter (·.learned)).length := by
  have e := congrArg (fun l => (l.filter (fun c : Cl => c.learned)).length) (range_get cs)
  rw [← e]
  unfold lrn
  rw [List.length_map, List.filter_map, List.length_map]
  rfl
theorem lrn_kept (n : Nat) (g : Int → Option Bool) (cs : List Cl) : (lrn (bldN n (keptC g cs)) (keptC g cs).length).length ≤ (lrn (bldN n cs) cs.length).length := by
  rw [lrn_count, lrn_count]
  have h1 : (keptC g cs).Sublist cs := by
    have := (List.filter_sublist (p := fun j => !(gv g j)) (l := List.range cs.length)).map (fun j => cs.getD j d0)
    rw [range_get] at this
    exact this
  exact (h1.filter _).length_le
theorem kept_mem {c : Cl} (hc : c ∈ keptC g cs) : c ∈ cs := by
  unfold keptC at hc
  obtain ⟨j, hj, rfl⟩ := List.mem_map.1 hc
  have := keptN_lt hj
  rw [List.getD_eq_getElem?_getD, List.getElem?_eq_getElem this]
  exact List.getElem_mem _
theorem rest_spec {v_8 lits : Sl} {most : Int} {s0 : Addr} {xs : List Int} {Q : Bool → Heap → Prop} {H0 : Heap}
    (q : SM h s0 x' vs' (bldN n (keptC g cs))) (hn : n ≤ 20) (hc : cs.length ≤ 60) (hf : ∀ c ∈ cs, FitsL n c.lits) (hu : ∀ c ∈ cs, 0 ≤ c.use ∧ c.use ≤ 7) (hlr : (lrn (bldN n cs) cs.length).length ≤ 39)
    (hg : Gone (bldN n cs) most g) (hx : ∀ k (hk : k < (keptN g cs.length).length), x' (.c k) = x (.c (keptN g cs.length)[k]))
    (ho : OwnV h (Sl.sc 3 v_8) ((List.range cs.length).flatMap (trip x cs))) (hl : RJ h lits xs) (hlo : xs ≠ [] → ∀ b, lits.blk = some b → Out s0 x' b) (hll : xs.length ≤ 30)
    (E0 : ∀ h' y, To s0 8 h x' h' y → Ext H0 h') (K : ∀ h', Ext H0 h' → Q true h') :
    loop (fun (s0u2 : Int × Int) h0u12 (K0u3 : (Int × Int) → Heap → Prop) =>
         iteB (decide (s0u2.2 < ((v_8.len : Nat) : Int))) (
          seq (fun (K0u4 : Int → Heap → Prop) =>
           idxS v_8 s0u2.2 3 fun a_3 =>
           loadS C_sl_bool_i64 3 a_3 h0u12 fun v_10 =>
           mem h0u12 fun h0u14 =>
           iteB v_10.2.1 (
            Let (IntKind.wrap .i64 (s0u2.1 + 1) : Int) fun learned =>
            K0u4 learned h0u14
           ) (
            K0u4 s0u2.1 h0u14
           )
          ) (fun t0u2 h0u13 =>
           K0u3 (t0u2, IntKind.wrap .i64 (s0u2.2 + 1)) h0u13
          )
         ) (
          seq (fun (K0u5 : Int → Heap → Prop) =>
           iteB (decide (s0u2.1 > (if 0 > most then 0 else most))) (
            Let (IntKind.wrap .i64 (Int.tdiv (if 0 > most then 0 else most) 2) : Int) fun keep =>
            K0u5 keep h0u12
           ) (
            K0u5 s0u2.1 h0u12
           )
          ) (fun t0u3 h0u15 =>
           Let (((v_8.len : Nat) : Int) : Int) fun t110 =>
           mkS [Value.bool false] 1 t110 t110 h0u15 fun v_11 h0u16 =>
           loop (fun (s0u3 : Int) h0u17 (K0u6 : Int → Heap → Prop) =>
            iteB (decide (s0u3 > t0u3)) (
             loop (fun (s0u4 : Int × Int) h0u18 (K0u7 : (Int × Int) → Heap → Prop) =>
              iteB (decide (s0u4.2 < ((v_8.len : Nat) : Int))) (
               seq (fun (K0u8 : Int → Heap → Prop) =>
                idxS v_8 s0u4.2 3 fun a_4 =>
                loadS C_sl_bool_i64 3 a_4 h0u18 fun v_12 =>
                mem h0u18 fun h0u20 =>
                seq (fun (K0u9 : Bool → Heap → Prop) =>
                 iteB v_12.2.1 (
                  idxS v_11 s0u4.2 1 fun a_5 =>
                  Lift.load Value.bool a_5 h0u20 fun v_13 =>
                  iteB (!v_13) (
                   iteB (decide (s0u4.1 < 0)) (
                    K0u9 true h0u20
                   ) (
                    idxS v_8 s0u4.1 3 fun a_6 =>
                    Lift.load (Value.int .i64) (a_6.add 2) h0u20 fun v_14 =>
                    K0u9 (decide (v_12.2.2 < v_14)) h0u20
                   )
                  ) (
                   K0u9 false h0u20
                  )
                 ) (
                  K0u9 false h0u20
                 )
                ) (fun t0u5 h0u21 =>
                 iteB t0u5 (
                  K0u8 s0u4.2 h0u21
                 ) (
                  K0u8 s0u4.1 h0u21
                 )
                )
               ) (fun t0u4 h0u19 =>
                K0u7 (t0u4, IntKind.wrap .i64 (s0u4.2 + 1)) h0u19
               )
              ) (
               idxS v_11 s0u4.1 1 fun a_7 =>
               Lift.store a_7 (Value.bool true) h0u18 fun h0u22 =>
               Let (IntKind.wrap .i64 (s0u3 - 1) : Int) fun left =>
               K0u6 left h0u22
              )
             ) ((-1), 0) h0u17
            ) (
             loop (fun (s0u5 : Int × Int) h0u23 (K0u10 : (Int × Int) → Heap → Prop) =>
              iteB (decide (s0u5.2 < ((v_8.len : Nat) : Int))) (
               seq (fun (K0u11 : Int → Heap → Prop) =>
                idxS v_8 s0u5.2 3 fun a_8 =>
                loadS C_sl_bool_i64 3 a_8 h0u23 fun v_15 =>
                mem h0u23 fun h0u25 =>
                idxS v_11 s0u5.2 1 fun a_9 =>
                Lift.load Value.bool a_9 h0u25 fun v_16 =>
                iteB v_16 (
                 K0u11 s0u5.1 h0u25
                ) (
                 seq (fun (K0u12 : Bool → Heap → Prop) =>
                  Lift.load Sl.toV (s0.add 0) h0u25 fun v_17 =>
                  iteB (decide (s0u5.1 ≥ ((v_17.len : Nat) : Int))) (
                   K0u12 true h0u25
                  ) (
                   Lift.load Sl.toV (s0.add 0) h0u25 fun v_18 =>
                   idxS v_18 s0u5.1 3 fun a_10 =>
                   Lift.load Value.bool (a_10.add 1) h0u25 fun v_19 =>
                   iteB (!(v_19 == v_15.2.1)) (
                    K0u12 true h0u25
                   ) (
                    Lift.load Sl.toV (s0.add 0) h0u25 fun v_20 =>
                    idxS v_20 s0u5.1 3 fun a_11 =>
                    Lift.load (Value.int .i64) (a_11.add 2) h0u25 fun v_21 =>
                    iteB (v_21 != v_15.2.2) (
                     K0u12 true h0u25
                    ) (
                     Lift.load Sl.toV (s0.add 0) h0u25 fun v_22 =>
                     idxS v_22 s0u5.1 3 fun a_12 =>
                     Lift.load Sl.toV (a_12.add 0) h0u25 fun v_23 =>
                     ref18uSameInts v_23 v_15.1 h0u25 fun v_24 h0u27 =>
                     K0u12 (!v_24) h0u27
                    )
                   )
                  )
                 ) (fun t0u7 h0u26 =>
                  iteB t0u7 (
                   Q false h0u26
                  ) (
                   Let (IntKind.wrap .i64 (s0u5.1 + 1) : Int) fun k =>
                   K0u11 k h0u26
                  )
                 )
                )
               ) (fun t0u6 h0u24 =>
                K0u10 (t0u6, IntKind.wrap .i64 (s0u5.2 + 1)) h0u24
               )
              ) (
               seq (fun (K0u13 : Bool → Heap → Prop) =>
                Lift.load Sl.toV (s0.add 0) h0u23 fun v_25 =>
                iteB (s0u5.1 != ((v_25.len : Nat) : Int)) (
                 K0u13 true h0u23
                ) (
                 loadS C_sl_sl_sl_sl_sl_sl_sl_i64 8 s0 h0u23 fun v_26 =>
                 ref18uRight (v_26.1, v_26.2.1, v_26.2.2.1, v_26.2.2.2.1, v_26.2.2.2.2.1, v_26.2.2.2.2.2.1, v_26.2.2.2.2.2.2.1, v_26.2.2.2.2.2.2.2) h0u23 fun v_27 h0u29 =>
                 K0u13 (!v_27) h0u29
                )
               ) (fun t0u8 h0u28 =>
                iteB t0u8 (
                 Q false h0u28
                ) (
                 loop (fun (s0u6 : Int) h0u30 (K0u14 : Int → Heap → Prop) =>
                  iteB (decide (s0u6 < ((lits.len : Nat) : Int))) (
                   seq (fun (K0u15 : Unit → Heap → Prop) =>
                    idxS lits s0u6 1 fun a_13 =>
                    Lift.load (Value.int .i64) a_13 h0u30 fun v_28 =>
                    clause_Decide (some s0) v_28 h0u30 fun v_29 h0u32 =>
                    iteB (!v_29) (
                     K0u15 () h0u32
                    ) (
                     Lift.load Sl.toV (s0.add 2) h0u32 fun v_30 =>
                     Lift.load Sl.toV (s0.add 0) h0u32 fun v_31 =>
                     ref18uClose v_30 v_31 h0u32 fun v_32 h0u33 =>
                     clause_Run (some s0) h0u33 fun v_33 h0u34 =>
                     iteB (!((decide (v_33 ≥ 0)) == v_32.2)) (
                      Q false h0u34
                     ) (
                      iteB v_32.2 (
                       Q true h0u34
                      ) (
                       Lift.load Sl.toV (s0.add 2) h0u34 fun v_34 =>
                       ref18uSameInts v_34 v_32.1 h0u34 fun v_35 h0u35 =>
                       iteB (!v_35) (
                        Q false h0u35
                       ) (
                        K0u15 () h0u35
                       )
                      )
                     )
                    )
                   ) (fun t0u9 h0u31 =>
                    K0u14 (IntKind.wrap .i64 (s0u6 + 1)) h0u31
                   )
                  ) (
                   Lift.load Sl.toV (s0.add 6) h0u30 fun v_36 =>
                   iteB (decide (((v_36.len : Nat) : Int) > 0)) (
                    Lift.load Sl.toV (s0.add 0) h0u30 fun v_37 =>
                    Let (((v_37.len : Nat) : Int) : Int) fun n_1 =>
                    clause_Reduce (some s0) 0 h0u30 fun v_38 h0u36 =>
                    Lift.load Sl.toV (s0.add 0) h0u36 fun v_39 =>
                    Q (((v_39.len : Nat) : Int) == n_1) h0u36
                   ) (
                    Q true h0u30
                   )
                  )
                 ) 0 h0u28
                )
               )
              )
             ) (0, 0) h0u17
            )
           ) s0u2.1 h0u16
          )
         )
        ) (0, 0) h := by
  obtain ⟨L, hL⟩ : ∃ L, L = (lrn (bldN n cs) cs.length).length := ⟨_, rfl⟩
  have vl : v_8.len = cs.length := by
    have := ho.len
    rw [flat_trip_len, List.length_range] at this
    have : v_8.len * 3 = 3 * cs.length := this
    omega
  have hm0 : 0 ≤ most0 most := by unfold most0; split <;> omega
  have key : ∃ (G : Nat) (ys : List Int), G ≤ L ∧ (G = 0 ∨ (ys.Perm (lrn (bldN n cs) cs.length) ∧ ys.Pairwise (lexU (useI (bldN n cs))))) ∧ (∀ k, g k = if k ∈ ys.take G then some true else none) ∧ (most0 most < (L : Int) → (L : Int) - G = ((most0 most).toNat / 2 : Nat)) ∧ ((L : Int) ≤ most0 most → G = 0) := by
    rcases hg with ⟨h1, h2⟩ | ⟨h1, ys, h2, h3, h4⟩
    · have h1 : (L : Int) ≤ most0 most := by rw [hL]; exact h1
      exact ⟨0, [], by omega, .inl rfl, fun k => by rw [h2]; simp, fun h => by omega, fun _ => rfl⟩
    · have h1 : most0 most < (L : Int) := by rw [hL]; exact h1
      have e : (lrn (bldN n cs) (bldN n cs).cls.length).length = L := by rw [hL]; rfl
      rw [e] at h4
      exact ⟨L - (most0 most).toNat / 2, ys, by omega, .inr ⟨h2, h3⟩, h4, fun _ => by omega, fun h => by omega⟩
  obtain ⟨G, ys, hGL, hys, hgk, hk1, hk2⟩ := key
  have hL39 : L ≤ 39 := by omega
  have gvk : ∀ j : Nat, gv g j = decide ((j : Int) ∈ ys.take G) := fun j => by
    unfold gv
    rw [hgk]
    by_cases e : (j : Int) ∈ ys.take G <;> simp [e]
  refine loop.inv (fun (t : Int × Int) hh => ∃ i : Nat, t.2 = (i : Int) ∧ i ≤ cs.length ∧ t.1 = ((lrn (bldN n cs) i).length : Int) ∧ Ext h hh) (fun t _ => cs.length - t.2.toNat) ⟨0, rfl, by omega, rfl, Keep.refl _ _⟩ ?_
  rintro ⟨_, _⟩ h1 ⟨i, rfl, hi, rfl, e1⟩
  dsimp only
  have li := lrn_len (bldN n cs) i
  rw [vl]
  refine ⟨fun hlt => ?_, fun hge => ?_⟩
  · have hlt := of_decide_eq_true hlt
    refine seq.cut (fun (t : Int) hh => t = ((lrn (bldN n cs) (i + 1)).length : Int) ∧ Ext h hh) ?_ ?_
    · refine trip_ld (ho.keep e1 (by simp)) (j := i) rfl (by omega) (mem_ext fun h2 e2 => ?_)
      rw [lrn_succ]
      refine ⟨fun hb => ?_, fun hb => ?_⟩
      · have hb : (cs.getD i d0).learned = true := hb
        rintro _ rfl
        rw [bld_cl, if_pos hb, w64 (by omega) (by omega)]
        exact ⟨by simp, e1.trans e2⟩
      · have hb : (cs.getD i d0).learned = false := hb
        rw [bld_cl, if_neg (by rw [hb]; simp)]
        exact ⟨rfl, e1.trans e2⟩
    rintro t h2 ⟨rfl, e2⟩
    rw [w64 (by omega) (by omega)]
    exact ⟨⟨i + 1, by simp, by omega, rfl, e2⟩, by omega⟩
  have hge := of_decide_eq_false hge
  have hi' : i = cs.length := by omega
  subst hi'
  rw [← hL]
  refine seq.cut (fun (t : Int) hh => t = (L : Int) - G ∧ hh = h1) ?_ ?_
  · refine ⟨fun hb => ?_, fun hb => ?_⟩
    · have hb : (L : Int) > most0 most := of_decide_eq_true hb
      have := hk1 (by omega)
      rintro _ rfl
      refine ⟨?_, rfl⟩
      show IntKind.wrap .i64 (Int.tdiv (most0 most) 2) = _
      rw [Int.tdiv_eq_ediv_of_nonneg hm0, w64 (by omega) (by omega)]
      omega
    · have hb : ¬ (L : Int) > most0 most := of_decide_eq_false hb
      have := hk2 (by omega)
      exact ⟨by omega, rfl⟩
  rintro t0 h2 ⟨rfl, rfl⟩
  rintro _ rfl
  refine mk_rep (toV := Value.bool) (a := false) (m := cs.length) rfl (by omega) (by decide) fun v11 h3 o3 e3 _ => ?_
  have s1 := e1.size
  have e03 := e1.trans e3
  have o3 := o3.mono s1
  refine loop.inv (fun (t : Int) hh => ∃ (u : Nat) (fl : List Bool), t = (L : Int) - u ∧ u ≤ G ∧ Own Value.bool h.size hh v11 fl ∧ fl.length = cs.length ∧ (∀ j : Nat, j < cs.length → fl.getD j false = decide ((j : Int) ∈ ys.take u)) ∧ Ext h hh) (fun t _ => (t - ((L : Int) - G)).toNat)
    ⟨0, List.replicate cs.length false, by omega, by omega, o3, by simp, fun j hj => by rw [List.getD_eq_getElem?_getD, List.getElem?_replicate, if_pos hj]; simp, e03⟩ ?_
  rintro _ h4 ⟨u, fl, rfl, hu2, o4, hfl, hflg, e4⟩
  refine ⟨fun hlt => ?_, fun hge => ?_⟩
  · have hlt := of_decide_eq_true hlt
    have huG : u < G := by omega
    obtain ⟨py, wy⟩ : ys.Perm (lrn (bldN n cs) cs.length) ∧ ys.Pairwise (lexU (useI (bldN n cs))) := by
      rcases hys with e | e
      · omega
      · exact e
    have yl := py.length_eq
    have huy : u < ys.length := by omega
    have cand : ∀ j : Nat, j < cs.length → (((cs.getD j d0).learned = true ∧ fl.getD j false = false) ↔ (j : Int) ∈ ys.drop u) := fun j hj => by
      rw [hflg j hj]
      have m1 : (j : Int) ∈ ys ↔ (cs.getD j d0).learned = true := by
        rw [py.mem_iff]; exact lrn_mem_iff hj
      have nd : ys.Nodup := wy.imp (fun {a b} hab e => by subst e; exact hab.no hab)
      have m2 : (j : Int) ∈ ys ↔ (j : Int) ∈ ys.take u ∨ (j : Int) ∈ ys.drop u := by
        rw [← List.mem_append, List.take_append_drop]
      have m3 : (j : Int) ∈ ys.drop u → ¬ (j : Int) ∈ ys.take u := fun hd ht => by
        rw [← List.take_append_drop u ys, List.nodup_append] at nd
        exact nd.2.2 _ ht _ hd rfl
      rw [← m1]
      simp only [decide_eq_false_iff_not]
      constructor
      · rintro ⟨a, b⟩
        rcases m2.1 a with c | c
        · exact absurd c b
        · exact c
      · intro c
        exact ⟨m2.2 (.inr c), m3 c⟩
    refine loop.inv (fun (t : Int × Int) hh => ∃ i : Nat, t.2 = (i : Int) ∧ i ≤ cs.length ∧ Ext h4 hh ∧ ((t.1 = -1 ∧ ∀ j : Nat, j < i → ¬ (j : Int) ∈ ys.drop u) ∨ ∃ w : Nat, t.1 = (w : Int) ∧ w < i ∧ (w : Int) ∈ ys.drop u ∧ ∀ j : Nat, j < i → (j : Int) ∈ ys.drop u → (j : Int) = (w : Int) ∨ lexU (useI (bldN n cs)) (w : Int) (j : Int))) (fun t _ => cs.length - t.2.toNat)
      ⟨0, rfl, by omega, Keep.refl _ _, .inl ⟨rfl, fun j hj => by omega⟩⟩ ?_
    rintro ⟨ww, _⟩ h5 ⟨i, rfl, hi, e5, hw⟩
    dsimp only at hw ⊢
    have e05 := e4.trans e5
    refine ⟨fun hlt2 => ?_, fun hge2 => ?_⟩
    · have hlt2 := of_decide_eq_true hlt2
      have hi2 : i < cs.length := by omega
      have ho5 := ho.keep e05 (by simp)
      refine seq.cut (fun (t : Int) hh => Ext h4 hh ∧ ((t = -1 ∧ ∀ j : Nat, j < i + 1 → ¬ (j : Int) ∈ ys.drop u) ∨ ∃ w : Nat, t = (w : Int) ∧ w < i + 1 ∧ (w : Int) ∈ ys.drop u ∧ ∀ j : Nat, j < i + 1 → (j : Int) ∈ ys.drop u → (j : Int) = (w : Int) ∨ lexU (useI (bldN n cs)) (w : Int) (j : Int))) ?_ ?_
      · refine trip_ld ho5 (j := i) rfl hi2 (mem_ext fun h6 e6 => ?_)
        have e46 := e5.trans e6
        have ho6 := ho5.keep e6 (by simp)
        refine seq.cut (fun (b : Bool) hh => hh = h6 ∧ (b = true ↔ (i : Int) ∈ ys.drop u ∧ (ww < 0 ∨ ∃ w : Nat, ww = (w : Int) ∧ (cs.getD i d0).use < (cs.getD w d0).use))) ?_ ?_
        · have ci := cand i hi2
          refine ⟨fun hb => ?_, fun hb => ⟨rfl, ?_⟩⟩
          · have hb : (cs.getD i d0).learned = true := hb
            refine (o4.ext e46).r.idx (i := (i : Int)) (by omega) (by omega) fun a _ hcell => ⟨_, hcell, ?_⟩
            have hfi : fl[((i : Int)).toNat]'(by omega) = fl.getD i false := by simp only [Int.toNat_natCast]; rw [List.getD_eq_getElem?_getD, List.getElem?_eq_getElem (by omega)]; rfl
            rw [hfi]
            refine ⟨fun hb2 => ?_, fun hb2 => ⟨rfl, ?_⟩⟩
            · have hb2 : fl.getD i false = false := by simpa using hb2
              have hin := ci.1 ⟨hb, hb2⟩
              refine ⟨fun hb3 => ⟨rfl, ?_⟩, fun hb3 => ?_⟩
              · have hb3 := of_decide_eq_true hb3
                simp only [true_iff]
                exact ⟨hin, .inl hb3⟩
              · have hb3 := of_decide_eq_false hb3
                rcases hw with ⟨h1, _⟩ | ⟨w, rfl, hwi, _, _⟩
                · omega
                · refine trip_cells ho6 (j := w) rfl (by omega) fun a _ _ hc2 => ⟨_, hc2, rfl, ?_⟩
                  simp only [decide_eq_true_eq]
                  constructor
                  · intro hlt3; exact ⟨hin, .inr ⟨w, rfl, hlt3⟩⟩
                  · rintro ⟨_, h1 | ⟨w', h1, h2⟩⟩
                    · omega
                    · have : w = w' := by omega
                      subst this; exact h2
            · have hb2 : fl.getD i false = true := by simpa using hb2
              simp only [Bool.false_eq_true, false_iff]
              rintro ⟨h1, _⟩
              have := (ci.2 h1).2
              rw [hb2] at this; cases this
          · have hb : (cs.getD i d0).learned = false := hb
            simp only [Bool.false_eq_true, false_iff]
            rintro ⟨h1, _⟩
            have := (ci.2 h1).1
            rw [hb] at this; cases this
        rintro b hh ⟨rfl, hb⟩
        refine ⟨fun gb => ?_, fun gb => ?_⟩
        · obtain ⟨hin, hor⟩ := hb.1 gb
          refine ⟨e46, .inr ⟨i, rfl, by omega, hin, fun j hj hjm => ?_⟩⟩
          by_cases e : j = i
          · left; rw [e]
          · right
            rcases hw with ⟨_, h2⟩ | ⟨w, rfl, hwi, hwm, hmin⟩
            · exact absurd hjm (h2 j (by omega))
            · rcases hor with h1 | ⟨w', h1, h2⟩
              · omega
              · have : w = w' := by omega
                subst this
                have h3 := hmin j (by omega) hjm
                left
                show (cs.getD ((i : Int)).toNat d0).use < (cs.getD ((j : Int)).toNat d0).use
                rw [Int.toNat_natCast, Int.toNat_natCast]
                rcases h3 with h3 | h3
                · have : j = w := by omega
                  subst this; exact h2
                · have h3 : (cs.getD ((w : Int)).toNat d0).use < (cs.getD ((j : Int)).toNat d0).use ∨ (cs.getD ((w : Int)).toNat d0).use = (cs.getD ((j : Int)).toNat d0).use ∧ _ := h3
                  rw [Int.toNat_natCast, Int.toNat_natCast] at h3
                  rcases h3 with h3 | ⟨h3, _⟩
                  · exact Int.lt_trans h2 h3
                  · rw [← h3]; exact h2
        · have nb : ¬ ((i : Int) ∈ ys.drop u ∧ (ww < 0 ∨ ∃ w : Nat, ww = (w : Int) ∧ (cs.getD i d0).use < (cs.getD w d0).use)) := fun hh => by rw [hb.2 hh] at gb; cases gb
          refine ⟨e46, ?_⟩
          rcases hw with ⟨h1, h2⟩ | ⟨w, rfl, hwi, hwm, hmin⟩
          · refine .inl ⟨h1, fun j hj hjm => ?_⟩
            by_cases e : j = i
            · subst e; exact nb ⟨hjm, .inl (by omega)⟩
            · exact h2 j (by omega) hjm
          · refine .inr ⟨w, rfl, by omega, hwm, fun j hj hjm => ?_⟩
            by_cases e : j = i
            · subst e
              right
              have h3 : ¬ (cs.getD j d0).use < (cs.getD w d0).use := fun hh => nb ⟨hjm, .inr ⟨w, rfl, hh⟩⟩
              show (cs.getD ((w : Int)).toNat d0).use < (cs.getD ((j : Int)).toNat d0).use ∨ (cs.getD ((w : Int)).toNat d0).use = (cs.getD ((j : Int)).toNat d0).use ∧ (w : Int) < (j : Int)
              rw [Int.toNat_natCast, Int.toNat_natCast]
              omega
            · exact hmin j (by omega) hjm
      rintro t h6 ⟨e6, hw6⟩
      rw [w64 (by omega) (by omega)]
      exact ⟨⟨i + 1, by simp, by omega, e6, hw6⟩, by omega⟩
    · have hge2 := of_decide_eq_false hge2
      have hi2 : i = cs.length := by omega
      subst hi2
      have hyu : ys[u] ∈ ys.drop u := List.mem_iff_getElem.2 ⟨0, by rw [List.length_drop]; omega, by simp⟩
      have hyr := lrn_mem (py.mem_iff.1 (List.mem_of_mem_drop hyu))
      rcases hw with ⟨_, h2⟩ | ⟨w, rfl, hwi, hwm, hmin⟩
      · exfalso
        refine h2 (ys[u]).toNat (by omega) ?_
        rw [Int.toNat_of_nonneg hyr.1]; exact hyu
      · have hw2 : (w : Int) = ys[u] := pick_eq wy huy hwm fun c hcm => by
          have hcr := lrn_mem (py.mem_iff.1 (List.mem_of_mem_drop hcm))
          have := hmin c.toNat (by omega) (by rw [Int.toNat_of_nonneg hcr.1]; exact hcm)
          rwa [Int.toNat_of_nonneg hcr.1] at this
        have o5 := o4.ext e5
        refine o5.r.idx (i := (w : Int)) (by omega) (by omega) fun a ha _ => ?_
        rw [Int.toNat_natCast]
        refine o5.store (by omega) ha true fun h6 o6 k6 _ => ?_
        rintro _ rfl
        rw [w64 (by omega) (by omega)]
        have e06 : Ext h h6 := by
          cases hbk : v11.blk with
          | none => rw [hbk] at k6; exact e05.trans k6
          | some b => rw [hbk] at k6; exact e05.fresh (o5.lt hbk).1 k6
        refine ⟨⟨u + 1, fl.set w true, by omega, by omega, o6, by simp [hfl], fun j hj => ?_, e06⟩, by omega⟩
        rw [getD_set _ _ _ _ _ (by omega), List.take_succ_eq_append_getElem huy]
        by_cases e : j = w
        · subst e; rw [if_pos rfl]; exact (decide_eq_true (List.mem_append_right _ (by rw [hw2]; simp))).symm
        · rw [if_neg e, hflg j hj]
          have : ¬ (j : Int) = ys[u] := by rw [← hw2]; omega
          exact decide_eq_decide.2 ⟨fun h => List.mem_append_left _ h, fun h => (List.mem_append.1 h).resolve_right (fun h => this (List.mem_singleton.1 h))⟩
  have hge := of_decide_eq_false hge
  have huG : u = G := by omega
  subst huG
  have flg : ∀ j : Nat, j < cs.length → fl.getD j false = gv g j := fun j hj => by rw [hflg j hj, gvk]
  have q4 := q.ext e4
  have kl : (keptC g cs).length = (keptN g cs.length).length := by unfold keptC; rw [List.length_map]
  have kll := keptN_len g cs.length
  refine loop.inv (fun (t : Int × Int) hh => ∃ i : Nat, t.2 = (i : Int) ∧ i ≤ cs.length ∧ t.1 = ((keptN g i).length : Int) ∧ Ext h4 hh) (fun t _ => cs.length - t.2.toNat) ⟨0, rfl, by omega, rfl, Keep.refl _ _⟩ ?_
  rintro ⟨_, _⟩ h5 ⟨i, rfl, hi, rfl, e5⟩
  dsimp only
  have e05 := e4.trans e5
  have q5 := q4.ext e5
  have kli := keptN_len g i
  refine ⟨fun hlt => ?_, fun hge2 => ?_⟩
  · have hlt := of_decide_eq_true hlt
    have hi2 : i < cs.length := by omega
    refine seq.cut (fun (t : Int) hh => t = ((keptN g (i + 1)).length : Int) ∧ Ext h4 hh) ?_ ?_
    · refine trip_ld (ho.keep e05 (by simp)) (j := i) rfl hi2 (mem_ext fun h6 e6 => ?_)
      have e46 := e5.trans e6
      have q6 := q5.ext e6
      refine (o4.ext e46).r.idx (i := (i : Int)) (by omega) (by omega) fun a _ hcell => ⟨_, hcell, ?_⟩
      have hfi : fl[((i : Int)).toNat]'(by omega) = fl.getD i false := by simp only [Int.toNat_natCast]; rw [List.getD_eq_getElem?_getD, List.getElem?_eq_getElem (by omega)]; rfl
      rw [hfi, flg i hi2, kept_up]
      refine ⟨fun hb => ?_, fun hb => ?_⟩
      · rw [if_pos hb]; exact ⟨by simp, e46⟩
      · rw [if_neg (by simp [hb])]
        have hk := kept_at hb hi2
        obtain ⟨hkl, hke⟩ := List.getElem?_eq_some_iff.1 hk
        have hkC : (keptN g i).length < (keptC g cs).length := by omega
        have hcl : (bldN n (keptC g cs)).cl (keptN g i).length = cs.getD i d0 := by
          rw [bld_cl, keptC_get hkl, hke]
        have hxi : x' (.c (keptN g i).length) = x (.c i) := by rw [hx _ hkl, hke]
        refine seq.cut (fun (b : Bool) hh => b = false ∧ Ext h4 hh) ?_ ?_
        · have cl6 : (x' .cls).len = (keptC g cs).length := q6.clsLen
          refine q6.g0 (iteF (by rw [cl6]; simp; omega) ?_)
          refine q6.g0 (q6.clsAt (j := (keptN g i).length) rfl hkC fun a1 _ _ c1 _ => ⟨_, c1, ?_⟩)
          rw [hcl]
          refine iteF (by simp) ?_
          refine q6.g0 (q6.clsAt (j := (keptN g i).length) rfl hkC fun a2 _ _ _ c2 => ⟨_, c2, ?_⟩)
          rw [hcl]
          refine iteF (by simp) ?_
          refine q6.g0 (q6.clsAt (j := (keptN g i).length) rfl hkC fun a3 _ c3 _ _ => ⟨_, c3, ?_⟩)
          have hrow := (q6.cl (keptN g i).length).r
          rw [hxi] at hrow
          rw [hxi]
          refine SameInts_spec hrow hrow ?_ ⟨rfl, e46⟩
          have ff := hf _ (kept_mem (g := g) (cs := cs) (c := (bldN n (keptC g cs)).cl (keptN g i).length) (by
            rw [bld_cl, List.getD_eq_getElem?_getD, List.getElem?_eq_getElem hkC]; exact List.getElem_mem _))
          have := few_of_nodup ff.2.1 (N := n) (fun v hv => by obtain ⟨l, hl, e⟩ := List.mem_map.1 hv; rw [← e]; exact (ff.1 l hl).tr)
          rw [List.length_map] at this
          omega
        rintro b h7 ⟨rfl, e7⟩
        refine iteF rfl ?_
        rintro _ rfl
        rw [w64 (by omega) (by omega)]
        exact ⟨by simp, e7⟩
    rintro t h6 ⟨rfl, e6⟩
    rw [w64 (by omega) (by omega)]
    exact ⟨⟨i + 1, by simp, by omega, rfl, e6⟩, by omega⟩
  · have hge2 := of_decide_eq_false hge2
    have hi2 : i = cs.length := by omega
    subst hi2
    have hf' : ∀ c ∈ keptC g cs, FitsL n c.lits := fun c hc => hf c (kept_mem hc)
    have hu' : ∀ c ∈ keptC g cs, 0 ≤ c.use ∧ c.use ≤ 7 := fun c hc => hu c (kept_mem hc)
    refine seq.cut (fun (b : Bool) hh => b = false ∧ Ext h4 hh) ?_ ?_
    · have cl5 : (x' .cls).len = (keptC g cs).length := q5.clsLen
      refine q5.g0 (iteF (by rw [cl5, kl]; simp) ?_)
      have ld : ∀ {k : S8 → Prop}, k (x' .cls, x' .wat, x' .val, x' .lev, x' .rea, x' .tra, x' .hea, ((bldN n (keptC g cs)).nxt : Int)) → loadS C_sl_sl_sl_sl_sl_sl_sl_i64 8 s0 h5 k := fun {k} K => by
        obtain ⟨a, ha, h1⟩ := q5.ldS K
        cases ha; exact h1
      refine ld ?_
      refine rRight_spec q5.srd (bld_few hn (by omega) hf') fun b h6 hb e6 => ⟨?_, e5.trans e6⟩
      rw [hb.2 (bld_right (by omega) (by omega) hf' fun c hc => (hu' c hc).1)]; rfl
    rintro b h6 ⟨rfl, e6⟩
    refine iteF rfl ?_
    have e06 := e4.trans e6
    have q6 := q.ext e06
    refine lits_spec (h0 := H0) (fun h' y t => E0 h' y ((q.toExt e06).trans t)) q6 (bld_ask (by omega) _ _ rfl (by omega) hf') rfl rfl hn (fun j => ?_) (by show (keptC g cs).length ≤ 60; omega) (by have := lrn_kept n g cs; show (lrn (bldN n (keptC g cs)) (keptC g cs).length).length ≤ 39; omega) (R.ext hl e06) hlo hll K
    rw [bld_cl]
    by_cases hj : j < (keptC g cs).length
    · rw [List.getD_eq_getElem?_getD, List.getElem?_eq_getElem hj]
      exact hu' _ (List.getElem_mem _)
    · rw [List.getD_eq_getElem?_getD, List.getElem?_eq_none (by omega)]
      exact ⟨by decide, by decide⟩
end Go.Sh

namespace Go.Sh
open Go Go.Lift Go.Cla
variable {h h1 h' : Heap} {p : Addr} {x : Nm → Sl} {vs : Nm → List Value} {S : SS} {n N : Nat} {cs : List Cl}
theorem lay9 {b : Nat} {T : Nat} {k : Heap → Prop} (ns : NS Nm.sc h1 x vs) (enc : Enc x vs S) (hnx : S.nxt = 0) (e : Ext h1 h) (hb : h[b]? = some (.cells (zero8).toArray T (0, 0))) (hfar : h1.size ≤ b)
    (K : ∀ h', SM h' ⟨b, 0, none⟩ x vs S → Keep (some b) h h' → k h') : storeS ⟨b, 0, none⟩ [Sl.toV (x .cls), Sl.toV (x .wat), Sl.toV (x .val), Sl.toV (x .lev), Sl.toV (x .rea), Sl.toV (x .tra), Sl.toV (x .hea), Value.int .i64 0] h k := by
  obtain ⟨c', g1, g2, g3, g4, g5⟩ := setCells_block [Sl.toV (x .cls), Sl.toV (x .wat), Sl.toV (x .val), Sl.toV (x .lev), Sl.toV (x .rea), Sl.toV (x .tra), Sl.toV (x .hea), Value.int .i64 0] 0 0 _ _ hb (by simp [zero8])
  refine ⟨g5, ?_⟩
  have kk := setCells_keep (h := h) ⟨b, 0, none⟩ [Sl.toV (x .cls), Sl.toV (x .wat), Sl.toV (x .val), Sl.toV (x .lev), Sl.toV (x .rea), Sl.toV (x .tra), Sl.toV (x .hea), Value.int .i64 0] 0
  generalize setCells h ⟨b, 0, none⟩ [Sl.toV (x .cls), Sl.toV (x .wat), Sl.toV (x .val), Sl.toV (x .lev), Sl.toV (x .rea), Sl.toV (x .tra), Sl.toV (x .hea), Value.int .i64 0] 0 = h9 at *
  have hne : ∀ i c, (x i).blk = some c → c ≠ b := fun i c hc e2 => by have := ns.lt hc; omega
  refine K h9 ⟨(ns.ext e).keep kk (fun i c hc e2 => hne i c hc (by injection e2)), rfl, fun m hm => ⟨?_, ?_⟩, fun i hi => hne i b hi rfl, enc⟩ kk
  · rw [addr_add _ _ rfl]
    unfold cell?
    simp only [Nat.zero_add]
    rw [g1]
    match m, hm with
    | 0, _ => simpa [rootV, hnx, toI] using g4 0 (by simp)
    | 1, _ => simpa [rootV, hnx, toI] using g4 1 (by simp)
    | 2, _ => simpa [rootV, hnx, toI] using g4 2 (by simp)
    | 3, _ => simpa [rootV, hnx, toI] using g4 3 (by simp)
    | 4, _ => simpa [rootV, hnx, toI] using g4 4 (by simp)
    | 5, _ => simpa [rootV, hnx, toI] using g4 5 (by simp)
    | 6, _ => simpa [rootV, hnx, toI] using g4 6 (by simp)
    | 7, _ => simpa [rootV, hnx, toI] using g4 7 (by simp)
  · rw [addr_add _ _ rfl]; exact frozen_none g1
def cnt (cs : List Cl) : Nat := (cs.filter (·.learned)).length
theorem cnt_map (cs : List Cl) : cnt cs = ((cs.map (·.learned)).filter id).length := by
  unfold cnt
  rw [List.filter_map, List.length_map]; rfl
theorem cnt_use {cs : List Cl} {j : Nat} {u : Int} (hj : j < cs.length) : cnt (cs.set j { cs.getD j d0 with use := u }) = cnt cs := by
  rw [cnt_map, cnt_map]
  congr 2
  apply List.ext_getElem (by simp)
  intro i h1 h2
  simp only [List.getElem_map, List.getElem_set]
  split
  · rename_i e; subst e
    rw [List.getD_eq_getElem?_getD, List.getElem?_eq_getElem hj]; rfl
  · rfl
theorem enc_cls (E : Enc x vs (bldN n cs)) : vs .cls = (List.range cs.length).flatMap (trip x cs) := by
  have hl : (vs .cls).length = 3 * cs.length := E.clen
  apply List.ext_getElem?
  intro i
  by_cases hi : i < 3 * cs.length
  · obtain ⟨j, u, hj, hu, rfl⟩ : ∃ j u : Nat, j < cs.length ∧ u < 3 ∧ i = 3 * j + u := ⟨i / 3, i % 3, by omega, by omega, by omega⟩
    obtain ⟨c0, c1, c2⟩ := E.cr j hj
    have f := flat_trip_get x cs (List.range cs.length) j (by rw [List.length_range]; exact hj) u hu
    rw [List.getElem_range] at f
    rw [f]
    match u, hu with
    | 0, _ => exact c0
    | 1, _ => exact c1
    | 2, _ => exact c2
  · rw [List.getElem?_eq_none (by omega), List.getElem?_eq_none (by rw [flat_trip_len, List.length_range]; omega)]
end Go.Sh

namespace Go.Sh
open Go Go.Lift Go.Cla
variable {h h1 h' : Heap} {p : Addr} {x : Nm → Sl} {vs : Nm → List Value} {S : SS} {n N : Nat} {cs : List Cl}
theorem cnt_app (cs : List Cl) (c : Cl) : cnt (cs ++ [c]) = cnt cs + (if c.learned = true then 1 else 0) := by
  unfold cnt
  rw [List.filter_append, List.length_append]
  by_cases hb : c.learned = true
  · simp [hb]
  · simp [hb]
structure LaidC (h0 h : Heap) (p : Addr) (x : Nm → Sl) (vs : Nm → List Value) (N : Nat) (cs : List Cl) : Prop where
  sm : SM h p x vs (bldN N cs)
  ext : Ext h0 h
  hp : h0.size ≤ p.block
  hx : ∀ i b, (x i).blk = some b → h0.size ≤ b
  fit : ∀ c ∈ cs, FitsL N c.lits
  use : ∀ c ∈ cs, 0 ≤ c.use ∧ c.use ≤ 7
theorem LaidC.to {h0 : Heap} {x' : Nm → Sl} {vs' : Nm → List Value} {cs' : List Cl} (q : LaidC h0 h p x vs N cs) (q' : SM h' p x' vs' (bldN N cs')) (t : To p 8 h x h' x') (hf : ∀ c ∈ cs', FitsL N c.lits) (hu : ∀ c ∈ cs', 0 ≤ c.use ∧ c.use ≤ 7) : LaidC h0 h' p x' vs' N cs' :=
  ⟨q', ext_of_to q.ext t q.hp q.hx, q.hp, far_of_to t q.ext.size q.hx, hf, hu⟩
theorem odd_tmod {i : Nat} : ((Int.tmod (i : Int) 2) == 1) = decide (i % 2 = 1) := by
  rw [Bool.eq_iff_iff, beq_iff_eq, decide_eq_true_eq]
  have : Int.tmod (i : Int) 2 = ((i % 2 : Nat) : Int) := Int.ofNat_tmod i 2 |>.symm
  rw [this]; omega
theorem laid_spec {list : Sl} {ss : List Sl} {xss : List (List Int)} {Q : S8 × Bool → Heap → Prop} (hl : RR h list ss xss) (hm : xss.length ≤ 60) (hx20 : ∀ i (hi : i < xss.length), (xss[i]).length ≤ 20) (hN : N ≤ 20)
    (K : ∀ p h' x vs cs, LaidC h h' p x vs N cs → cs.length ≤ 60 → cnt cs ≤ 30 → Q ((x .cls, x .wat, x .val, x .lev, x .rea, x .tra, x .hea, 0), true) h') : law18ulaid (N : Int) list h Q := by
  have hll : list.len = xss.length := by rw [hl.r.len, hl.len]
  refine mem_ext fun g0 eg => cNew_spec (N := N) (by omega) fun t h1 x vs q1 => ?_
  refine new8 fun h2 T hb e2 hs2 => ?_
  refine lay8 q1 e2 hb (Nat.le_refl _) fun h3 q3 k3 => ?_
  have sg := eg.size; have sq := q1.ext.size; have s2 := e2.size; have s3 := k3.size
  have e3 : Ext h h3 := ((eg.trans q1.ext).trans e2).fresh (by omega) k3
  have L0 : LaidC h h3 ⟨h1.size, 0, none⟩ x vs N [] := ⟨q3, e3, by show h.size ≤ h1.size; omega, fun i b hb => by have := q1.fresh i b hb; omega, by simp, by simp⟩
  clear q3 k3 hb e3 q1 e2 hs2 s2 s3 sq sg eg
  generalize (⟨h1.size, 0, none⟩ : Addr) = p at *
  refine loop.inv (fun (t : Int × Int × Sl × Sl × Sl × Sl × Sl × Sl × Sl × Int) hh => ∃ (i : Nat) (x : Nm → Sl) (vs : Nm → List Value) (cs : List Cl), t.2.1 = (i : Int) ∧ i ≤ xss.length ∧ t.1 = (cs.length : Int) ∧ cs.length ≤ i ∧ 2 * cnt cs ≤ i + 0 ∧ LaidC h hh p x vs N cs) (fun t _ => xss.length - t.2.1.toNat)
    ⟨0, x, vs, [], rfl, by omega, rfl, by simp, by simp [cnt], L0⟩ ?_
  clear L0
  rintro ⟨_, _, junk⟩ h4 ⟨i, x, vs, cs, rfl, hi, rfl, hci, hcnt, L⟩
  dsimp only
  rw [hll]
  have a := bld_ask (n := N) (by omega) cs.length cs rfl (by omega) L.fit
  refine ⟨fun hlt => ?_, fun hge => ?_⟩
  · have hlt := of_decide_eq_true hlt
    have hi' : i < xss.length := by omega
    have hsi : i < ss.length := by rw [hl.len]; exact hi'
    have hv := hl.i i hsi hi'
    have hv20 := hx20 i hi'
    refine seq.cut (fun (t : Int × Sl × Sl × Sl × Sl × Sl × Sl × Sl × Int) hh => ∃ (x : Nm → Sl) (vs : Nm → List Value) (cs : List Cl), t.1 = (cs.length : Int) ∧ cs.length ≤ i + 1 ∧ 2 * cnt cs ≤ i + 1 ∧ LaidC h hh p x vs N cs) ?_ ?_
    · refine R.ld2 (R.ext hl.r L.ext) (j := i) rfl hsi ?_
      intro T
      have e5 : Ext h4 (h4.push (.cells ([] : List Value).toArray T (0, 0))) := Ext.push _ _
      have o5 : Own toI h4.size (h4.push (.cells ([] : List Value).toArray T (0, 0))) ⟨some ⟨h4.size, 0, none⟩, 0, 0⟩ ([] : List Int) := Own.new (toV := toI) (h := h4) (ys := []) (cs := []) (T := T) rfl
      refine o5.append (by have := e5.size; omega) (R.ext hv (L.ext.trans e5)) one_toI (by simp; omega) fun r h6 o6 k6 _ => ?_
      have e6 : Ext h4 h6 := e5.fresh (o5.lt rfl).1 k6
      rw [List.nil_append] at o6
      have q6 := L.sm.ext e6
      have L6 : LaidC h h6 p x vs N cs := L.to q6 (L.sm.toExt e6) L.fit L.use
      refine cAdd_spec q6 (a.t.bnd a.w (fun w => Nat.le_refl _)) (by show cs.length < _; omega) (by rw [a.t.wn, a.t.vn]) o6.r (by omega) (fun hno h7 e7 => ?_) fun hyes h7 x7 vs7 q7 t7 => ?_
      · have L7 : LaidC h h7 p x vs N cs := L6.to (q6.ext e7) (q6.toExt e7) L.fit L.use
        rw [a.t.vn] at hno
        refine seq.cut (fun (b : Bool) hh => b = false ∧ hh = h7) ?_ ?_
        · refine rFits_spec (n := N) (R.ext hv L7.ext) (by omega) (by omega) fun b hb => ?_
          have hbf : b = false := by
            cases b with
            | false => rfl
            | true => exact absurd (hb.1 rfl) hno
          subst hbf
          exact iteF (by decide) (iteF (by decide) (iteT (by decide) (iteF (by decide) ⟨by simp, rfl⟩)))
        rintro b hh ⟨rfl, rfl⟩
        exact iteF rfl (iteF (by decide) ⟨x, vs, cs, rfl, by omega, by omega, L7⟩)
      · rw [a.t.vn] at hyes
        rw [add_bld] at q7
        have L7 : LaidC h h7 p x7 vs7 N (cs ++ [⟨xss[i], (Int.tmod (i : Int) 2) == 1, 0⟩]) := L6.to q7 t7 (fun c hc => by
          rcases List.mem_append.1 hc with hc | hc
          · exact L.fit c hc
          · simp at hc; subst hc; exact hyes) (fun c hc => by
          rcases List.mem_append.1 hc with hc | hc
          · exact L.use c hc
          · simp at hc; subst hc; exact ⟨by simp, by simp⟩)
        refine seq.cut (fun (b : Bool) hh => b = false ∧ hh = h7) ?_ ?_
        · refine rFits_spec (n := N) (R.ext hv L7.ext) (by omega) (by omega) fun b hb => ?_
          have hbt : b = true := hb.2 hyes
          subst hbt
          exact iteF rfl (iteT rfl (iteF (by show ((cs.length : Int) != (cs.length : Int)) = false; simp) (iteF rfl ⟨rfl, rfl⟩)))
        rintro b hh ⟨rfl, rfl⟩
        refine iteF rfl (iteT rfl ?_)
        rintro _ rfl
        rw [w64 (by omega) (by omega)]
        refine ⟨x7, vs7, _, by simp, by simp; omega, ?_, L7⟩
        rw [cnt_app]
        dsimp only
        rw [odd_tmod]
        split
        · rename_i e; have e := of_decide_eq_true e; omega
        · omega
    rintro t h5 ⟨x5, vs5, cs5, ht, h1, h2, L5⟩
    rw [w64 (by omega) (by omega)]
    exact ⟨⟨i + 1, x5, vs5, cs5, by simp, by omega, ht, h1, by omega, L5⟩, by omega⟩
  · have hge := of_decide_eq_false hge
    have hi' : i = xss.length := by omega
    have q := L.sm
    refine seq.cut (fun (t : Bool × Sl × Sl × Sl × Sl × Sl × Sl × Sl × Int) hh => t = (true, x .cls, x .wat, x .val, x .lev, x .rea, x .tra, x .hea, 0) ∧ hh = h4) ?_ ?_
    · have ld : ∀ {k : S8 → Prop}, k (x .cls, x .wat, x .val, x .lev, x .rea, x .tra, x .hea, ((bldN N cs).nxt : Int)) → loadS C_sl_sl_sl_sl_sl_sl_sl_i64 8 p h4 k := fun {k} K => by
        obtain ⟨a, ha, h1⟩ := q.ldS K
        cases ha; exact h1
      refine ld (q.g0 (iteT ?_ (q.g2 ⟨?_, rfl⟩)))
      · rw [q.clsLen]; exact beq_self_eq_true _
      · have : ((((x .val).len : Nat) : Int) == (N : Int)) = true := by
          rw [q.val.r.len, a.t.vn]; exact beq_self_eq_true _
        rw [this]; rfl
    rintro t hh ⟨rfl, rfl⟩
    exact K p hh x vs cs L (by omega) (by omega)
end Go.Sh

namespace Go.Sh
open Go Go.Lift Go.Cla
theorem ClauseReduce_holds {nn most : Int} {list uses lits : Sl} {ss : List Sl} {xss : List (List Int)} {us ts : List Int} {h : Heap} {Q : Bool → Heap → Prop} (hl : RR h list ss xss) (hus : RJ h uses us) (ht : RJ h lits ts) (K : ∀ h', Ext h h' → Q true h') : law18uClauseReduce nn list uses most lits h Q := by
  refine speaks18uspec fun h0 e0 => ⟨fun hb => by simp at hb, fun _ => ?_⟩
  have hl := hl.ext e0
  have ht := R.ext ht e0
  have hus := R.ext hus e0
  have hll : list.len = xss.length := by rw [hl.r.len, hl.len]
  refine seq.cut (fun (b : Bool) hh => hh = h0 ∧ (b = false → 0 ≤ nn ∧ nn ≤ 20 ∧ xss.length ≤ 60 ∧ (∀ i (hi : i < xss.length), (xss[i]).length ≤ 20) ∧ ts.length ≤ 30)) ?_ ?_
  · refine ⟨fun _ => ⟨rfl, nofun⟩, fun h1 => ⟨fun _ => ⟨rfl, nofun⟩, fun h2 => ?_⟩⟩
    simp only [decide_eq_false_iff_not] at h1 h2
    refine Great18uspec hl fun b hb => ⟨fun _ => ⟨rfl, nofun⟩, fun hbf => ⟨fun _ => ⟨rfl, nofun⟩, fun h3 => ⟨rfl, fun h4 => ?_⟩⟩⟩
    simp only [decide_eq_false_iff_not] at h4
    rw [ht.len] at h4
    obtain ⟨g1, g2⟩ := hb hbf
    exact ⟨by omega, by omega, g1, g2, by omega⟩
  rintro b h1 ⟨rfl, hb⟩
  refine ⟨fun _ => K h1 e0, fun hbf => ?_⟩
  obtain ⟨hn0, hn20, hm60, hx20, ht30⟩ := hb hbf
  obtain ⟨N, rfl⟩ : ∃ N : Nat, nn = (N : Int) := ⟨nn.toNat, by omega⟩
  have hN : N ≤ 20 := by omega
  have z0 := e0.size
  refine laid_spec hl hm60 hx20 hN fun p h2 x vs cs L hcs hcnt => ?_
  refine new8 fun h3 T hb3 e3 hs3 => ?_
  refine lay9 L.sm.ns L.sm.enc rfl e3 hb3 (Nat.le_refl _) fun h4 q4 k4 => ?_
  have s2 := L.ext.size; have s3 := e3.size; have s4 := k4.size
  have e4 : Ext h1 h4 := (L.ext.trans e3).fresh s2 k4
  have L4 : LaidC h1 h4 ⟨h2.size, 0, none⟩ x vs N cs := ⟨q4, e4, s2, L.hx, L.fit, L.use⟩
  clear q4 k4 hb3 e3 e4 L
  generalize (⟨h2.size, 0, none⟩ : Addr) = p2 at *
  refine iteF rfl (L4.sm.g0 ?_)
  have hcl : (x .cls).len = cs.length := L4.sm.clsLen
  rw [hcl]
  refine loop.inv (fun (t : Int) hh => ∃ (i : Nat) (vs : Nm → List Value) (cs' : List Cl), t = (i : Int) ∧ i ≤ cs.length ∧ cs'.length = cs.length ∧ cnt cs' = cnt cs ∧ LaidC h1 hh p2 x vs N cs') (fun t _ => cs.length - t.toNat) ⟨0, vs, cs, rfl, by omega, rfl, rfl, L4⟩ ?_
  clear L4
  rintro t h5 ⟨i, vs5, cs5, rfl, hi, hc5, hn5, L5⟩
  refine ⟨fun hlt => ?_, fun hge => ?_⟩
  · have hlt := of_decide_eq_true hlt
    refine seq.cut (fun (_ : Unit) hh => ∃ (vs : Nm → List Value) (cs' : List Cl), cs'.length = cs.length ∧ cnt cs' = cnt cs ∧ LaidC h1 hh p2 x vs N cs') ?_ ?_
    · refine ⟨fun hu => ?_, fun _ => ⟨vs5, cs5, hc5, hn5, L5⟩⟩
      have hu := of_decide_eq_true hu
      have hul := hus.len
      refine L5.sm.g0 (RJ.ld (R.ext hus L5.ext) (j := i) rfl (by omega) ?_)
      obtain ⟨m, hm, hm7⟩ := and7 (at0 us i)
      rw [hm]
      have hj : i < cs5.length := by omega
      refine L5.sm.useAt (j := i) hj rfl fun h6 vs6 q6 t6 => ?_
      rw [use_bld _ hj] at q6
      refine ⟨vs6, _, by rw [List.length_set]; exact hc5, by rw [cnt_use hj]; exact hn5, L5.to q6 t6 (fun c hc => ?_) (fun c hc => ?_)⟩
      · rcases List.mem_or_eq_of_mem_set hc with hc | rfl
        · exact L5.fit c hc
        · have := L5.fit _ (List.getElem_mem hj)
          show FitsL N (cs5.getD i d0).lits
          rw [List.getD_eq_getElem?_getD, List.getElem?_eq_getElem hj]
          exact this
      · rcases List.mem_or_eq_of_mem_set hc with hc | rfl
        · exact L5.use c hc
        · exact ⟨by dsimp only; omega, by dsimp only; omega⟩
    rintro _ h6 ⟨vs6, cs6, hc6, hn6, L6⟩
    rw [w64 (by omega) (by omega)]
    exact ⟨⟨i + 1, vs6, cs6, by omega, by omega, hc6, hn6, L6⟩, by omega⟩
  have hc60 : cs5.length ≤ 60 := by omega
  have hlr : (lrn (bldN N cs5) cs5.length).length ≤ 39 := by
    rw [lrn_count]
    have : (cs5.filter (·.learned)).length = cnt cs := hn5
    omega
  intro T9
  have e9 : Ext h5 (h5.push (.cells ([] : List Value).toArray T9 (0, 0))) := Ext.push _ _
  have o9 : OwnV (h5.push (.cells ([] : List Value).toArray T9 (0, 0))) (Sl.sc 3 ⟨some ⟨h5.size, 0, none⟩, 0, 0⟩) [] := by
    have := Own.new (toV := (Subtype.val : One → Value)) (h := h5) (ys := []) (cs := []) (T := T9) rfl
    exact ⟨[], rfl, by simpa [Sl.sc] using this.mono (Nat.zero_le _)⟩
  have z9 : (h5.push (.cells ([] : List Value).toArray T9 (0, 0)) : Heap).size = h5.size + 1 := by simp
  generalize (h5.push (.cells ([] : List Value).toArray T9 (0, 0)) : Heap) = h9 at *
  have q9 := L5.sm.ext e9
  refine q9.g0 ?_
  have own9 := q9.ns.own .cls
  obtain ⟨ys9, hy9, oy9⟩ := own9
  refine appendS_sc (by decide) (by show (0 + (x .cls).len) * 40 ≤ 2 ^ 46; omega) ?_
  refine o9.append (ys := vs5 .cls) ⟨ys9, hy9, oy9.r⟩ (by rw [q9.enc.clen]; show (0 + 3 * cs5.length) * _ ≤ _; omega) fun v h10 o10 k10 hb10 s'' hs'' => ?_
  subst hs''
  have k10 : Keep (some h5.size) h9 h10 := k10
  have e510 : Ext h5 h10 := e9.fresh (Nat.le_refl _) k10
  rw [List.nil_append, enc_cls q9.enc] at o10
  have q10 := L5.sm.ext e510
  have vfar : ∀ b, s''.blk = some b → h5.size ≤ b := fun b hb => by
    rcases hb10 b hb with g | g
    · have g : some h5.size = some b := g
      cases g; exact Nat.le_refl _
    · omega
  have e10 : Ext h1 h10 := L5.ext.trans e510
  have sp := L5.sm.plt
  refine Reduce_spec q10 (by omega) (by omega) L5.fit hlr fun g h11 x11 vs11 hg q11 t11 c11 => ?_
  have o11 := o10.too t11 fun b hb => by
    have := vfar b hb
    exact ⟨by omega, fun i hi => by have := L5.sm.ns.lt hi; omega⟩
  have hx11 := far_of_to t11 (h0 := h1) e10.size L5.hx
  have e11 : Ext h1 h11 := ext_of_to e10 t11 L5.hp L5.hx
  have z1 : ∀ b, lits.blk = some b → ts ≠ [] → b < h1.size := fun b hb hne => by
    cases ha : lits.a with
    | none => unfold Sl.blk at hb; rw [ha] at hb; cases hb
    | some a =>
      have := ht.lt ha hne
      unfold Sl.blk at hb; rw [ha] at hb; cases hb; exact this
  refine rest_spec (H0 := h) q11 hN hc60 L5.fit L5.use hlr hg c11 o11 (R.ext ht e11) (fun hne b hb => ?_) ht30 (fun h' y t => ?_) K
  · have := z1 b hb hne
    exact ⟨by have := L5.hp; omega, fun i hi => by have := hx11 i b hi; omega⟩
  · exact e0.trans (ext_of_to e11 t L5.hp hx11)
end Go.Sh
