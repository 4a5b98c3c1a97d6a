/-
  Laws that the proof of this claim's statement leans on, each proved under the conditions that it states.
-/
import Derived.Test.YtkjcocjkcjmafaaSpN
import Derived.Test.YtkjcocjkcjmafaaSpL
set_option linter.unusedVariables false
set_option linter.unusedSimpArgs false
namespace Go.Sh
open Go Go.Lift Go.Cla
variable {h h' : Heap} {p : Addr} {x x' : Nm → Sl} {vs vs' : Nm → List Value} {S S1 : SS} {n j : Nat}
theorem row_lt {h : Heap} {s : Sl} {L : List Int} (hr : RJ h s L) (hne : L ≠ []) : ∀ b, s.blk = some b → b < h.size := fun b hb => by
  unfold Sl.blk at hb
  cases ha : s.a with
  | none => rw [ha] at hb; cases hb
  | some a => rw [ha] at hb; cases hb; exact R.lt hr ha hne
theorem levF_one {A : Nat → Bool} {u : Nat} (hh : headF S A = [u]) (h : (lessF S A).length = 1) : levF S A = 0 := by
  unfold lessF at h
  unfold levF
  rw [hh] at h
  split at h
  · simp at h
  · rename_i g; rw [if_neg g]
theorem conf_spec {Q : Bool → Heap → Prop} (q : SM h p x vs S) (c : CB n S1 S j) (hn : n ≤ 16) (hc : S.cls.length ≤ 60) (hh : S.hea.length ≤ 40) (hu : ∀ i, 0 ≤ (S.cl i).use ∧ (S.cl i).use ≤ 4611686018427387904)
    (K : ∀ h' x', To p 8 h x h' x' → Q true h') :
    seq (fun (K0u4 : (Int × Sl × Int × Sl) → Heap → Prop) =>
     loadS C_sl_sl_sl_sl_sl_sl_sl_i64 8 p h fun v_9 =>
     Lift.load Sl.toV (p.add 0) h fun v_10 =>
     idxS v_10 (j : Int) 3 fun a_2 =>
     Lift.load Sl.toV (a_2.add 0) h fun v_11 =>
     mem h fun h0u13 =>
     learn_From (v_9.1, v_9.2.1, v_9.2.2.1, v_9.2.2.2.1, v_9.2.2.2.2.1, v_9.2.2.2.2.2.1, v_9.2.2.2.2.2.2.1, v_9.2.2.2.2.2.2.2) v_11 h0u13 fun v_13 h0u16 =>
     mem h0u16 fun h0u17 =>
     K0u4 (v_13.2, v_13.1.1, v_13.1.2.1, v_13.1.2.2) h0u17
    ) (fun t0u2 h0u12 =>
     seq (fun (K0u5 : Bool → Heap → Prop) =>
      iteB (t0u2.1 != 0) (
       K0u5 true h0u12
      ) (
       iteB (((t0u2.2.1.len : Nat) : Int) == 0) (
        K0u5 true h0u12
       ) (
        Lift.load Sl.toV (p.add 2) h0u12 fun v_14 =>
        ref18uFalse v_14 t0u2.2.1 h0u12 fun v_15 h0u19 =>
        K0u5 (!v_15) h0u19
       )
      )
     ) (fun t0u3 h0u18 =>
      iteB t0u3 (
       Q false h0u18
      ) (
       mkS [Value.int .i64 0] 8 (n : Int) (n : Int) h0u18 fun v_16 h0u20 =>
       loop (fun (s0u3 : Int) h0u21 (K0u6 : Int → Heap → Prop) =>
        iteB (decide (s0u3 < ((t0u2.2.1.len : Nat) : Int))) (
         idxS t0u2.2.1 s0u3 1 fun a_3 =>
         Lift.load (Value.int .i64) a_3 h0u21 fun v_17 =>
         ref18uTruth v_17 h0u21 fun v_18 h0u22 =>
         ref18uSign v_17 h0u22 fun v_19 h0u23 =>
         idxS v_16 v_18 1 fun a_4 =>
         Lift.store a_4 (Value.int .i64 (IntKind.wrap .i64 (0 - v_19))) h0u23 fun h0u24 =>
         K0u6 (IntKind.wrap .i64 (s0u3 + 1)) h0u24
        ) (
         Lift.load Sl.toV (p.add 5) h0u21 fun v_20 =>
         loop (fun (s0u4 : Int) h0u25 (K0u7 : Int → Heap → Prop) =>
          iteB (decide (s0u4 < ((v_20.len : Nat) : Int))) (
           seq (fun (K0u8 : Unit → Heap → Prop) =>
            idxS v_20 s0u4 1 fun a_5 =>
            Lift.load (Value.int .i64) a_5 h0u25 fun v_21 =>
            seq (fun (K0u9 : Bool → Heap → Prop) =>
             Lift.load Sl.toV (p.add 6) h0u25 fun v_22 =>
             iteB (decide (((v_22.len : Nat) : Int) > 0)) (
              Lift.load Sl.toV (p.add 6) h0u25 fun v_23 =>
              idxS v_23 0 1 fun a_6 =>
              Lift.load (Value.int .i64) a_6 h0u25 fun v_24 =>
              K0u9 (decide (s0u4 < v_24)) h0u25
             ) (
              K0u9 false h0u25
             )
            ) (fun t0u5 h0u27 =>
             iteB t0u5 (
              ref18uTruth v_21 h0u27 fun v_25 h0u28 =>
              ref18uSign v_21 h0u28 fun v_26 h0u29 =>
              idxS v_16 v_25 1 fun a_7 =>
              Lift.store a_7 (Value.int .i64 v_26) h0u29 fun h0u30 =>
              K0u8 () h0u30
             ) (
              K0u8 () h0u27
             )
            )
           ) (fun t0u4 h0u26 =>
            K0u7 (IntKind.wrap .i64 (s0u4 + 1)) h0u26
           )
          ) (
           Lift.load Sl.toV (p.add 0) h0u25 fun v_27 =>
           ref18uClose v_16 v_27 h0u25 fun v_28 h0u31 =>
           iteB (!v_28.2) (
            Q false h0u31
           ) (
            clause_Back (some p) t0u2.2.2.1 h0u31 fun v_29 h0u32 =>
            seq (fun (K0u10 : Bool → Heap → Prop) =>
             loadS C_sl_sl_sl_sl_sl_sl_sl_i64 8 p h0u32 fun v_30 =>
             idxS t0u2.2.1 0 1 fun a_8 =>
             Lift.load (Value.int .i64) a_8 h0u32 fun v_31 =>
             clause_Value (v_30.1, v_30.2.1, v_30.2.2.1, v_30.2.2.2.1, v_30.2.2.2.2.1, v_30.2.2.2.2.2.1, v_30.2.2.2.2.2.2.1, v_30.2.2.2.2.2.2.2) v_31 h0u32 fun v_32 h0u34 =>
             iteB (v_32 != 0) (
              K0u10 true h0u34
             ) (
              Lift.load Sl.toV (p.add 2) h0u34 fun v_33 =>
              sliceOf t0u2.2.1 (some 1) none none 1 fun v_34 =>
              ref18uFalse v_33 v_34 h0u34 fun v_35 h0u35 =>
              K0u10 (!v_35) h0u35
             )
            ) (fun t0u6 h0u33 =>
             iteB t0u6 (
              Q false h0u33
             ) (
              iteB (((t0u2.2.1.len : Nat) : Int) == 1) (
               Q (t0u2.2.2.1 == 0) h0u33
              ) (
               clause_Add (some p) t0u2.2.1 true h0u33 fun v_36 h0u36 =>
               seq (fun (K0u11 : Bool → Heap → Prop) =>
                iteB (v_36.2 != 0) (
                 K0u11 true h0u36
                ) (
                 idxS t0u2.2.1 0 1 fun a_9 =>
                 Lift.load (Value.int .i64) a_9 h0u36 fun v_37 =>
                 clause_Tell (some p) v_37 v_36.1 h0u36 fun v_38 h0u38 =>
                 iteB (!v_38) (
                  K0u11 true h0u38
                 ) (
                  loadS C_sl_sl_sl_sl_sl_sl_sl_i64 8 p h0u38 fun v_39 =>
                  ref18uRight (v_39.1, v_39.2.1, v_39.2.2.1, v_39.2.2.2.1, v_39.2.2.2.2.1, v_39.2.2.2.2.2.1, v_39.2.2.2.2.2.2.1, v_39.2.2.2.2.2.2.2) h0u38 fun v_40 h0u39 =>
                  K0u11 (!v_40) h0u39
                 )
                )
               ) (fun t0u7 h0u37 =>
                iteB t0u7 (
                 Q false h0u37
                ) (
                 new [] h0u37 fun a_10 h0u40 =>
                 Lift.load Sl.toV (p.add 2) h0u40 fun v_42 =>
                 appendS 1 8 (⟨some a_10, 0, 0⟩ : Sl) v_42 h0u40 fun v_43 h0u41 =>
                 Lift.load Sl.toV (p.add 0) h0u41 fun v_44 =>
                 ref18uClose v_43 v_44 h0u41 fun v_45 h0u42 =>
                 clause_Run (some p) h0u42 fun v_46 h0u43 =>
                 iteB (!((decide (v_46 ≥ 0)) == v_45.2)) (
                  Q false h0u43
                 ) (
                  seq (fun (K0u12 : Bool → Heap → Prop) =>
                   iteB v_45.2 (
                    K0u12 true h0u43
                   ) (
                    Lift.load Sl.toV (p.add 2) h0u43 fun v_47 =>
                    ref18uSameInts v_47 v_45.1 h0u43 fun v_48 h0u45 =>
                    K0u12 v_48 h0u45
                   )
                  ) (fun t0u8 h0u44 =>
                   Q t0u8 h0u44
                  )
                 )
                )
               )
              )
             )
            )
           )
          )
         ) 0 h0u21
        )
       ) 0 h0u20
      )
     )
    ) := by
  have t := c.t
  have Rt := c.right
  have F := few_of c.t c.w (by omega) (by omega) hh
  have hvn := t.vn
  have hnn : S.val.length ≤ 1048576 := by omega
  obtain ⟨st, hst⟩ := c.lesson
  have Lp := lesson_p Rt hnn hst
  obtain ⟨k, d, ek, B, aB, gB, xB, u, hlu, huA, hhd, hun, hoth⟩ := c.backs hst
  have hlevs : ∀ v, v < S.val.length → atI S.lev v ≤ (S.hea.length : Int) := fun v hv => (Rt.lev_le' hv).2
  have hAn : ∀ v ∈ lessF S st.A, v < S.val.length ∧ 0 < atI S.lev v := fun v hv => by
    have := (mem_less hlevs).1 hv
    exact Lp.inn v (Lp.sub v this.2)
  have hLt : ∀ m ∈ (lessF S st.A).map (nl S), There n m ∧ vl S.val m = -1 ∧ 0 < atI S.lev (tr m) := fun m hm => by
    obtain ⟨v, hv, rfl⟩ := List.mem_map.1 hm
    have h1 := hAn v hv
    have h2 := nl_told Rt h1.1 h1.2
    exact ⟨by rw [← hvn]; exact h2.1, h2.2.2, by rw [h2.2.1]; exact h1.2⟩
  have hLtr : ((lessF S st.A).map (nl S)).map tr = lessF S st.A := by
    rw [List.map_map]
    refine (List.map_congr_left fun v hv => ?_).trans (List.map_id _)
    have h1 := hAn v hv
    exact (nl_told Rt h1.1 h1.2).2.1
  have hnd : (((lessF S st.A).map (nl S)).map tr).Nodup := by rw [hLtr]; exact less_nodup
  obtain ⟨rest, hrest⟩ : ∃ rest, lessF S st.A = u :: rest := ⟨_, by unfold lessF; rw [hhd]; rfl⟩
  have hL0 : atI ((lessF S st.A).map (nl S)) 0 = nl S u := by rw [hrest]; rfl
  have hLlen : ((lessF S st.A).map (nl S)).length ≤ 1000 := by
    have := few_of_nodup (l := lessF S st.A) less_nodup (N := n) (fun v hv => by rw [← hvn]; exact (hAn v hv).1)
    simp only [List.length_map]; omega
  have hLne : (lessF S st.A).map (nl S) ≠ [] := by rw [hrest]; simp
  have hL1 : 1 ≤ ((lessF S st.A).map (nl S)).length := by rw [hrest]; simp
  have hlevL := levF_one (S := S) hhd
  have hfl : ∀ m ∈ (lessF S st.A).map (nl S), m ≠ nl S u → vl (backS S k d).val m = -1 := fun m hm hne => by
    obtain ⟨v, hv, rfl⟩ := List.mem_map.1 hm
    exact hoth v hv (fun e => hne (by rw [e]))
  have hAless : ∀ v, st.A v = true → nl S v ∈ (lessF S st.A).map (nl S) := fun v hv => List.mem_map_of_mem ((mem_less hlevs).2 ⟨(Lp.inn v (Lp.sub v hv)).1, hv⟩)
  -- the second one's level
  have hla : ∀ i, i < (backS S k d).tra.length → tl (backS S k d) i = - atI ((lessF S st.A).map (nl S)) 1 → 2 ≤ ((lessF S st.A).map (nl S)).length → ∀ hd ∈ (backS S k d).hea, hd ≤ (i : Int) := by
    intro i hi e h2 hd hm
    rw [B.tlen] at hi
    rw [B.tlO hi] at e
    obtain ⟨s, hs⟩ : ∃ s : Nat, secF S st.A S.val.length = (s : Int) := by
      rcases secF_spec (S := S) st.A S.val.length with ⟨e, _⟩ | ⟨s, _, e, _⟩
      · exfalso
        have : restF S st.A = [] := List.filter_eq_nil_iff.2 fun v hv => by
          rcases secF_spec (S := S) st.A S.val.length with ⟨_, h0⟩ | ⟨s, _, e2, _⟩
          · have := h0 v (List.mem_range.1 hv)
            simp only [Bool.and_eq_true, decide_eq_true_eq, not_and]
            intro g; exact absurd g.2 (this g.1)
          · omega
        have hl : lessF S st.A = [u] := by unfold lessF; rw [hhd, this, if_neg (by omega)]; rfl
        rw [hl] at h2; simp at h2
      · exact ⟨s, e⟩
    have hless : lessF S st.A = u :: s :: restF S st.A := by unfold lessF; rw [hhd, hs, if_pos (by omega)]; simp
    have hsm : s ∈ lessF S st.A := by rw [hless]; simp
    have h1 := nl_told Rt (hAn s hsm).1 (hAn s hsm).2
    have e1 : atI ((lessF S st.A).map (nl S)) 1 = nl S s := by rw [hless]; rfl
    rw [e1] at e
    have etr : tr (tl S i) = s := by rw [e, tr_neg, h1.2.1]
    have els : atI S.lev s = (k : Int) := by
      rw [← ek]; unfold levF; rw [hs, if_pos (by omega)]; rfl
    have hdl := B.dle
    obtain ⟨m, hm2, em⟩ := c.g.lev i (by omega)
    rw [etr, els] at em
    obtain ⟨q, hq, rfl⟩ := mem_at hm
    rw [B.hlen] at hq
    rw [BackP.heaO hq]
    exact hm2.2.1 q (by omega)
  generalize hLL : (lessF S st.A).map (nl S) = LL at *
  have out0 : ∀ {b : Nat}, h.size ≤ b → Out p x b := fun {b} hb => ⟨fun e => by have := q.plt; omega, fun i e => by have := q.ns.lt e; omega⟩
  refine seq.cut (fun (t : Int × Sl × Int × Sl) hh => ∃ o sn, t = (0, o, levF S st.A, sn) ∧ Ext h hh ∧ RJ hh o LL ∧ ∀ b, o.blk = some b → h.size ≤ b) ?_ ?_
  · refine ⟨_, q.all, q.g0 ?_⟩
    refine q.clsLits rfl c.hj ?_
    refine mem_ext fun h1 e1 => lfrom_spec (q.srd.ext e1) Rt F (R.ext (q.cl j).r e1) (by have := F.l j; omega) (fun hno => by rw [hst] at hno; cases hno) fun st' hst' h2 o sn e2 r1 _ hb => ?_
    rw [hst] at hst'
    cases hst'
    rw [hLL] at r1
    exact mem_ext fun h3 e3 => ⟨o, sn, rfl, e1.trans (e2.trans e3), R.ext r1 e3, fun b hb' => by have := hb b hb'; have := e1.size; omega⟩
  rintro _ h1 ⟨o, sn, rfl, e1, ro, ob⟩
  dsimp only
  have q1 := q.ext e1
  have hol := ro.len
  refine seq.cut (fun (b : Bool) hh => b = false ∧ hh = h1) ⟨fun g => by simp at g, fun _ => ⟨fun g => ?_, fun _ => ?_⟩⟩ ?_
  · have : ((o.len : Nat) : Int) = 0 := by simpa using g
    omega
  · exact q1.g2 (rFalse_spec q1.val.r ro hnn t.tri (by omega) (fun m hm => (hLt m hm).2.1) ⟨rfl, rfl⟩)
  rintro _ _ ⟨rfl, rfl⟩
  refine ⟨nofun, fun _ => ?_⟩
  refine mk_rep (toV := toI) (a := 0) rfl (by omega) (by decide) fun v h2 o2 e2 bv => ?_
  refine vrowL_spec (n := n) ro o2 e2 (by simp) (by omega) (by omega) (fun y hy => by have := List.eq_of_mem_replicate hy; omega) (fun m hm => (hLt m hm).1) hnd fun h3 V3 o3 e3 l3 t3 f3 => ?_
  have q3 := q1.ext e3
  refine ⟨_, (q3.root 5 (by decide)).1, ?_⟩
  have hhl := c.hlen
  refine vrowT_spec (L := LL) q1 Rt o3 e3 (by omega) hnn (by have := t.tlen; omega) (by omega) t3 f3 (fun m hm => by have := (hLt m hm).2.2; omega) fun h4 V4 o4 e4 l4 t4 f4 g4 => ?_
  have q4 := q1.ext e4
  refine q4.g0 ?_
  have hfit : ∀ i, i < S.cls.length → FitsL V4.length (S.cl i).lits := fun i hi => by rw [l4, hvn]; exact t.fit i hi
  refine Close_spec q4.srd o4.r (by omega) t4 (by omega) hfit (fun i _ => by have := F.l i; omega) (fun r W h5 _ fol stw _ e5 => ?_) (fun r W h5 cc fol hcc hfc e5 => ⟨fun g => (by simp at g), fun _ => ?_⟩)
  · exfalso
    refine rup_clash Rt hnn (W := W) (fun l hl hl0 => ?_) stw c.hj hst (fun v hv => ?_)
    · obtain ⟨i, hi, e⟩ := mem_at ((t.vlf_iff).1 hl)
      have e : tl S i = - l := e
      obtain ⟨m, hm, em⟩ := c.g.lev i hi
      have hi0 : (i : Int) < atI S.hea 0 := by
        rw [e, tr_neg, hl0] at em
        have : m = 0 := by omega
        subst this
        exact hm.2.2 (by omega)
      have h1 := fol.told _ (g4 i hi hi0)
      rw [e, vl_neg] at h1
      omega
    · have h1 := f4 _ (hAless v hv)
      have h2 := fol.told (- nl S v) (by rw [vl_neg, h1]; rfl)
      rw [vl_neg] at h2
      omega
  -- back
  have q5 := q4.ext e5
  have e15 := e4.trans e5
  rw [ek] at hlevL ⊢
  refine Back_spec q5 B (by omega) fun h6 x6 vs6 r6 q6 t6 => ?_
  have ro5 := R.ext ro e15
  have out5 : ∀ b, o.blk = some b → Out p x b := fun b hb => out0 (ob b hb)
  have ro6 := R.to ro5 t6 out5
  have out6 : ∀ b, o.blk = some b → Out p x6 b := fun b hb => t6.out (row_lt ro5 hLne b hb) (out5 b hb)
  have vB : (backS S k d).val.length = n := aB.t.vn
  have T06 : To p 8 h x h6 x6 := (q.toExt (e1.trans e15)).trans t6
  refine seq.cut (fun (b : Bool) hh => b = false ∧ Ext h6 hh) ?_ ?_
  · refine ⟨_, q6.all, ?_⟩
    refine RJ.ld ro6 (j := 0) rfl (by omega) ?_
    rw [at_atI, hL0]
    refine Value_spec q6.val.r (by omega) aB.t.tri fun h7 e7 => ⟨fun g => by rw [hun] at g; simp at g, fun _ => ?_⟩
    refine (q6.ext e7).g2 (R.drop (R.ext ro6 e7) (j := 1) rfl hL1 fun sd rd _ => rFalse_spec (q6.ext e7).val.r rd (by omega) aB.t.tri (by simp; omega) (fun m hm => ?_) ⟨rfl, e7⟩)
    have hmL := List.mem_of_mem_drop hm
    refine hfl m hmL fun e => ?_
    -- it isn't the first one
    have hp : (LL.map tr).Nodup := hnd
    obtain ⟨y, ys, hys⟩ : ∃ y ys, LL = y :: ys := by
      cases LL with
      | nil => exact absurd rfl hLne
      | cons y ys => exact ⟨y, ys, rfl⟩
    rw [hys] at hm hp hL0
    simp only [List.drop_succ_cons, List.drop_zero] at hm
    simp only [List.map_cons, List.nodup_cons] at hp
    have hy : y = nl S u := hL0
    exact hp.1 (by rw [hy, ← e]; exact List.mem_map_of_mem hm)
  rintro _ h7 ⟨rfl, e7⟩
  refine ⟨nofun, fun _ => ?_⟩
  have q7 := q6.ext e7
  have ro7 := R.ext ro6 e7
  have T07 := T06.trans (q6.toExt e7)
  refine ⟨fun g => ?_, fun g => ?_⟩
  · have g : ((o.len : Nat) : Int) = 1 := by simpa using g
    have hk0 : (k : Int) = 0 := hlevL (by have := congrArg List.length hLL; simp only [List.length_map] at this; omega)
    rw [hk0]
    exact K h7 x6 T07
  have g : ¬ ((o.len : Nat) : Int) = 1 := by simpa using g
  have hL2 : 2 ≤ LL.length := by omega
  have lq : Learn n (backS S k d) LL := ⟨aB, gB, ⟨fun m hm => (hLt m hm).1, hnd, hL2⟩, xB, by rw [hL0]; exact hun, fun m hm hne => hfl m hm (by rw [← hL0]; exact hne), fun i hi e hd hm => hla i hi e hL2 hd hm, by show S.cls.length < _; omega⟩
  have tw := lq.tw
  have hcB : (backS S k d).cls.length = S.cls.length := rfl
  refine cAdd_spec q7 (aB.t.bnd aB.w (fun w => Nat.le_refl _)) (by omega) (by rw [aB.t.wn, vB]) ro7 (by omega) (fun hno => absurd (by rw [vB]; exact lq.f) hno) fun _ h8 x8 vs8 q8 t8 => ?_
  have lenT : (lrnS (backS S k d) LL).cls.length ≤ 100 := by
    have : (lrnS (backS S k d) LL).cls.length = (addS (backS S k d) LL true).cls.length := rfl
    rw [this, addS_len, hcB]; omega
  have ro8 := R.to ro7 t8 out6
  have T08 := T07.trans t8
  refine seq.cut (fun (b : Bool) hh => b = false ∧ ∃ x' vs', SM hh p x' vs' (lrnS (backS S k d) LL) ∧ To p 8 h x hh x') ⟨fun g => (by simp at g), fun _ => ?_⟩ ?_
  · refine RJ.ld ro8 (j := 0) rfl (by omega) ?_
    rw [at_atI]
    have hvA : (addS (backS S k d) LL true).val = (backS S k d).val := rfl
    refine Tell_spec q8 (tw.1.bnd tw.2 (fun w => Nat.le_refl _)) tw.1.tri (by rw [tw.1.ln, tw.1.vn]) (by rw [tw.1.rn, tw.1.vn]) (fun hno => ?_) (fun _ hv => ?_) fun _ _ h9 x9 vs9 q9 t9 => ⟨nofun, fun _ => ?_⟩
    · exfalso
      rw [hvA] at hno
      have h0 := lq.un
      rcases hno with hno | hno
      · exact hno (by rw [vB]; exact lq.l0)
      · omega
    · exfalso
      rw [hvA] at hv
      have h0 := lq.un
      omega
    · have aT := lq.ask
      have e9 : putS (addS (backS S k d) LL true) (atI LL 0) ((backS S k d).cls.length : Int) = lrnS (backS S k d) LL := rfl
      rw [e9] at q9
      refine ⟨_, q9.all, ?_⟩
      have heaT : (lrnS (backS S k d) LL).hea.length ≤ 40 := by
        have : (lrnS (backS S k d) LL).hea.length = (backS S k d).hea.length := rfl
        rw [this, B.hlen]; have := B.hk; omega
      refine rRight_spec q9.srd (few_of aT.t aT.w (by omega) lenT heaT) fun b h10 hb e10 => ?_
      rw [hb.2 (right_of aT.t aT.w lq.gs)]
      exact ⟨rfl, x9, vs9, q9.ext e10, (T08.trans t9).trans (q9.toExt e10)⟩
  rintro _ h10 ⟨rfl, x10, vs10, q10, T10⟩
  refine ⟨nofun, fun _ => ?_⟩
  have aT := lq.ask
  have tk := aT.t
  have hclT : ∀ i, ((lrnS (backS S k d) LL).cl i) = if i = S.cls.length then ⟨LL, true, 0⟩ else S.cl i := fun i => by
    have e : (lrnS (backS S k d) LL).cl i = (addS (backS S k d) LL true).cl i := rfl
    rw [e, addS_cl]; rfl
  have huT : ∀ i, 0 ≤ ((lrnS (backS S k d) LL).cl i).use ∧ ((lrnS (backS S k d) LL).cl i).use ≤ 4611686018427387904 := fun i => by
    rw [hclT]
    split
    · exact ⟨by show (0 : Int) ≤ 0; omega, by show (0 : Int) ≤ 4611686018427387904; omega⟩
    · exact hu i
  generalize lrnS (backS S k d) LL = ST at *
  intro T11
  have n11 : Own toI h10.size (h10.push (.cells ([] : List Value).toArray T11 (0, 0))) ⟨some ⟨h10.size, 0, none⟩, 0, 0⟩ [] := Own.new (ys := ([] : List Int)) rfl
  have e11 : Ext h10 (h10.push (.cells ([] : List Value).toArray T11 (0, 0))) := Ext.push _ _
  generalize h10.push (.cells ([] : List Value).toArray T11 (0, 0)) = h11 at *
  have q11 := q10.ext e11
  refine q11.g2 ?_
  have sz11 := e11.size
  refine n11.append sz11 q11.val.r (fun _ => rfl) (by simp; rw [tk.vn]; omega) fun v12 h12 o12 k12 _ => ?_
  have e12 : Ext h10 h12 := by
    have hb : (⟨some ⟨h10.size, 0, none⟩, 0, 0⟩ : Sl).blk = some h10.size := rfl
    rw [hb] at k12
    exact Keep.fresh e11 (Nat.le_refl _) k12
  have q12 := q10.ext e12
  have r12 : RJ h12 v12 ST.val := by simpa using o12.r
  refine q12.g0 ?_
  have T12 := T10.trans (q10.toExt e12)
  refine Close_spec q12.srd r12 (by rw [tk.vn]; omega) tk.tri (by omega) (fun i hi => by rw [tk.vn]; exact tk.fit i hi) (fun i hi => ?_) (fun r W h13 hrW fol stw hrb e13 => ?_) (fun r W h13 cc fol hcc hfc e13 => ?_)
  · have ff := tk.fit i hi
    have := few_of_nodup ff.2.1 (N := n) (fun v hv => by obtain ⟨l, hl, e⟩ := List.mem_map.1 hv; rw [← e]; exact (ff.1 l hl).tr)
    rw [List.length_map] at this
    omega
  · refine Run_spec (q12.ext e13) aT huT (fun h14 x14 vs14 S14 q14 t14 r14 a14 hx14 => ?_) (fun i h14 x14 vs14 S14 hi q14 t14 r14 bad => ?_)
    · refine ⟨fun g => (by simp at g), fun _ => ?_⟩
      refine seq.cut (fun (b : Bool) hh => b = true ∧ hh = h14) ⟨nofun, fun _ => ?_⟩ (fun b hh hb => ?_)
      · refine q14.g2 ?_
        have hW := one_end tk fol stw r14 a14 hx14
        have hr4 : RJ h14 r W := R.to hrW t14 fun b hb => by
          have := hrb b hb
          exact ⟨by have := q12.plt; omega, fun i hi => by have := q12.ns.lt hi; omega⟩
        exact SameInts_spec (xs := W) (by rw [← hW]; exact q14.val.r) hr4 (by rw [← hW, r14.t.vn]; omega) ⟨rfl, rfl⟩
      · obtain ⟨rfl, rfl⟩ := hb
        exact K _ x14 (T12.trans (((q12).toExt e13).trans t14))
    · exfalso
      obtain ⟨cc, hc1, hc2⟩ := r14.bad (by rw [r14.cl]; exact hi) bad
      exact no_clash (C := C0 ST) (T := fun l => vl ST.val l = 1) (V := W) stw fol.told r14.derV hc1 hc2
  · refine Run_spec (q12.ext e13) aT huT (fun h14 x14 vs14 S14 q14 t14 r14 a14 hx14 => ?_) (fun i h14 x14 vs14 S14 hi q14 t14 r14 bad => ?_)
    · exfalso
      exact no_clash (C := C0 ST) (T := fun l => vl ST.val l = 1) (V := S14.val) (r14.stand a14 hx14) (r14.told tk) fol.der hcc hfc
    · refine ⟨fun g => (by simp at g), fun _ => ?_⟩
      refine seq.cut (fun (b : Bool) hh => b = true ∧ hh = h14) ⟨fun _ => ⟨rfl, rfl⟩, nofun⟩ (fun b hh hb => ?_)
      obtain ⟨rfl, rfl⟩ := hb
      exact K _ x14 (T12.trans (((q12).toExt e13).trans t14))
end Go.Sh

namespace Go.Sh
open Go Go.Lift Go.Cla
variable {h h' : Heap} {p : Addr} {x x' : Nm → Sl} {vs vs' : Nm → List Value} {S S0 : SS} {n : Nat}
theorem setU_use (S : SS) (j : Nat) (u : Int) (i : Nat) : ((setU S j u).cl i).use = (S.cl i).use ∨ ((setU S j u).cl i).use = u := by
  unfold setU SS.cl
  simp only [List.getD_eq_getElem?_getD]
  rw [List.getElem?_set]
  split
  · split
    · exact .inr rfl
    · rename_i e h
      subst e
      left
      rw [List.getElem?_eq_none (by omega)]
  · exact .inl rfl
theorem stand_same {V : List Int} {c d : List Int} (h : ∀ l, l ∈ c ↔ l ∈ d) (s : Stand V c) : Stand V d := by
  rcases s with ⟨l, hl, hv⟩ | ⟨l, hl, m, hm, hne, h1, h2⟩
  · exact .inl ⟨l, (h l).1 hl, hv⟩
  · exact .inr ⟨l, (h l).1 hl, m, (h m).1 hm, hne, h1, h2⟩
theorem stand_empty (t : Tok n S) (ht : S.tra = []) : ∀ c, C0 S c → Stand S.val c := by
  rintro c ⟨j, hj, rfl⟩
  have f := t.fit j hj
  have h2 := f.2.2
  have z : ∀ l, vl S.val l = 0 := fun l => by
    have h1 : vl S.val l ≠ 1 := fun e => by have := t.vl_iff.1 e; rw [ht] at this; cases this
    have h3 : vl S.val l ≠ -1 := fun e => by have := t.vlf_iff.1 e; rw [ht] at this; cases this
    have := t.tri.vl l
    omega
  exact .inr ⟨_, at_mem (i := 0) (by omega), _, at_mem (i := 1) (by omega), f.ne (by omega) (by omega) (by decide), z _, z _⟩
theorem LearnFollows_holds {nn : Int} {sl sd : Sl} {ss : List Sl} {xss : List (List Int)} {ds : List Int} {Q : Bool → Heap → Prop} (hr : RR h sl ss xss) (hd : RJ h sd ds) (K : ∀ h', Ext h h' → Q true h') : law19uLearnFollows nn sl sd h Q := by
  refine speaks19uspec fun h1 e1 => ⟨fun hb => by simp at hb, fun _ => ?_⟩
  have hdl := hd.len
  refine seq.cut (fun (b : Bool) hh => hh = h1 ∧ (b = false → 0 ≤ nn ∧ nn ≤ 16 ∧ xss.length ≤ 60 ∧ (∀ i (hi : i < xss.length), xss[i].length ≤ 20) ∧ ds.length ≤ 40)) ?_ ?_
  · refine ⟨fun _ => ⟨rfl, nofun⟩, fun g1 => ⟨fun _ => ⟨rfl, nofun⟩, fun g2 => Great18uspec (hr.ext e1) fun b hb => ⟨fun _ => ⟨rfl, nofun⟩, fun g3 => ⟨rfl, fun g4 => ?_⟩⟩⟩⟩
    have g1 := of_decide_eq_false g1
    have g2 := of_decide_eq_false g2
    have g4 := of_decide_eq_false g4
    have := hb g3
    exact ⟨by omega, by omega, this.1, this.2, by omega⟩
  rintro b hh ⟨e, hb⟩
  subst hh
  refine ⟨fun _ => K _ e1, fun hbf => ?_⟩
  obtain ⟨n0, n1, n2, n3, n4⟩ := hb hbf
  obtain ⟨n, rfl⟩ : ∃ n : Nat, nn = (n : Int) := ⟨nn.toNat, by omega⟩
  refine cNew_spec (N := n) (by omega) fun t h2 x vs q2 => ?_
  refine new8 fun h3 T hb e3 hs3 => ?_
  refine lay8 q2 e3 hb (Nat.le_refl _) fun h4 q4 k4 => ?_
  have e14 : Ext h1 h4 := ⟨by have := q2.ext.size; have := e3.size; have := k4.size; omega, fun b hb _ => (k4.same b (by have := q2.ext.size; have := e3.size; omega) (by have := q2.ext.size; simp; omega)).trans ((q2.ext.trans e3).same b hb (by simp))⟩
  have hp1 : h1.size ≤ (⟨h2.size, 0, none⟩ : Addr).block := q2.ext.size
  have ext1 : ∀ {hh : Heap} {x' : Nm → Sl}, To ⟨h2.size, 0, none⟩ 8 h4 x hh x' → Ext h1 hh := fun tt => ext_of_to e14 tt hp1 q2.fresh
  have fr := q2.fresh
  generalize (⟨h2.size, 0, none⟩ : Addr) = p at *
  have hrl : sl.len = xss.length := by rw [hr.r.len, hr.len]
  refine loop.inv (fun (s0 : Int) hh => ∃ (i : Nat) (x' : Nm → Sl) (vs' : Nm → List Value) (S : SS), s0 = (i : Int) ∧ i ≤ xss.length ∧ SM hh p x' vs' S ∧ Ask n S ∧ GS S ∧ S.nxt = 0 ∧ S.tra = [] ∧ S.hea = [] ∧ S.cls.length ≤ i ∧ (∀ j, (S.cl j).use = 0) ∧ To p 8 h4 x hh x') (fun s0 _ => xss.length - s0.toNat)
    ⟨0, x, vs, emptyS n, rfl, by omega, q4, empty_ask (by omega), GS.empty, rfl, rfl, rfl, by show ([] : List Cl).length ≤ 0; simp, fun j => by unfold SS.cl; simp [emptyS], To.refl⟩ ?_
  rintro _ h5 ⟨i, x5, vs5, S5, rfl, hi, q5, a5, g5, nx5, tr5, he5, cl5, us5, t5⟩
  refine ⟨fun g => ?_, fun g => ?_⟩
  · have g := of_decide_eq_true g
    have hi2 : i < xss.length := by omega
    refine (hr.ext (e1.trans (ext1 t5))).ld (j := i) rfl hi2 fun v hv => ?_
    have h20 := n3 i hi2
    refine cAdd_spec q5 (a5.t.bnd a5.w (fun w => Nat.le_refl _)) (by omega) (by rw [a5.t.wn, a5.t.vn]) hv (by omega) (fun _ h6 e6 => ?_) fun f h6 x6 vs6 q6 t6 => ?_
    · rw [w64 (by omega) (by omega)]
      exact ⟨⟨i + 1, x5, vs5, S5, by omega, by omega, q5.ext e6, a5, g5, nx5, tr5, he5, by omega, us5, t5.trans (q5.toExt e6)⟩, by omega⟩
    · rw [w64 (by omega) (by omega)]
      rw [a5.t.vn] at f
      refine ⟨⟨i + 1, x6, vs6, _, by omega, by omega, q6, a5.add nx5 f (by omega), g5.add _ _, nx5, tr5, he5, by rw [addS_len]; omega, fun j => ?_, t5.trans t6⟩, by omega⟩
      rw [addS_cl]
      split
      · rfl
      · exact us5 j
  have g := of_decide_eq_false g
  refine loop.inv (fun (s0 : Int) hh => ∃ (i : Nat) (x' : Nm → Sl) (vs' : Nm → List Value) (S : SS), s0 = (i : Int) ∧ i ≤ ds.length ∧ SM hh p x' vs' S ∧ Ask n S ∧ GS S ∧ S.nxt = S.tra.length ∧ (∀ c, C0 S c → Stand S.val c) ∧ S.hea.length ≤ i ∧ S.cls.length ≤ 60 ∧ (∀ j, (S.cl j).use = 0) ∧ To p 8 h4 x hh x') (fun s0 _ => ds.length - s0.toNat)
    ⟨0, x5, vs5, S5, rfl, by omega, q5, a5, g5, by rw [nx5, tr5]; rfl, stand_empty a5.t tr5, by rw [he5]; simp, by omega, us5, t5⟩ ?_
  rintro _ h6 ⟨i, x6, vs6, S6, rfl, hi6, q6, a6, g6, nx6, st6, he6, cl6, us6, t6⟩
  refine ⟨fun g => ?_, fun _ => K h6 (e1.trans (ext1 t6))⟩
  have g := of_decide_eq_true g
  have hi2 : i < ds.length := by omega
  refine seq.cut (fun _ hh => ∃ (x' : Nm → Sl) (vs' : Nm → List Value) (S : SS), SM hh p x' vs' S ∧ Ask n S ∧ GS S ∧ S.nxt = S.tra.length ∧ (∀ c, C0 S c → Stand S.val c) ∧ S.hea.length ≤ i + 1 ∧ S.cls.length ≤ 60 ∧ (∀ j, (S.cl j).use = 0) ∧ To p 8 h4 x hh x') ?_ ?_
  · refine RJ.ldE hd (e1.trans (ext1 t6)) (j := i) rfl hi2 ?_
    refine Decide_any q6 a6 nx6 (by omega) (fun h7 e7 => ⟨fun _ => ⟨x6, vs6, S6, q6.ext e7, a6, g6, nx6, st6, by omega, cl6, us6, t6.trans (q6.toExt e7)⟩, nofun⟩) fun hth hv h7 x7 vs7 q7 a7 t7 => ⟨nofun, fun _ => ?_⟩
    have g7 := g6.dec a6.t hth hv
    have hea7 : (decS S6 (atI ds i)).hea.length ≤ i + 1 := by show (S6.hea ++ [_]).length ≤ _; simp; omega
    have us7 : ∀ j, ((decS S6 (atI ds i)).cl j).use = 0 := us6
    have cl7 : (decS S6 (atI ds i)).cls.length ≤ 60 := cl6
    refine Run_spec q7 a7 (fun j => by rw [us7]; omega) (fun h8 x8 vs8 S8 q8 t8 r8 a8 nx8 => ⟨fun _ => ?_, fun g => (by simp at g)⟩) (fun j h8 x8 vs8 S8 hj q8 t8 r8 bad => ⟨fun g => ?_, fun _ => ?_⟩)
    · refine ⟨x8, vs8, S8, q8, a8, g7.run r8 a7.t, nx8, ?_, by rw [r8.hea]; exact hea7, by rw [r8.cl]; exact cl7, fun j => by rw [(r8.lu j).2]; exact us7 j, t6.trans (t7.trans t8)⟩
      rintro c ⟨j, hj, rfl⟩
      have hj2 : j < (decS S6 (atI ds i)).cls.length := by rw [← r8.cl]; exact hj
      exact stand_same (fun l => (r8.sl j hj2 l).symm) (r8.stand a8 nx8 _ ⟨j, hj2, rfl⟩)
    · have g := of_decide_eq_true g
      omega
    · refine q8.g0 ⟨fun g => ?_, fun _ => ?_⟩
      · have g := of_decide_eq_true g
        rw [q8.clsLen] at g
        have : (setU S8 j (((decS S6 (atI ds i)).cl j).use + 1)).cls.length = S8.cls.length := by show (S8.cls.set _ _).length = _; simp
        rw [this, r8.cl] at g
        omega
      · have hj2 : j < S8.cls.length := by rw [r8.cl]; exact hj
        have lenU : (setU S8 j (((decS S6 (atI ds i)).cl j).use + 1)).cls.length = S8.cls.length := by show (S8.cls.set _ _).length = _; simp
        refine conf_spec q8 (CB.of a6 g6 nx6 (by omega) st6 hth hv r8 bad hj2 (by rw [us7]; decide)) (by omega) (by rw [lenU, r8.cl]; exact cl7) (by show S8.hea.length ≤ 40; rw [r8.hea]; omega) (fun m => ?_) fun h9 x9 t9 => K h9 (e1.trans (ext1 (t6.trans (t7.trans (t8.trans t9)))))
        rcases setU_use S8 j (((decS S6 (atI ds i)).cl j).use + 1) m with e | e
        · rw [e, (r8.lu m).2, us7]; omega
        · rw [e, us7]; omega
  · rintro _ h7 ⟨x7, vs7, S7, q7, a7, g7, nx7, st7, he7, cl7, us7, t7⟩
    rw [w64 (by omega) (by omega)]
    exact ⟨⟨i + 1, x7, vs7, S7, by omega, by omega, q7, a7, g7, nx7, st7, he7, cl7, us7, t7⟩, by omega⟩
end Go.Sh
