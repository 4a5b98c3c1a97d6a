/- Laws that the proof of this claim's statement leans on, each proved under the conditions that it states. -/
import Derived.Test.YtdcdidecehbplaaSpec9
set_option linter.unusedVariables false
set_option linter.unusedSimpArgs false
namespace Go.Sh
open Go Go.Lift

theorem bytes_beq (s : ByteArray) : (s.toList == s.toList) = true := by simp

theorem speaks_spec {h : Heap} {Q : Bool → Heap → Prop} (K : ∀ h', Ext h h' → Q true h') : law01uspeaks h Q := by
  unfold law01uspeaks
  refine New_spec fun a h1 hb1 hab he1 => ?_
  have nv01 : ∀ {h : Heap} {s : Sl}, RI .u32 h s [0, 1] → NV h s 4294967296 := fun hr => ⟨_, hr, by intro z hz; simp at hz; omega, by simp [val], by simp⟩
  refine newN (kd := .u32) (ms := [0, 1]) rfl fun h2 ho2 he2 hs2 => ?_
  refine newN (kd := .u32) (ms := [0, 1]) rfl fun h3 ho3 he3 hs3 => ?_
  refine Mul_spec ((hb1.ext he2).ext he3) (nv01 (ho2.r.ext he3)) (nv01 ho3.r) (by simp) (by simp) fun r h4 hb4 hk4 hf4 ht4 hr4 => ?_
  have hd : decide (max (Int.toNat 2) 1 < nl (4294967296 * 4294967296)) = true := by
    have : ¬ nl (4294967296 * 4294967296) ≤ 2 := by rw [nl_le_iff]; decide
    simp only [decide_eq_true_eq]
    have : max (Int.toNat 2) 1 = 2 := rfl
    omega
  rw [hd] at hb4 hf4 ht4
  have hr := ht4 rfl
  subst hr
  have hext : Ext h h4 := (he1.trans (he2.trans he3)).fresh (by omega) hk4
  refine seq.dup (Over_spec hb4 ⟨fun _ => ⟨fun _ => ?_, fun hc => absurd hc (by decide)⟩, nofun⟩)
  refine Of_spec (m := 4294967296) rfl (by decide) fun v h5 hv he5 _ => ?_
  have hnl : nl 4294967296 ≤ 2 := nl_le_iff.2 (by decide)
  refine Text_spec hv.nv (by rw [hv.nl]; omega) fun h6 ds hl hn hval he6 => ?_
  have hds : ds = [6, 9, 2, 7, 6, 9, 4, 9, 2, 4] := val_inj (b := 10) (by decide) hl (by intro z hz; simp at hz; omega) hn (by simp [Nrm]) (by rw [hval]; rfl)
  subst hds
  have : (bytesOf (strDig [6, 9, 2, 7, 6, 9, 4, 9, 2, 4])) = ByteArray.mk #[52, 50, 57, 52, 57, 54, 55, 50, 57, 54] := rfl
  rw [this, bytes_beq]
  exact K _ ((hext.trans he5).trans he6)

theorem great_spec {l : Sl} {ls : List Sl} {h : Heap} {Q : Bool → Heap → Prop} (hr : R Sl.toV h l ls) (hl : ls.length ≤ 1048576) (K : Q (ls.any fun s => decide (12 < s.len)) h) : law01ugreat l h Q := by
  unfold law01ugreat
  have ll := hr.len
  refine loop.inv (fun s h' => h' = h ∧ ∃ i : Nat, s = (i : Int) ∧ i ≤ ls.length ∧ (ls.take i).any (fun s => decide (12 < s.len)) = false) (fun s _ => ls.length - s.toNat) ⟨rfl, 0, rfl, by omega, rfl⟩ ?_
  rintro s h' ⟨rfl, i, rfl, hi, ht⟩
  refine ⟨fun hlt => ?_, fun hge => ?_⟩
  · simp only [decide_eq_true_eq] at hlt
    have h1 : i < ls.length := by omega
    refine hr.load (by omega) (by omega) ?_
    simp only [Int.toNat_natCast]
    refine ⟨fun hg => ?_, fun hg => ?_⟩
    · have : (ls.any fun s => decide (12 < s.len)) = true := List.any_eq_true.2 ⟨ls[i], List.getElem_mem h1, by simp at hg ⊢; omega⟩
      rw [this] at K; exact K
    · rw [w64 (by omega) (by omega)]
      have hg' : ¬ 12 < ls[i].len := by simp only [gt_iff_lt, decide_eq_false_iff_not] at hg; omega
      refine ⟨⟨trivial, i + 1, by omega, by omega, ?_⟩, by omega⟩
      rw [List.take_succ_eq_append_getElem h1, List.any_append, ht]
      simp; omega
  · simp only [decide_eq_false_iff_not] at hge
    rw [List.take_of_length_le (by omega)] at ht
    rw [ht] at K; exact K

/-- append of one thing that has just been made. -/
theorem app1v {α : Type} {toV : α → Value} {bytes B : Nat} {y : α} {h : Heap} {s : Sl} {xs : List α} {k : Sl → Heap → Prop} (ho : Own toV B h s xs) (hone : ∀ x : α, one (toV x) = true) (hB : B ≤ h.size) (hb : (xs.length + 1) * bytes ≤ 2 ^ 46)
    (K : ∀ s' h', Own toV B h' s' (xs ++ [y]) → Keep s.blk h h' → k s' h') : new [toV y] h fun a h1 => appendS 1 bytes s (⟨some a, 1, 1⟩ : Sl) h1 k := by
  intro T
  have hn : Own toV h.size (h.push (.cells [toV y].toArray T (0, 0))) ⟨some ⟨h.size, 0, none⟩, 1, 1⟩ [y] := Own.new (toV := toV) (ys := [y]) (cs := [toV y]) rfl
  refine (ho.ext (Ext.push _ _)).append (by have := (Ext.push h (.cells [toV y].toArray T (0, 0))).size; omega) hn.r hone (by simpa using hb) fun s' h' ho' hk _ => K s' h' ho' ((Keep.of_ext (Ext.push _ _)).trans hk)
theorem Keep.ownv {α : Type} {toV : α → Value} {B : Nat} {h0 h h' : Heap} {s : Sl} {xs : List α} (he : Ext h0 h) (ho : Own toV B h s xs) (hB : h0.size ≤ B) (hk : Keep s.blk h h') : Ext h0 h' := by
  cases hb : s.blk with
  | none => rw [hb] at hk; exact he.trans hk
  | some b =>
    rw [hb] at hk
    exact he.fresh (by have := (ho.lt hb).1; omega) hk

theorem last_ld {x : Sl} {xs : List Nat} {h : Heap} {K : Bool → Heap → Prop} (hx : RI .u32 h x xs) (hl : xs.length ≤ 1048576) (K1 : K false h) : 
    nat_Right x h fun v_11 h0u12 =>
        iteB (((x.len : Nat) : Int) == 0) (
         K (!(v_11 == true)) h0u12
        ) (
         idxS x (IntKind.wrap .i64 (((x.len : Nat) : Int) - 1)) 1 fun a_3 =>
         Lift.load (Value.int .u32) a_3 h0u12 fun v_12 =>
         K (!(v_11 == (v_12 != 0))) h0u12
        ) := by
  have lx := hx.len
  refine Right_spec hx hl ⟨fun h0 => ?_, fun h0 => ?_⟩
  · simp only [beq_iff_eq] at h0
    have : xs = [] := List.eq_nil_of_length_eq_zero (by omega)
    subst this
    exact K1
  · simp only [beq_eq_false_iff_ne, ne_eq] at h0
    rw [w64 (by omega) (by omega)]
    refine RI.ld hx (j := xs.length - 1) (by omega) (by omega) ?_
    have h1 : xs.getLast? = some (xs[xs.length - 1]'(by omega)) := by
      rw [List.getLast?_eq_getElem?, List.getElem?_eq_getElem (by omega)]
    rw [h1]
    generalize xs[xs.length - 1]'(by omega) = z
    have : (!((some z != some 0) == (((z : Nat) : Int) != 0))) = false := by
      by_cases hz : z = 0
      · subst hz; rfl
      · have h2 : (some z != some 0) = true := by simpa using hz
        have h3 : (((z : Nat) : Int) != 0) = true := by simpa using hz
        rw [h2, h3]; rfl
    rw [this]; exact K1

theorem NatReads_holds {limbs : Int} {s : ByteArray} {x : Sl} {xs : List Nat} {h : Heap} {Q : Bool → Heap → Prop} (hx : RI .u32 h x xs) (K : ∀ h', Ext h h' → Q true h') : law01uNatReads limbs s x h Q := by
  unfold law01uNatReads
  refine speaks_spec fun h1 he1 => ⟨nofun, fun _ => ?_⟩
  have hcl := cs_len s
  refine seq.cut (fun b h' => (b = true ∨ s.size ≤ 120 ∧ x.len ≤ 12) ∧ Ext h h') ?_ ?_
  · refine ⟨fun _ => ⟨.inl rfl, he1⟩, fun hs => ?_⟩
    intro T
    have ho := Own.new (toV := Sl.toV) (ys := [x]) (cs := [Sl.toV x]) (h := h1) (T := T) rfl
    refine great_spec ho.r (by simp) ⟨?_, he1.trans (Ext.push _ _)⟩
    simp only [gt_iff_lt, decide_eq_false_iff_not] at hs
    by_cases hg : 12 < x.len
    · left; simp [hg]
    · right; omega
  rintro b h2 ⟨hb, he2⟩
  refine ⟨fun _ => K h2 he2, fun hbf => ?_⟩
  obtain ⟨hs120, hx12⟩ : s.size ≤ 120 ∧ x.len ≤ 12 := by
    rcases hb with hb | hb
    · rw [hbf] at hb; cases hb
    · exact hb
  clear hb hbf
  intro T
  have ho := Own.new (toV := fun n : Int => Value.int .i64 n) (ys := []) (cs := []) (h := h2) (T := T) rfl
  have he3 := he2.trans (Ext.push h2 (.cells ([] : List Value).toArray T (0, 0)))
  have hsz3 : (h2.push (.cells ([] : List Value).toArray T (0, 0))).size = h2.size + 1 := by simp
  have he23 := Ext.push h2 (.cells ([] : List Value).toArray T (0, 0))
  generalize h2.push (.cells ([] : List Value).toArray T (0, 0)) = h3 at *
  rintro digits rfl ok rfl i rfl
  rw [w64 (n := (s.size : Int) - 1) (by omega) (by omega)]
  refine loop.inv (fun t h' => ∃ j : Nat, t.2.2 = (j : Int) - 1 ∧ j ≤ s.size ∧ Own (fun n : Int => Value.int .i64 n) h2.size h' t.1 (((cs s).drop j).reverse.map fun c : Nat => (c : Int) - 48) ∧ t.2.1 = (decide (s.size ≠ 0) && digs ((cs s).drop j)) ∧ Ext h2 h') (fun t _ => (t.2.2 + 1).toNat)
    ⟨s.size, rfl, by omega, ?_, ?_, he23⟩ ?_
  · rw [← hcl, List.drop_length]; exact ho
  · rw [← hcl, List.drop_length]
    dsimp only [digs, List.all_nil]
    rw [Bool.and_true, hcl]
    exact decide_eq_decide.2 (by omega)
  rintro ⟨dg, ok, i'⟩ h4 ⟨j, hj, hjs, hod, hok, he4⟩
  simp only at hj hod hok
  subst hj
  dsimp only
  refine ⟨fun hge => ?_, fun hlt => ?_⟩
  · simp only [ge_iff_le, decide_eq_true_eq] at hge
    have hj1 : j - 1 < (cs s).length := by omega
    have hdr : (cs s).drop (j - 1) = (cs s)[j - 1] :: (cs s).drop j := by
      rw [List.drop_eq_getElem_cons hj1, show j - 1 + 1 = j from by omega]
    have hlt256 := cs_lt s hj1
    refine seq.cut (fun b h' => b = (decide (s.size ≠ 0) && digs ((cs s).drop (j - 1))) ∧ h' = h4) ?_ ?_
    · have hsz : s.size ≠ 0 := by omega
      rw [hdr]
      unfold digs at hok ⊢
      rw [List.all_cons]
      simp only [hsz, ne_eq, not_false_eq_true, decide_true, Bool.true_and] at hok ⊢
      refine ⟨fun ht => ?_, fun hf => ?_⟩
      · rw [ht] at hok
        rw [← hok]
        refine idxStr.at (j := j - 1) (by omega) hj1 ⟨fun h1 => ?_, fun h1 => ?_⟩
        · refine idxStr.at (j := j - 1) (by omega) hj1 ?_
          rintro b rfl
          simp only [ge_iff_le, decide_eq_true_eq] at h1
          have : decide (48 ≤ (cs s)[j - 1]) = true := by simp; omega
          rw [this]
          refine ⟨?_, trivial⟩
          rw [Bool.true_and, Bool.and_true]
          exact decide_eq_decide.2 (by omega)
        · simp only [ge_iff_le, decide_eq_false_iff_not] at h1
          have : decide (48 ≤ (cs s)[j - 1]) = false := by simp; omega
          rw [this]
          exact ⟨rfl, trivial⟩
      · rw [hf] at hok
        rw [← hok, Bool.and_false]
        exact ⟨rfl, trivial⟩
    · rintro b h5 ⟨hb, rfl⟩
      refine idxStr.at (j := j - 1) (by omega) hj1 ?_
      rw [w64 (n := ((cs s)[j - 1] : Nat)) (by omega) (by omega), w64 (n := ((cs s)[j - 1] : Nat) - 48) (by omega) (by omega)]
      refine app1v (toV := fun n : Int => Value.int .i64 n) hod (fun _ => rfl) he4.size (by simp; omega) fun s' h6 ho6 hk6 => ?_
      rintro i1 rfl
      rw [w64 (by omega) (by omega)]
      refine ⟨⟨j - 1, by omega, by omega, ?_, hb, Keep.ownv he4 hod (Nat.le_refl _) hk6⟩, by omega⟩
      rw [hdr]
      simpa using ho6
  · simp only [ge_iff_le, decide_eq_false_iff_not] at hlt
    have hj0 : j = 0 := by omega
    subst hj0
    rw [List.drop_zero] at hod hok
    have he5 := he2.trans he4
    clear ho hsz3 he23 he3
    refine New_spec fun a h6 hb6 hab he6 => ?_
    have hparse : parses s = ok := by
      rw [hok]; unfold parses
      have : decide (s.size ≤ 10000) = true := by simp; omega
      rw [this, Bool.and_true]
    -- what all roads do then
    have lx := hx.len
    refine Parse_spec hb6 (fun hp => ?_) (fun hp r h7 ov hov hb7 hk7 hf7 ht7 => ?_)
    · have hext := he5.trans he6
      refine seq.cut (fun b h' => b = false ∧ h' = h6) (last_ld (K := fun b h' => b = false ∧ h' = h6) (hx.ext hext) (by omega) ⟨rfl, rfl⟩) ?_
      rintro b h' ⟨rfl, rfl⟩
      rw [← hparse, hp]
      refine ⟨nofun, fun _ => ⟨fun _ => ?_, nofun⟩⟩
      refine seq.dup ⟨fun _ => ⟨fun _ => ?_, fun hc => absurd hc (by decide)⟩, nofun⟩
      exact Over_spec hb6 (K _ hext)
    · have hext : Ext h h7 := (he5.trans he6).fresh (by have := he5.size; omega) hk7
      refine seq.cut (fun b h' => b = false ∧ h' = h7) (last_ld (K := fun b h' => b = false ∧ h' = h7) (hx.ext hext) (by omega) ⟨rfl, rfl⟩) ?_
      rintro b h' ⟨rfl, rfl⟩
      rw [← hparse, hp]
      refine ⟨nofun, fun _ => ⟨nofun, fun _ => ?_⟩⟩
      have hdg : digs (cs s) = true := by
        unfold parses at hp
        simp only [Bool.and_eq_true] at hp
        exact hp.2
      have hlim := digs_lim hdg
      have hod7 : RI .i64 h' dg ((cs s).reverse.map (· - 48)) := by
        have h1 := hod.r.ext he6
        have h2 : R (fun n : Int => Value.int .i64 n) h' dg ((cs s).reverse.map fun c : Nat => (c : Int) - 48) := by
          refine h1.keep hk7 (fun b hb => ?_)
          have := (hod.lt (b := b.block) (by simp [Sl.blk, hb])).2
          simp; omega
        refine ⟨by simpa using h2.len, h2.cap, ?_⟩
        rw [h2.cells]
        simp only [List.map_map, Option.some.injEq]
        apply List.map_congr_left
        intro c hc
        have h48 := List.all_eq_true.1 hdg c (List.mem_reverse.1 hc)
        simp only [Bool.and_eq_true, decide_eq_true_eq] at h48
        simp only [Function.comp]
        congr 1
        omega
      have hlen : ((cs s).reverse.map (· - 48)).length ≤ 120 := by simp; omega
      have hvd : val 10 ((cs s).reverse.map (· - 48)) = dv (cs s) := rfl
      have hnld := dv_nl hdg (k := 120) (by omega)
      generalize (cs s).reverse.map (· - 48) = ds at *
      generalize dv (cs s) = n at *
      refine Cut_spec hod7 (by omega) fun c ys hc hpre hnys hvys hcb => ?_
      have hyl : Lim 10 ys := by rw [hpre]; exact hlim.take _
      have hyle : ys.length ≤ 120 := by
        have := congrArg List.length hpre; simp at this; omega
      refine Limbs_spec hc hyl (by omega) fun w h8 hw he8 hwb => ?_
      rw [hvys, hvd] at hw
      have hwl := hw.nl
      have hlimb : (if 1 > limbs then 1 else limbs) = ((max limbs.toNat 1 : Nat) : Int) := by split <;> omega
      rw [hlimb]
      refine ⟨fun hgt => ?_, fun hle => ?_⟩
      · simp only [gt_iff_lt, decide_eq_true_eq] at hgt
        have hot : ov = true := by rw [hov]; simp only [decide_eq_true_eq]; omega
        subst hot
        have hr := ht7 rfl
        subst hr
        refine seq.dup ⟨fun _ => ⟨fun _ => ?_, fun hc => absurd hc (by decide)⟩, nofun⟩
        exact Over_spec (hb7.ext he8) (K _ (hext.trans he8))
      · simp only [gt_iff_lt, decide_eq_false_iff_not] at hle
        have hof : ov = false := by rw [hov]; simp only [decide_eq_false_iff_not]; omega
        subst hof
        have hr7 := hf7 rfl
        have hr8 := hr7.ext he8
        refine seq.cut (fun b h' => b = true ∧ Ext h h') ?_ (by rintro b h9 ⟨rfl, he9⟩; exact K _ he9)
        refine ⟨fun _ => ?_, nofun⟩
        obtain ⟨rs, r1, r2, r3, r4, r5⟩ := hr8
        obtain ⟨us, u1, u2, u3, u4, u5⟩ := hw
        have hru : rs = us := val_inj (by decide) r2 u2 r3 u3 (by rw [r4, u4])
        refine Same_spec r1 u1 r5 ?_
        rw [hru, beq_self_eq_true]
        refine ⟨fun _ => ?_, nofun⟩
        refine Over_spec (hb7.ext he8) ⟨fun _ => ?_, nofun⟩
        refine Text_spec (hr7.ext he8).nv (by rw [hr7.nl]; omega) fun h9 es hel hen hev he9 => ?_
        refine Cut_spec ((hod7.ext he8).ext he9) (by omega) fun c2 zs hc2 hpre2 hnzs hvzs hcb2 => ?_
        have hzl : Lim 10 zs := by rw [hpre2]; exact hlim.take _
        have hzle : zs.length ≤ 120 := by
          have := congrArg List.length hpre2; simp at this; omega
        refine Text10uspec hc2 hzl (by omega) fun h10 he10 => ?_
        have : es = zs := val_inj (by decide) hel hzl hen hnzs (by rw [hev, hvzs, hvd])
        rw [this, bytes_beq]
        exact ⟨rfl, ((hext.trans he8).trans he9).trans he10⟩
end Go.Sh
