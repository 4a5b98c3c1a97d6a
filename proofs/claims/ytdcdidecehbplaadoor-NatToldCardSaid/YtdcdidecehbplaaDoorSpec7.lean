/- Laws that the proof of this claim's statement leans on, each proved under the conditions that it states. -/
import Derived.Test.YtdcdidecehbplaaDoorSpec6
set_option linter.unusedVariables false
set_option linter.unusedSimpArgs false
namespace Go.Sh
open Go Go.Lift

theorem Reverse_spec {s : Sl} {xs : List Nat} {B : Nat} {h : Heap} {Q : Unit → Heap → Prop} (ho : OwnI .u8 B h s xs) (hl : xs.length ≤ 1048576)
    (K : ∀ h', OwnI .u8 B h' s xs.reverse → Keep s.blk h h' → Q () h') : slices_Reverse_byte_byte s h Q := by
  unfold slices_Reverse_byte_byte
  have hlen := ho.r.len
  rintro j0 rfl
  rw [w64 (by omega) (by omega)]
  refine loop.inv (fun t h' => ∃ (i : Nat) (ys : List Nat), t.1 = (i : Int) ∧ t.2 = (xs.length : Int) - 1 - (i : Int) ∧ i ≤ xs.length ∧ 2 * i ≤ xs.length + 1 ∧ OwnI .u8 B h' s ys ∧ ys.length = xs.length ∧
      (∀ k, k < xs.length → ys.getD k 0 = if k < i ∨ xs.length - 1 - k < i then xs.getD (xs.length - 1 - k) 0 else xs.getD k 0) ∧ Keep s.blk h h') (fun t _ => (t.2 - t.1 + 2).toNat)
    ⟨0, xs, rfl, by dsimp only; omega, by omega, by omega, ho, rfl, fun k _ => by simp, Keep.refl _ _⟩ ?_
  rintro ⟨i', j'⟩ h1 ⟨i, ys, hi, hj, hil, hi2, hoy, hyl, hy, hk⟩
  simp only at hi hj
  subst hi hj
  dsimp only
  refine ⟨fun hlt => ?_, fun hge => ?_⟩
  · simp only [decide_eq_true_eq] at hlt
    obtain ⟨j, hj⟩ : ∃ j, xs.length - 1 - i = j := ⟨_, rfl⟩
    have hjn : j < ys.length := by omega
    have hin : i < ys.length := by omega
    refine RI.ld hoy.r (j := j) (by omega) hjn (RI.ld hoy.r (j := i) rfl hin ?_)
    refine Own.st hoy (j := i) (m := ys[j]) rfl hin rfl fun h2 ho2 hk2 hs2 => ?_
    refine Own.st ho2 (j := j) (m := ys[i]) (by omega) (by simpa using hjn) rfl fun h3 ho3 hk3 hs3 => ?_
    rintro i1 rfl j1 rfl
    rw [w64 (by omega) (by omega), w64 (by omega) (by omega)]
    refine ⟨⟨i + 1, _, by omega, by omega, by omega, by omega, ho3, by simpa using hyl, ?_, (hk.trans hk2).trans hk3⟩, by omega⟩
    intro k hkl
    have hyj := hy j (by omega)
    have hyi := hy i (by omega)
    rw [if_neg (by omega)] at hyj hyi
    simp only [List.getD_eq_getElem?_getD, List.getElem?_eq_getElem hjn, List.getElem?_eq_getElem hin, Option.getD_some] at hyj hyi
    by_cases h1 : k = j
    · subst h1
      rw [if_pos (by omega)]
      simp only [List.getD_eq_getElem?_getD]
      rw [List.getElem?_set_self (by simpa using hjn)]
      simp only [Option.getD_some]
      rw [hyi]
      congr 2
      omega
    · by_cases h2 : k = i
      · subst h2
        rw [if_pos (by omega)]
        simp only [List.getD_eq_getElem?_getD]
        rw [List.getElem?_set_ne (by omega), List.getElem?_set_self hin]
        simp only [Option.getD_some]
        rw [hyj, hj]
      · have := hy k hkl
        simp only [List.getD_eq_getElem?_getD] at this ⊢
        rw [List.getElem?_set_ne (by omega), List.getElem?_set_ne (by omega), this]
        by_cases h3 : k < i ∨ xs.length - 1 - k < i
        · rw [if_pos h3, if_pos (by omega)]
        · rw [if_neg h3, if_neg (by omega)]
  · simp only [decide_eq_false_iff_not] at hge
    have : ys = xs.reverse := by
      apply List.ext_getElem
      · simp [hyl]
      · intro k h1 h2
        have hkl : k < xs.length := by omega
        have := hy k hkl
        simp only [List.getD_eq_getElem?_getD, List.getElem?_eq_getElem h1, Option.getD_some, List.getElem?_eq_getElem hkl, List.getElem?_eq_getElem (show xs.length - 1 - k < xs.length by omega)] at this
        rw [this, List.getElem_reverse]
        by_cases h3 : k < i ∨ xs.length - 1 - k < i
        · rw [if_pos h3]
        · rw [if_neg h3]
          congr 1
          omega
    subst this
    exact K h1 hoy hk

/-- The text of digits, the least one first. -/
def strDig (ds : List Nat) : List Int := if ds = [] then [48] else ds.reverse.map fun d => ((48 + d : Nat) : Int)

theorem strOf_spec {s : Sl} {xs : List Nat} {h : Heap} {k : ByteArray → Prop} (hr : RI .u8 h s xs) (K : k (bytesOf (xs.map fun n : Nat => (n : Int)))) : strOf s h k := by
  refine ⟨xs.map fun n : Nat => (n : Int), ?_, K⟩
  have := hr.cells
  rw [this]
  simp

noncomputable def numOf (h : Heap) (s : Sl) : Nat := open Classical in if hx : ∃ k, NN h s k then Classical.choose hx else 0
theorem NN.uniq {h : Heap} {s : Sl} {m n : Nat} (hm : NN h s m) (hn : NN h s n) : m = n := by
  obtain ⟨xs, x1, _, _, x4, _⟩ := hm
  obtain ⟨ys, y1, _, _, y4, _⟩ := hn
  have h1 := x1.cells
  have h2 := y1.cells
  rw [h1] at h2
  simp only [Option.some.injEq] at h2
  have : xs = ys := by
    apply List.ext_getElem
    · have := congrArg List.length h2; simpa using this
    · intro i hi hj
      have := congrArg (fun l => l[i]?) h2
      simp [hi, hj] at this
      exact_mod_cast this
  rw [← x4, ← y4, this]
theorem numOf_eq {h : Heap} {s : Sl} {n : Nat} (hn : NN h s n) : numOf h s = n := by
  unfold numOf
  have hx : ∃ k, NN h s k := ⟨n, hn⟩
  rw [dif_pos hx]
  exact (Classical.choose_spec hx).uniq hn

/-- append of one number that has just been made; where the row lies then. -/
theorem app1b {kd : IntKind} {bytes B : Nat} {n : Int} {m : Nat} {h : Heap} {s : Sl} {xs : List Nat} {k : Sl → Heap → Prop} (hn : n = (m : Int)) (ho : OwnI kd B h s xs) (hB : B ≤ h.size) (hb : (xs.length + 1) * bytes ≤ 2 ^ 46)
    (K : ∀ s' h', OwnI kd B h' s' (xs ++ [m]) → Keep s.blk h h' → (s'.blk = s.blk ∨ ∀ b, s'.blk = some b → h.size ≤ b) → k s' h') : new [Value.int kd n] h fun a h1 => appendS 1 bytes s (⟨some a, 1, 1⟩ : Sl) h1 k := by
  refine new1 hn fun h1 hr he hsz => ?_
  refine (ho.ext he).append (by have := he.size; omega) hr (one_int kd) (by simpa using hb) fun s' h' ho' hk hbl => K s' h' ho' ((Keep.of_ext he).trans hk) ?_
  rcases hbl with h1 | ⟨h1, _⟩
  · exact .inl h1
  · exact .inr (fun b hb => by rw [h1] at hb; cases hb; omega)

theorem pow_len {e n len k : Nat} (h1 : n < 4294967296 ^ e) (hk : 1 ≤ k) (h : 10 ^ len * k ≤ n) : len < 32 * e := by
  have h2 : (2 : Nat) ^ len ≤ 10 ^ len := Nat.pow_le_pow_left (by decide) _
  have h3 : 10 ^ len ≤ 10 ^ len * k := Nat.le_mul_of_pos_right _ hk
  have h4 : (4294967296 : Nat) ^ e = 2 ^ (32 * e) := by
    rw [Nat.pow_mul]
  have h5 : (2 : Nat) ^ len < 2 ^ (32 * e) := by
    rw [← h4]
    exact Nat.lt_of_le_of_lt (Nat.le_trans h2 (Nat.le_trans h3 h)) h1
  exact (Nat.pow_lt_pow_iff_right (by decide)).1 h5
theorem dig_bound {n k len : Nat} (hn : nl n ≤ 30000) (hk : 1 ≤ k) (h : 10 ^ len * k ≤ n) : len ≤ 960000 := by
  have := pow_len (nl_le_iff.1 hn) hk h
  omega

theorem NN.keepO {h h' : Heap} {s : Sl} {n : Nat} {o : Option Nat} (hn : NN h s n) (k : Keep o h h') (hne : ∀ b, s.blk = some b → o ≠ some b) : NN h' s n := by
  obtain ⟨xs, h1, h2⟩ := hn
  exact ⟨xs, h1.keep k (fun a ha => fun e => hne a.block (by simp [Sl.blk, ha]) e.symm), h2⟩

theorem Text_spec {x : Sl} {n : Nat} {h : Heap} {Q : ByteArray → Heap → Prop} (hx : NV h x n) (hxl : x.len ≤ 30000)
    (K : ∀ h' ds, Lim 10 ds → Nrm ds → val 10 ds = n → Ext h h' → Q (bytesOf (strDig ds)) h') : nat_Text x h Q := by
  unfold nat_Text
  refine trim_nn hx fun x' hx' _ hxl' => ?_
  have hnl := hx'.nl
  have hnl2 : nl n ≤ 30000 := by omega
  refine loop.inv (fun t h' => ∃ (k : Nat) (ds : List Nat), NN h' t.1 k ∧ k ≤ n ∧ OwnI .u8 h.size h' t.2 (ds.map (48 + ·)) ∧ Lim 10 ds ∧ val 10 ds + 10 ^ ds.length * k = n ∧ (k = 0 → Nrm ds) ∧ ds.length ≤ 961000 ∧ Ext h h')
    (fun t h' => numOf h' t.1) ⟨n, [], hx', by omega, Own.nil, Lim.nil, by simp [val], fun _ => Nrm.nil, by simp, Keep.refl _ _⟩ ?_
  rintro ⟨r, dg⟩ h1 ⟨k, ds, hr, hkn, hod, hld, hval, hnrm, hdl, hext⟩
  simp only at hr hod
  dsimp only
  rw [numOf_eq hr]
  refine ⟨fun hgt => ?_, fun hle => ?_⟩
  · simp only [gt_iff_lt, decide_eq_true_eq] at hgt
    have hk0 : k ≠ 0 := by
      intro h0
      have := hr.len_zero.2 h0
      omega
    have hrl : r.len ≤ 30000 := by
      rw [hr.nl]; exact Nat.le_trans (nl_mono hkn) hnl2
    refine new1 (kd := .u32) (m := 1000000000) rfl fun h2 hten he2 hs2 => ?_
    refine divide_spec (m := k) (n := 1000000000) (hr.ext he2).nv ⟨_, hten, by intro z hz; simp at hz; omega, by simp [val], by simp⟩ hrl (by simp) (by decide) fun q rem h3 hq hrem he3 hqb hrb => ?_
    dsimp only
    have hrl9 : k % 1000000000 < 1000000000 := Nat.mod_lt _ (by decide)
    have hnlr : nl (k % 1000000000) ≤ 2 := nl_le_iff.2 (by omega)
    refine small_spec hrem.nv fun v hv hvr => ?_
    have hvr := hvr hnlr
    subst hvr
    dsimp only
    have hext3 : Ext h h3 := (hext.trans he2).trans he3
    have hqlen := hq.len_zero
    obtain ⟨qv, hqv⟩ : ∃ qv, k / 1000000000 = qv := ⟨_, rfl⟩
    obtain ⟨rv, hrv⟩ : ∃ rv, k % 1000000000 = rv := ⟨_, rfl⟩
    rw [hqv] at hq hqlen
    rw [hrv] at hrl9 ⊢
    have hkeq : k = 1000000000 * qv + rv := by rw [← hqv, ← hrv]; exact (Nat.div_add_mod k 1000000000).symm
    have hod3 : OwnI .u8 h.size h3 dg (ds.map (48 + ·)) := (hod.ext he2).ext he3
    have hdq : ∀ b, q.blk = some b → dg.blk ≠ some b := fun b hb he => by
      have h1 := (hqb b hb).1
      have h2 := (hod.lt he).2
      have := he2.size
      omega
    refine loop.inv (fun t h' => ∃ (i pv : Nat) (es : List Nat), t.2.1 = (pv : Int) ∧ t.2.2 = (i : Int) ∧ i ≤ 9 ∧ pv < 10 ^ (9 - i) ∧ OwnI .u8 h.size h' t.1 (es.map (48 + ·)) ∧ Lim 10 es ∧ es.length ≤ 960001 + i + 9 ∧
        val 10 es + 10 ^ es.length * (pv + 10 ^ (9 - i) * qv) = n ∧ (qv = 0 → pv = 0 → Nrm es) ∧ NN h' q qv ∧ (∀ b, q.blk = some b → t.1.blk ≠ some b ∧ b < h'.size) ∧ Ext h h') (fun t _ => 9 - t.2.2.toNat)
      ⟨0, rv, ds, rfl, rfl, by omega, hrl9, hod3, hld, ?_, ?_, fun h1 h2 => absurd (by omega) hk0, hq, (fun b hb => ⟨hdq b hb, (hqb b hb).2⟩), hext3⟩ ?_
    · have := dig_bound (n := n) (k := k) (len := ds.length) hnl2 (by omega) (by omega)
      omega
    · show val 10 ds + 10 ^ ds.length * (rv + 1000000000 * qv) = n
      rw [Nat.add_comm rv, ← hkeq]; exact hval
    rintro ⟨dg2, pv', i'⟩ h4 ⟨i, pv, es, hp, hi, hi9, hpl, hoe, hle2, hel, hev, henr, hq4, hdq4, hext4⟩
    simp only at hp hi hoe hdq4
    subst hp hi
    dsimp only
    -- the two ways
    have stop : (i = 9 ∨ (qv = 0 ∧ pv = 0)) → (fun (s' : Sl × Sl) h' => (∃ (k : Nat) (ds : List Nat), NN h' s'.1 k ∧ k ≤ n ∧ OwnI .u8 h.size h' s'.2 (ds.map (48 + ·)) ∧ Lim 10 ds ∧ val 10 ds + 10 ^ ds.length * k = n ∧ (k = 0 → Nrm ds) ∧ ds.length ≤ 961000 ∧ Ext h h') ∧ numOf h' s'.1 < k) (q, dg2) h4 := by
      intro hs
      have hpz : pv = 0 := by
        rcases hs with h9 | ⟨_, h0⟩
        · subst h9; simp at hpl; omega
        · exact h0
      have hqk : qv < k := by omega
      refine ⟨⟨qv, es, hq4, by omega, hoe, hle2, ?_, fun h0 => henr h0 hpz, by omega, hext4⟩, by rw [numOf_eq hq4]; exact hqk⟩
      rcases hs with h9 | ⟨h0, _⟩
      · subst h9 hpz
        simpa using hev
      · subst h0 hpz
        simpa using hev
    have goOn : i < 9 → ¬ (qv = 0 ∧ pv = 0) → new [Value.int .u8 (IntKind.wrap .u8 (IntKind.wrap .u64 (48 + (Int.tmod (pv : Int) 10))))] h4 fun a_1 h0u7 =>
       appendS 1 1 dg2 (⟨some a_1, 1, 1⟩ : Sl) h0u7 fun v_5 h0u8 =>
       Let (IntKind.wrap .u64 (Int.tdiv (pv : Int) 10) : Int) fun part =>
       Let (IntKind.wrap .i64 ((i : Int) + 1) : Int) fun i2 =>
       (fun (t : Sl × Int × Int) h' => (∃ (i pv : Nat) (es : List Nat), t.2.1 = (pv : Int) ∧ t.2.2 = (i : Int) ∧ i ≤ 9 ∧ pv < 10 ^ (9 - i) ∧ OwnI .u8 h.size h' t.1 (es.map (48 + ·)) ∧ Lim 10 es ∧ es.length ≤ 960001 + i + 9 ∧
        val 10 es + 10 ^ es.length * (pv + 10 ^ (9 - i) * qv) = n ∧ (qv = 0 → pv = 0 → Nrm es) ∧ NN h' q qv ∧ (∀ b, q.blk = some b → t.1.blk ≠ some b ∧ b < h'.size) ∧ Ext h h') ∧ 9 - t.2.2.toNat < 9 - (i : Int).toNat) (v_5, part, i2) h0u8 := by
      intro hi hnz
      have e1 : Int.tmod (pv : Int) 10 = ((pv % 10 : Nat) : Int) := rfl
      have e2 : Int.tdiv (pv : Int) 10 = ((pv / 10 : Nat) : Int) := rfl
      have hp9 : (10 : Nat) ^ (9 - i) ≤ 10 ^ 9 := Nat.pow_le_pow_right (by decide) (by omega)
      have hpow : (10 : Nat) ^ (9 - i) = 10 * 10 ^ (9 - (i + 1)) := by
        rw [← Nat.pow_succ']; congr 1; omega
      rw [e1, e2, wu64 (n := 48 + ((pv % 10 : Nat) : Int)) (by omega) (by omega)]
      refine app1b (m := 48 + pv % 10) (by rw [wu8 (by omega) (by omega)]; omega) hoe hext4.size (by simp; omega) fun s' h5 ho5 hk5 hb5 => ?_
      rintro part rfl i2 rfl
      rw [wu64 (by omega) (by omega), w64 (by omega) (by omega)]
      have hq5 : NN h5 q qv := hq4.keepO hk5 (fun b hb => (hdq4 b hb).1)
      refine ⟨⟨i + 1, pv / 10, es ++ [pv % 10], rfl, by dsimp only; omega, by omega, ?_, by simpa using ho5, hle2.snoc (Nat.mod_lt _ (by decide)), by simp; omega, ?_, ?_, hq5, ?_, Keep.own hext4 hoe (Nat.le_refl _) hk5⟩, by dsimp only; omega⟩
      · rw [hpow] at hpl; omega
      · rw [val_snoc, List.length_append, List.length_singleton, Nat.pow_succ, ← hev, hpow]
        generalize 10 ^ (9 - (i + 1)) = A
        generalize 10 ^ es.length = C
        have h1 : C * 10 * (pv / 10 + A * qv) = C * (10 * (pv / 10) + 10 * A * qv) := by
          rw [Nat.mul_assoc, Nat.mul_add, Nat.mul_assoc 10]
        rw [h1, Nat.add_assoc, ← Nat.mul_add, ← Nat.add_assoc, Nat.mod_add_div]
      · intro h1 h2
        unfold Nrm
        rw [List.getLast?_concat]
        intro h3
        simp only [Option.some.injEq] at h3
        exact hnz ⟨h1, by omega⟩
      · intro b hb
        dsimp only
        have hbl := hdq4 b hb
        refine ⟨?_, Nat.lt_of_lt_of_le hbl.2 hk5.size⟩
        rcases hb5 with h1 | h1
        · rw [h1]; exact hbl.1
        · intro he
          have h2 := h1 b he
          omega
    refine seq.dup ⟨fun hlt => ?_, fun hge => ?_⟩
    · simp only [decide_eq_true_eq] at hlt
      refine ⟨fun hq0 => ?_, fun hq0 => ?_⟩
      · simp only [gt_iff_lt, decide_eq_true_eq] at hq0
        have : qv ≠ 0 := fun h0 => by have := hqlen.2 h0; omega
        exact ⟨fun _ => goOn (by omega) (fun h => this h.1), nofun⟩
      · simp only [gt_iff_lt, decide_eq_false_iff_not] at hq0
        have hqz : qv = 0 := hqlen.1 (by omega)
        refine ⟨fun hp0 => ?_, fun hp0 => ?_⟩
        · simp only [gt_iff_lt, decide_eq_true_eq] at hp0
          exact goOn (by omega) (fun h => by omega)
        · simp only [gt_iff_lt, decide_eq_false_iff_not] at hp0
          exact stop (.inr ⟨hqz, by omega⟩)
    · simp only [decide_eq_false_iff_not] at hge
      exact ⟨nofun, fun _ => stop (.inl (by omega))⟩
  · simp only [gt_iff_lt, decide_eq_false_iff_not] at hle
    have hk0 : k = 0 := hr.len_zero.1 (by omega)
    subst hk0
    rw [Nat.mul_zero, Nat.add_zero] at hval
    have hdgl := hod.r.len
    simp only [List.length_map] at hdgl
    refine ⟨fun h0 => ?_, fun h0 => ?_⟩
    · simp only [beq_iff_eq] at h0
      have : ds = [] := List.eq_nil_of_length_eq_zero (by omega)
      subst this
      exact K h1 [] hld (hnrm rfl) hval hext
    · simp only [beq_eq_false_iff_ne, ne_eq] at h0
      have hne : ds ≠ [] := fun h => by subst h; simp at hdgl; omega
      refine Reverse_spec hod (by simp; omega) fun h2 ho2 hk2 => strOf_spec ho2.r ?_
      have := K h2 ds hld (hnrm rfl) hval (Keep.own hext hod (Nat.le_refl _) hk2)
      unfold strDig at this
      rw [if_neg hne] at this
      rw [← List.map_reverse, List.map_map]
      exact this
end Go.Sh
