/- Laws that the proof of this claim's statement leans on, each proved under the conditions that it states. -/
import Derived.Test.YtdcdidecehbplaaDoorSpec8
set_option linter.unusedVariables false
set_option linter.unusedSimpArgs false
namespace Go.Sh
open Go Go.Lift

/-- The letters of a text, as numbers. -/
def cs (s : ByteArray) : List Nat := s.data.toList.map (·.toNat)
theorem cs_len (s : ByteArray) : (cs s).length = s.size := by unfold cs; rw [List.length_map, Array.length_toList]; rfl
theorem cs_lt (s : ByteArray) {j : Nat} (hj : j < (cs s).length) : (cs s)[j] < 256 := by
  simp only [cs, List.getElem_map]
  exact UInt8.toNat_lt _
theorem idxStr.at {s : ByteArray} {i : Int} {j : Nat} {k : Int → Prop} (hij : i = (j : Int)) (hj : j < (cs s).length) (K : k ((cs s)[j] : Nat)) : idxStr s i k := by
  subst hij
  refine ⟨by omega, ?_⟩
  have h1 : j < s.data.size := by rw [cs_len] at hj; exact hj
  refine ⟨s.data[j], by simp, ?_⟩
  simp only [cs, List.getElem_map, Array.getElem_toList] at K
  exact K
/-- What decimal letters are worth. -/
def dv (c : List Nat) : Nat := val 10 (c.reverse.map (· - 48))
theorem dv_succ (c : List Nat) (i : Nat) (hi : i < c.length) : dv (c.take (i + 1)) = (c[i] - 48) + 10 * dv (c.take i) := by
  unfold dv
  rw [List.take_succ_eq_append_getElem hi]
  simp only [List.reverse_append, List.reverse_singleton, List.singleton_append, List.map_cons, val]
theorem dv_mono (c : List Nat) (i : Nat) : dv (c.take i) ≤ dv c := by
  unfold dv
  conv => rhs; rw [← List.take_append_drop i c, List.reverse_append, List.map_append, val_append]
  have h1 : 1 ≤ 10 ^ (List.map (fun x => x - 48) (List.drop i c).reverse).length := Nat.pow_pos (by decide)
  have h2 := Nat.mul_le_mul_right (val 10 (List.map (fun x => x - 48) (List.take i c).reverse)) h1
  omega
def digs (c : List Nat) : Bool := c.all fun d => decide (48 ≤ d) && decide (d ≤ 57)
theorem digs_lim {c : List Nat} (h : digs c = true) : Lim 10 (c.reverse.map (· - 48)) := by
  intro z hz
  simp only [List.mem_map, List.mem_reverse] at hz
  obtain ⟨d, hd, rfl⟩ := hz
  have := List.all_eq_true.1 h d hd
  simp only [Bool.and_eq_true, decide_eq_true_eq] at this
  omega
theorem digs_get {c : List Nat} (h : digs c = true) {j : Nat} (hj : j < c.length) : 48 ≤ c[j] ∧ c[j] ≤ 57 := by
  have := List.all_eq_true.1 h c[j] (List.getElem_mem hj)
  simpa only [Bool.and_eq_true, decide_eq_true_eq] using this
theorem digs_take {c : List Nat} (h : digs c = true) (i : Nat) : digs (c.take i) = true :=
  List.all_eq_true.2 fun x hx => List.all_eq_true.1 h x (List.mem_of_mem_take hx)
theorem dv_nl {c : List Nat} (h : digs c = true) {k : Nat} (hk : c.length ≤ k) : nl (dv c) ≤ k := by
  rw [nl_le_iff]
  have h1 := val_lt (digs_lim h)
  rw [List.length_map, List.length_reverse] at h1
  have h2 : (10 : Nat) ^ c.length ≤ 10 ^ k := Nat.pow_le_pow_right (by decide) hk
  have h3 : (10 : Nat) ^ k ≤ 4294967296 ^ k := Nat.pow_le_pow_left (by decide) _
  unfold dv
  omega

/-- Whether a text is a number. -/
def parses (s : ByteArray) : Bool := decide (s.size ≠ 0) && decide (s.size ≤ 10000) && digs (cs s)

/-- Times ten is done, the digit is added. -/
theorem add_tail {a : Addr} {lim v dn : Nat} {ov : Bool} {h0 h : Heap} {r d : Sl} {K2 : Sl → Heap → Prop} (hb : Bench h a lim ov) (hov : ov = decide (lim < nl (v * 10))) (hk : Keep (some a.block) h0 h)
    (hf : ov = false → NN h r (v * 10)) (ht : ov = true → r = Sl.nil) (hd : NV h d dn) (hdl : d.len ≤ 1) (hvl : nl (v * 10) ≤ 400000)
    (K : ∀ r h', Bench h' a lim (decide (lim < nl (v * 10 + dn))) → Keep (some a.block) h0 h' → (decide (lim < nl (v * 10 + dn)) = false → NN h' r (v * 10 + dn)) → (decide (lim < nl (v * 10 + dn)) = true → r = Sl.nil) → (∀ b, r.blk = some b → h.size ≤ b) → K2 r h') :
    nat_Bench_Add (some a) r d h K2 := by
  have hm := nl_mono (Nat.le_add_right (v * 10) dn)
  cases hc : ov with
  | false =>
    rw [hc] at hb hov
    have hr := hf hc
    have hrl := hr.nl
    refine Add_spec hb hr.nv hd (by omega) (by omega) fun r' h' hb' hk' h1 h2 h3 => K r' h' (by simpa using hb') (hk.trans hk') (by simpa using h1) (by simpa using h2) h3
  | true =>
    rw [hc] at hb hov
    have hr := ht hc
    subst hr
    have hlt : lim < nl (v * 10) := by simpa using hov.symm
    have hd' : decide (lim < nl (v * 10 + dn)) = true := by simp; omega
    refine Add_spec hb NV.nil hd (by simp [Sl.nil]) (by omega) fun r' h' hb' hk' h1 h2 h3 => K r' h' (by rw [hd']; simpa using hb') (hk.trans hk') (fun hx => by rw [hd'] at hx; cases hx) (fun _ => h2 (by simp)) h3

theorem one_nv {n : Nat} {h : Heap} {s : Sl} (hr : RI .u32 h s [n]) (hn : n < 4294967296) : NV h s n := ⟨_, hr, by intro z hz; simp at hz; omega, by simp [val], by simp⟩

theorem Parse_spec {a : Addr} {lim : Nat} {s : ByteArray} {h : Heap} {Q : (Sl × Bool) → Heap → Prop} (hb : Bench h a lim false)
    (K1 : parses s = false → Q (Sl.nil, false) h)
    (K2 : parses s = true → ∀ r h' ov, ov = decide (lim < nl (dv (cs s))) → Bench h' a lim ov → Keep (some a.block) h h' → (ov = false → NN h' r (dv (cs s))) → (ov = true → r = Sl.nil) → Q (r, !ov) h') : nat_Bench_Parse (some a) s h Q := by
  unfold nat_Bench_Parse
  have hcl := cs_len s
  have no : (s.size = 0 ∨ 10000 < s.size) → Q (Sl.nil, false) h := fun hs => K1 (by
    unfold parses
    rcases hs with h | h
    · simp [h]
    · have : ¬ s.size ≤ 10000 := by omega
      simp [this])
  refine seq.dup ?_
  refine ⟨fun h0 => ⟨fun _ => no (.inl (by simp only [beq_iff_eq] at h0; omega)), nofun⟩, fun h0 => ⟨fun h1 => no (.inr (by simp only [gt_iff_lt, decide_eq_true_eq] at h1; omega)), fun h1 => ?_⟩⟩
  have hs0 : s.size ≠ 0 := by simp only [beq_eq_false_iff_ne, ne_eq] at h0; omega
  have hs1 : s.size ≤ 10000 := by simp only [gt_iff_lt, decide_eq_false_iff_not] at h1; omega
  clear h0 h1
  refine loop.inv (fun t h' => h' = h ∧ ∃ i : Nat, t = (i : Int) ∧ i ≤ s.size ∧ digs ((cs s).take i) = true) (fun t _ => s.size - t.toNat) ⟨rfl, 0, rfl, by omega, by simp [digs]⟩ ?_
  rintro t h' ⟨rfl, i, rfl, hi, hdg⟩
  refine ⟨fun hlt => ?_, fun hge => ?_⟩
  · simp only [decide_eq_true_eq] at hlt
    have hj : i < (cs s).length := by omega
    have bad : ¬ (48 ≤ (cs s)[i] ∧ (cs s)[i] ≤ 57) → Q (Sl.nil, false) h' := fun hn => K1 (by
      cases hp : parses s with
      | false => rfl
      | true =>
        unfold parses at hp
        simp only [Bool.and_eq_true] at hp
        exact absurd (digs_get hp.2 hj) hn)
    have good : (48 ≤ (cs s)[i] ∧ (cs s)[i] ≤ 57) → digs ((cs s).take (i + 1)) = true := fun hg => by
      rw [List.take_succ_eq_append_getElem hj]
      unfold digs at hdg ⊢
      rw [List.all_append, hdg]
      simp [hg.1, hg.2]
    refine seq.dup ?_
    refine idxStr.at (j := i) rfl hj ⟨fun h1 => ⟨fun _ => bad (by simp at h1; omega), nofun⟩, fun h1 => ?_⟩
    refine idxStr.at (j := i) rfl hj ⟨fun h2 => bad (by simp at h2; omega), fun h2 => ?_⟩
    rw [w64 (by omega) (by omega)]
    exact ⟨⟨rfl, i + 1, by omega, by omega, good (by simp at h1 h2; omega)⟩, by omega⟩
  · simp only [decide_eq_false_iff_not] at hge
    have hi2 : i = (cs s).length := by omega
    rw [hi2, List.take_length] at hdg
    have hp : parses s = true := by unfold parses; simp [hs0, hs1, hdg]
    have K2 := K2 hp
    clear K1 no hge hi
    refine loop.inv (fun t h2 => ∃ i : Nat, t.2 = (i : Int) ∧ i ≤ s.size ∧ NN h2 t.1 (dv ((cs s).take i)) ∧ Bench h2 a lim false ∧ Keep (some a.block) h' h2 ∧ (1 ≤ i → decide (lim < nl (dv ((cs s).take i))) = false) ∧ (∀ b, t.1.blk = some b → b ≠ a.block)) (fun t _ => s.size - t.2.toNat)
      ⟨0, rfl, by omega, NN.nil, hb, Keep.refl _ _, by omega, fun b hb => by cases hb⟩ ?_
    rintro ⟨acc, i'⟩ h2 ⟨j, hj, hjl, hacc, hb2, hk2, hnov, hab⟩
    simp only at hj hacc hab
    subst hj
    dsimp only
    refine ⟨fun hlt => ?_, fun hge => ?_⟩
    · simp only [decide_eq_true_eq] at hlt
      have hj : j < (cs s).length := by omega
      have hdj := digs_get hdg hj
      have hds := dv_succ (cs s) j hj
      have hdm := dv_mono (cs s) (j + 1)
      have htk : digs ((cs s).take j) = true := digs_take hdg j
      have hvl := dv_nl htk (k := 10000) (by simp; omega)
      have hvs := dv_nl (digs_take hdg (j + 1)) (k := 10001) (by simp; omega)
      generalize dv ((cs s).take j) = v at *
      have hlen : acc.len ≤ 10000 := by rw [hacc.nl]; exact hvl
      -- what comes behind the sum
      have after : ∀ r h3, Bench h3 a lim (decide (lim < nl (v * 10 + ((cs s)[j] - 48)))) → Keep (some a.block) h2 h3 → (decide (lim < nl (v * 10 + ((cs s)[j] - 48))) = false → NN h3 r (v * 10 + ((cs s)[j] - 48))) → (decide (lim < nl (v * 10 + ((cs s)[j] - 48))) = true → r = Sl.nil) → (∀ b, r.blk = some b → b ≠ a.block) →
          nilChk (some a) fun a_5 => Lift.load Value.bool (a_5.add 1) h3 fun v_14 => iteB v_14 (Q (Sl.nil, false) h3) ((fun (t : Sl × Int) h2 => (∃ i : Nat, t.2 = (i : Int) ∧ i ≤ s.size ∧ NN h2 t.1 (dv ((cs s).take i)) ∧ Bench h2 a lim false ∧ Keep (some a.block) h' h2 ∧ (1 ≤ i → decide (lim < nl (dv ((cs s).take i))) = false) ∧ (∀ b, t.1.blk = some b → b ≠ a.block)) ∧ s.size - t.2.toNat < s.size - (j : Int).toNat) (r, IntKind.wrap .i64 ((j : Int) + 1)) h3) := by
        intro r h3 hb3 hk3 hf ht hrb
        have hveq : v * 10 + ((cs s)[j] - 48) = dv ((cs s).take (j + 1)) := by omega
        rw [hveq] at hb3 hf ht
        refine ⟨a, rfl, _, hb3.over, fun hov => ?_, fun hov => ?_⟩
        · have hr := ht hov
          have hlt : lim < nl (dv (cs s)) := by
            have h1 : lim < nl (dv ((cs s).take (j + 1))) := by simpa using hov
            have h2 := nl_mono hdm
            omega
          rw [hov] at hb3
          exact K2 Sl.nil h3 true (by simp [hlt]) hb3 (hk2.trans hk3) nofun (fun _ => rfl)
        · rw [hov] at hb3
          rw [w64 (by omega) (by omega)]
          exact ⟨⟨j + 1, by dsimp only; omega, by omega, hf hov, hb3, hk2.trans hk3, fun _ => hov, hrb⟩, by dsimp only; omega⟩
      have hw : IntKind.wrap .u32 (IntKind.wrap .u8 (((cs s)[j] : Nat) - 48 : Int)) = (((cs s)[j] - 48 : Nat) : Int) := by
        rw [wu8 (by omega) (by omega), wu32 (by omega) (by omega)]; omega
      have hd32 : (cs s)[j] - 48 < 4294967296 := by omega
      refine seq.dup ?_
      refine idxStr.at (j := j) rfl hj ?_
      simp only [hw]
      have hm10 : nl (v * 10) ≤ 400000 := by
        have : nl (v * 10) ≤ nl (dv ((cs s).take (j + 1))) := nl_mono (by omega)
        omega
      have habn : ∀ {h : Heap} {t : Sl}, Bench h a lim false → (∀ b, t.blk = some b → h.size ≤ b) → ∀ b, t.blk = some b → b ≠ a.block := fun hb hs b hbb => by
        have := hs b hbb
        have := hb.lt
        omega
      refine ⟨?_, ?_⟩
      · refine new1 (m := 10) rfl fun h3 hten he3 hs3 => ?_
        refine ⟨?_, ?_⟩
        · refine Mul_spec (hb2.ext he3) (hacc.ext he3).nv (one_nv hten (by decide)) (by omega) (by simp) fun r h4 hb4 hk4 hf4 ht4 hr4 => ?_
          simp only [Bool.false_or] at hb4 hf4 ht4
          refine new1 (m := (cs s)[j] - 48) rfl fun h5 hdg5 he5 hs5 => ?_
          refine add_tail (h0 := h2) (hb4.ext he5) rfl (((Keep.of_ext he3).trans hk4).trans (Keep.of_ext he5)) (fun hx => (hf4 hx).ext he5) ht4 (one_nv hdg5 hd32) (Nat.le_refl _) hm10 fun r h' hb' hk' hf' ht' hr' => after r h' hb' hk' hf' ht' (fun b hbb => ?_)
          have := hr' b hbb
          have h1 := (hb4.ext he5).lt
          omega
        · refine new1 (m := (cs s)[j] - 48) rfl fun h4 hdg4 he4 hs4 => ?_
          refine Mul_spec ((hb2.ext he3).ext he4) ((hacc.ext he3).ext he4).nv (one_nv (hten.ext he4) (by decide)) (by omega) (by simp) fun r h5 hb5 hk5 hf5 ht5 hr5 => ?_
          simp only [Bool.false_or] at hb5 hf5 ht5
          have hlt := (hb2.ext he3).lt
          refine add_tail (h0 := h2) hb5 rfl (((Keep.of_ext he3).trans (Keep.of_ext he4)).trans hk5) hf5 ht5 ((one_nv hdg4 hd32).keep hk5 (by simp [Sl.blk]; omega)) (Nat.le_refl _) hm10 fun r h' hb' hk' hf' ht' hr' => after r h' hb' hk' hf' ht' (fun b hbb => ?_)
          have := hr' b hbb
          have h1 := hb5.lt
          omega
      · refine new1 (m := (cs s)[j] - 48) rfl fun h3 hdg3 he3 hs3 => ?_
        refine new1 (m := 10) rfl fun h4 hten he4 hs4 => ?_
        refine Mul_spec ((hb2.ext he3).ext he4) ((hacc.ext he3).ext he4).nv (one_nv hten (by decide)) (by omega) (by simp) fun r h5 hb5 hk5 hf5 ht5 hr5 => ?_
        simp only [Bool.false_or] at hb5 hf5 ht5
        have hlt := hb2.lt
        refine add_tail (h0 := h2) hb5 rfl (((Keep.of_ext he3).trans (Keep.of_ext he4)).trans hk5) hf5 ht5 ((one_nv (hdg3.ext he4) hd32).keep hk5 (by simp [Sl.blk]; omega)) (Nat.le_refl _) hm10 fun r h' hb' hk' hf' ht' hr' => after r h' hb' hk' hf' ht' (fun b hbb => ?_)
        have := hr' b hbb
        have h1 := hb5.lt
        omega
    · simp only [decide_eq_false_iff_not] at hge
      have hj : j = (cs s).length := by omega
      subst hj
      rw [List.take_length] at hacc hnov
      have hov := hnov (by omega)
      refine ⟨a, rfl, _, hb2.over, ?_⟩
      exact K2 acc h2 false hov.symm hb2 hk2 (fun _ => hacc) nofun
end Go.Sh
