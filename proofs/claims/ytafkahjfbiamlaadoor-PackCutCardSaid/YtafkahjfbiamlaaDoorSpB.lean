/-
  Laws that the proof of this claim's statement leans on, each proved under the conditions that it states.
-/
import Derived.Test.YtafkahjfbiamlaaDoorSpA
set_option linter.unusedVariables false
set_option linter.unusedSimpArgs false
namespace Go.Sh
open Go Go.Lift

end Go.Sh

namespace Go.Sh
open Go Go.Lift

noncomputable def numOf (h : Heap) (s : Sl) : Nat := open Classical in if hx : ∃ k, NN h s k then Classical.choose hx else 0
theorem NN.uniq {h : Heap} {s : Sl} {m n : Nat} (hm : NN h s m) (hn : NN h s n) : m = n := by
  obtain ⟨xs, x1, _, _, x4, _⟩ := hm
  obtain ⟨ys, y1, _, _, y4, _⟩ := hn
  have h1 := x1.cells
  have h2 := y1.cells
  rw [h1] at h2
  simp only [Option.some.injEq] at h2
  have : xs = ys := by
    apply List.ext_getElem
    · have := congrArg List.length h2; simpa using this
    · intro i hi hj
      have := congrArg (fun l => l[i]?) h2
      simp [hi, hj] at this
      exact_mod_cast this
  rw [← x4, ← y4, this]
theorem numOf_eq {h : Heap} {s : Sl} {n : Nat} (hn : NN h s n) : numOf h s = n := by
  unfold numOf
  have hx : ∃ k, NN h s k := ⟨n, hn⟩
  rw [dif_pos hx]
  exact (Classical.choose_spec hx).uniq hn

theorem NN.keepO {h h' : Heap} {s : Sl} {n : Nat} {o : Option Nat} (hn : NN h s n) (k : Keep o h h') (hne : ∀ b, s.blk = some b → o ≠ some b) : NN h' s n := by
  obtain ⟨xs, h1, h2⟩ := hn
  exact ⟨xs, h1.keep k (fun a ha => fun e => hne a.block (by simp [Sl.blk, ha]) e.symm), h2⟩

end Go.Sh

namespace Go.Sh
open Go Go.Lift

theorem Right_spec {x : Sl} {xs : List Nat} {h : Heap} {Q : Bool → Heap → Prop} (hx : RI .u32 h x xs) (hl : xs.length ≤ 2200000) (K : Q (xs.getLast? != some 0) h) : nat_Right x h Q := by
  unfold nat_Right
  refine trim_spec hx hl fun r ys hr hpre hn hv _ => ?_
  have lx := hx.len
  have lr := hr.len
  have : ((r.len : Int) == (x.len : Int)) = (xs.getLast? != some 0) := by
    by_cases hlen : ys.length = xs.length
    · have : ys = xs := by rw [hpre, hlen, List.take_length]
      subst this
      have h1 : ((r.len : Int) == (x.len : Int)) = true := by rw [beq_iff_eq]; omega
      rw [h1]
      unfold Nrm at hn
      simp [hn]
    · have h1 : ((r.len : Int) == (x.len : Int)) = false := by rw [beq_eq_false_iff_ne]; omega
      rw [h1]
      -- were the last one no nought, nothing would be cut off
      by_cases hz : xs.getLast? = some 0
      · simp [hz]
      · exfalso
        have hlt : ys.length < xs.length := by
          have := congrArg List.length hpre; simp at this; omega
        -- value of the rest is nothing, but its last digit isn't
        have h2 := val_take_add (b := 4294967296) xs ys.length
        rw [Nat.min_eq_left (by omega), ← hpre, hv] at h2
        have h3 : 4294967296 ^ ys.length * val 4294967296 (xs.drop ys.length) = 0 := by omega
        have h4 : val 4294967296 (xs.drop ys.length) = 0 := by
          rcases Nat.mul_eq_zero.1 h3 with h | h
          · exact absurd h (Nat.pos_iff_ne_zero.1 (Nat.pow_pos (by decide)))
          · exact h
        have hn2 : Nrm (xs.drop ys.length) := by
          unfold Nrm
          rw [List.getLast?_drop]
          rw [if_neg (by omega)]
          exact hz
        have h5 := val_zero (b := 4294967296) (by decide) hn2 h4
        have := congrArg List.length h5
        simp at this
        omega
  rw [this]; exact K

/-- Digits: decimal, in ints. -/
theorem Cut_spec {x : Sl} {xs : List Nat} {h : Heap} {Q : Sl → Heap → Prop} (hx : RI .i64 h x xs) (hb : xs.length ≤ 100000000000)
    (K : ∀ r ys, RI .i64 h r ys → ys = xs.take ys.length → Nrm ys → val 10 ys = val 10 xs → r.blk = x.blk → Q r h) : ref01uCut x h Q := by
  unfold ref01uCut
  have lx := hx.len
  rintro n rfl
  refine loop.inv (fun s h' => h' = h ∧ ∃ j : Nat, s = (j : Int) ∧ j ≤ xs.length ∧ val 10 (xs.take j) = val 10 xs) (fun s _ => s.toNat) ⟨rfl, xs.length, by omega, by omega, by simp⟩ ?_
  rintro s h' ⟨rfl, j, rfl, hj, hv⟩
  -- the end
  have fin : (j = 0 ∨ ∃ h : j - 1 < xs.length, 0 < j ∧ xs[j - 1] ≠ 0) → sliceOf x none (some (j : Int)) none 1 fun v_1 => Q v_1 h' := by
    intro hend
    refine hx.take (by omega) (by omega) fun s' hr hbl _ _ => K s' _ hr ?_ ?_ (by simpa using hv) hbl
    · simp
    · unfold Nrm
      rw [Int.toNat_natCast, List.getLast?_take]
      rcases hend with h0 | ⟨hlt, hpos, hne⟩
      · simp [h0]
      · rw [if_neg (by omega), List.getElem?_eq_getElem hlt]
        simpa using hne
  refine seq.dup ⟨fun hgt => ?_, fun hle => ?_⟩
  · simp only [gt_iff_lt, decide_eq_true_eq] at hgt
    have hj1 : j - 1 < xs.length := by omega
    rw [w64 (by omega) (by omega)]
    refine RI.ld hx (j := j - 1) (by omega) hj1 ?_
    refine ⟨fun hz => ?_, fun hz => ?_⟩
    · simp only [beq_iff_eq] at hz
      rintro n1 rfl
      refine ⟨⟨rfl, j - 1, by omega, by omega, ?_⟩, by omega⟩
      have := val_take_succ (b := 10) xs (j - 1) hj1
      rw [show j - 1 + 1 = j from by omega, hv] at this
      have h0 : xs[j - 1] = 0 := by omega
      rw [h0] at this
      simpa using this.symm
    · simp only [beq_eq_false_iff_ne, ne_eq] at hz
      exact fin (.inr ⟨hj1, by omega, by omega⟩)
  · simp only [gt_iff_lt, decide_eq_false_iff_not] at hle
    exact ⟨nofun, fun _ => fin (.inl (by omega))⟩

theorem Same_spec {a b : Sl} {xs ys : List Nat} {h : Heap} {Q : Bool → Heap → Prop} (ha : RI .u32 h a xs) (hb : RI .u32 h b ys) (hl : xs.length ≤ 2200000) (K : Q (xs == ys) h) : ref01uSame a b h Q := by
  unfold ref01uSame
  have la := ha.len
  have lb := hb.len
  refine ⟨fun hne => ?_, fun heq => ?_⟩
  · simp only [bne_iff_ne, ne_eq] at hne
    have : (xs == ys) = false := by
      rw [beq_eq_false_iff_ne]; intro h; subst h; omega
    rw [this] at K; exact K
  · have hll : xs.length = ys.length := by simp at heq; omega
    refine loop.inv (fun s h' => h' = h ∧ ∃ i : Nat, s = (i : Int) ∧ i ≤ xs.length ∧ xs.take i = ys.take i) (fun s _ => xs.length - s.toNat) ⟨rfl, 0, rfl, by omega, by simp⟩ ?_
    rintro s h' ⟨rfl, i, rfl, hi, ht⟩
    refine ⟨fun hlt => ?_, fun hge => ?_⟩
    · simp only [decide_eq_true_eq] at hlt
      have h1 : i < xs.length := by omega
      have h2 : i < ys.length := by omega
      refine RI.ld ha (j := i) rfl h1 (RI.ld hb (j := i) rfl h2 ⟨fun hne => ?_, fun heq2 => ?_⟩)
      · simp only [bne_iff_ne, ne_eq] at hne
        have : (xs == ys) = false := by
          rw [beq_eq_false_iff_ne]; intro h; subst h; exact hne rfl
        rw [this] at K; exact K
      · simp only [bne_eq_false_iff_eq] at heq2
        rintro i1 rfl
        rw [w64 (by omega) (by omega)]
        refine ⟨⟨rfl, i + 1, by omega, by omega, ?_⟩, by omega⟩
        rw [List.take_succ_eq_append_getElem h1, List.take_succ_eq_append_getElem h2, ht]
        congr 2
        omega
    · simp only [decide_eq_false_iff_not] at hge
      have : xs = ys := by
        rw [List.take_of_length_le (by omega), List.take_of_length_le (by omega)] at ht
        exact ht
      have : (xs == ys) = true := by rw [this]; simp
      rw [this] at K; exact K

/-- Limbs out of decimal digits. -/
theorem Limbs_spec2 {x : Sl} {xs : List Nat} {h : Heap} {Q : Sl → Heap → Prop} (hx : RI .i64 h x xs) (hd : Lim 10 xs) (hl : xs.length ≤ 100000000) (hv : nl (val 10 xs) ≤ 2200000)
    (K : ∀ r h', NN h' r (val 10 xs) → Ext h h' → (∀ b, r.blk = some b → h.size ≤ b ∧ b < h'.size) → Q r h') : ref01uLimbs x h Q := by
  unfold ref01uLimbs
  have lx := hx.len
  refine newN (kd := .u32) (ms := []) rfl fun h0 ho he _ => ?_
  rintro out rfl i rfl
  rw [w64 (by omega) (by omega)]
  refine loop.inv (fun s h' => ∃ (j : Nat) (zs : List Nat), s.2 = (j : Int) - 1 ∧ j ≤ xs.length ∧ OwnI .u32 h.size h' s.1 zs ∧ Lim 4294967296 zs ∧ Nrm zs ∧ val 4294967296 zs = val 10 (xs.drop j) ∧ zs.length ≤ xs.length - j ∧ Ext h h') (fun s _ => (s.2 + 1).toNat)
    ⟨xs.length, [], by dsimp only; omega, by omega, ho, Lim.nil, Nrm.nil, by simp [val], by simp, he⟩ ?_
  rintro ⟨o, i'⟩ h1 ⟨j, zs, hi, hj, hoz, hzl, hzn, hzv, hzlen, hext⟩
  simp only at hi hoz
  subst hi
  dsimp only
  refine ⟨fun hge => ?_, fun hlt => ?_⟩
  · simp only [ge_iff_le, decide_eq_true_eq] at hge
    have hj1 : j - 1 < xs.length := by omega
    refine seq.dup ?_
    refine RI.ld (hx.ext hext) (j := j - 1) (by omega) hj1 ?_
    have hxj := hd.get hj1
    have hdr := val_drop (b := 10) xs (j - 1) hj1
    rw [show j - 1 + 1 = j from by omega, ← hzv] at hdr
    generalize xs[j - 1] = xj at *
    have lz := hoz.r.len
    rintro carry rfl
    rw [wu64 (by omega) (by omega)]
    refine loop.inv (fun s h' => ∃ (k c : Nat) (ys : List Nat), s.1 = (c : Int) ∧ s.2 = (k : Int) ∧ k ≤ zs.length ∧ c < 10 ∧ OwnI .u32 h.size h' o ys ∧ Lim 4294967296 ys ∧ ys.length = zs.length ∧
        val 4294967296 (ys.take k) + 4294967296 ^ k * c = 10 * val 4294967296 (zs.take k) + xj ∧ ys.drop k = zs.drop k ∧ Ext h h') (fun s _ => zs.length - s.2.toNat)
      ⟨0, xj, zs, rfl, rfl, by omega, hxj, hoz, hzl, rfl, by simp [val], rfl, hext⟩ ?_
    rintro ⟨c', k'⟩ h2 ⟨k, c, ys, hc, hk, hkl, hc10, hoy, hyl, hylen, hyv, hyd, hext2⟩
    simp only at hc hk
    subst hc hk
    dsimp only
    refine ⟨fun hlt2 => ?_, fun hge2 => ?_⟩
    · simp only [decide_eq_true_eq] at hlt2
      have hkn : k < ys.length := by omega
      have hkz : k < zs.length := by omega
      refine RI.ld hoy.r (j := k) rfl hkn ?_
      have hyk := hyl.get hkn
      have hyz : ys[k] = zs[k] := by
        have h1 := List.drop_eq_getElem_cons hkn
        have h2 := List.drop_eq_getElem_cons hkz
        rw [hyd, h2] at h1
        simp only [List.cons.injEq] at h1
        exact h1.1.symm
      have hsz := val_take_succ (b := 4294967296) zs k hkz
      rw [← hyz] at hsz
      generalize hye : ys[k] = yk at *
      rintro nn rfl
      rw [wu64 (n := (yk : Int)) (by omega) (by omega), wu64 (n := (yk : Int) * 10) (by omega) (by omega), wu64 (by omega) (by omega)]
      have e1 : Int.tmod ((yk : Int) * 10 + (c : Int)) 4294967296 = (((yk * 10 + c) % 4294967296 : Nat) : Int) := by
        have : (yk : Int) * 10 + (c : Int) = ((yk * 10 + c : Nat) : Int) := by simp
        rw [this]; rfl
      have e2 : Int.tdiv ((yk : Int) * 10 + (c : Int)) 4294967296 = (((yk * 10 + c) / 4294967296 : Nat) : Int) := by
        have : (yk : Int) * 10 + (c : Int) = ((yk * 10 + c : Nat) : Int) := by simp
        rw [this]; rfl
      rw [e1, e2]
      refine Own.st hoy (j := k) (m := (yk * 10 + c) % 4294967296) rfl hkn (by rw [wu32 (by omega) (by omega)]) fun h3 ho3 hk3 _ => ?_
      rintro c1 rfl k1 rfl
      rw [wu64 (by omega) (by omega), w64 (by omega) (by omega)]
      refine ⟨⟨k + 1, (yk * 10 + c) / 4294967296, _, rfl, by omega, by omega, by omega, ho3, hyl.set _ (Nat.mod_lt _ (by decide)), by simpa using hylen, ?_, ?_, Keep.own hext2 hoy (Nat.le_refl _) hk3⟩, by omega⟩
      · have hlt3 : k < (ys.set k ((yk * 10 + c) % 4294967296)).length := by simpa using hkn
        rw [val_take_succ _ k hlt3, List.take_set_of_le (Nat.le_refl _), List.getElem_set_self, hsz, Nat.pow_succ]
        have e3 : 4294967296 ^ k * ((yk * 10 + c) % 4294967296) + 4294967296 ^ k * 4294967296 * ((yk * 10 + c) / 4294967296) = 4294967296 ^ k * (yk * 10 + c) := by
          rw [Nat.mul_assoc, ← Nat.mul_add, Nat.mod_add_div]
        have e4 : 4294967296 ^ k * (yk * 10 + c) = 10 * (4294967296 ^ k * yk) + 4294967296 ^ k * c := by
          rw [Nat.mul_add, ← Nat.mul_assoc, Nat.mul_comm (4294967296 ^ k * yk) 10]
        omega
      · rw [List.drop_set_of_lt (by omega)]
        have h1 := List.drop_eq_getElem_cons hkn
        have h2 := List.drop_eq_getElem_cons hkz
        rw [hyd, h2] at h1
        simp only [List.cons.injEq] at h1
        exact h1.2.symm
    · simp only [decide_eq_false_iff_not] at hge2
      have hk : k = zs.length := by omega
      subst hk
      rw [List.take_of_length_le (by omega), List.take_length] at hyv
      have hyne : ys ≠ [] → 1 ≤ val 4294967296 zs := by
        intro hne
        have : zs ≠ [] := fun h => by subst h; simp at hylen; exact hne (List.eq_nil_of_length_eq_zero (by simpa using hylen))
        have h1 := val_ge (b := 4294967296) (by decide) hzn this
        have h2 : 0 < 4294967296 ^ (zs.length - 1) := Nat.pow_pos (by decide)
        omega
      refine ⟨fun hc => ?_, fun hc => ?_⟩
      · simp only [gt_iff_lt, decide_eq_true_eq] at hc
        refine app1 (m := c) (by rw [wu32 (by omega) (by omega)]) hoy hext2.size (by omega) fun s' h3 ho3 hk3 _ => ?_
        rintro i1 rfl
        rw [w64 (by omega) (by omega)]
        refine ⟨⟨j - 1, _, by omega, by omega, ho3, hyl.snoc (by omega), ?_, ?_, by simp; omega, Keep.own hext2 hoy (Nat.le_refl _) hk3⟩, by omega⟩
        · unfold Nrm; rw [List.getLast?_concat]; simp; omega
        · rw [val_snoc, hylen, hdr]; omega
      · simp only [gt_iff_lt, decide_eq_false_iff_not] at hc
        have hc0 : c = 0 := by omega
        subst hc0
        rintro i1 rfl
        rw [w64 (by omega) (by omega)]
        refine ⟨⟨j - 1, ys, by omega, by omega, hoy, hyl, ?_, by rw [hdr]; omega, by omega, hext2⟩, by omega⟩
        -- no nought at the end: else the worth is too small
        unfold Nrm
        intro hz
        have hne : ys ≠ [] := fun h => by subst h; simp at hz
        have h1 := val_take_zero (b := 4294967296) hne hz
        have h2 := val_lt (hyl.take (ys.length - 1))
        rw [h1, List.length_take, Nat.min_eq_left (by omega)] at h2
        have hzne : zs ≠ [] := fun h => by subst h; exact hne (List.eq_nil_of_length_eq_zero (by simpa using hylen))
        have h3 := val_ge (b := 4294967296) (by decide) hzn hzne
        rw [hylen] at h2
        omega
  · simp only [ge_iff_le, decide_eq_false_iff_not] at hlt
    have hj0 : j = 0 := by omega
    subst hj0
    rw [List.drop_zero] at hzv
    exact K o h1 ⟨zs, hoz.r, hzl, hzn, hzv, by rw [nl_val hzl hzn, hzv]; exact hv⟩ hext (fun b hb => hoz.lt hb)
end Go.Sh

namespace Go.Sh
open Go Go.Lift

/-- The letters of a text, as numbers. -/
def cs (s : ByteArray) : List Nat := s.data.toList.map (·.toNat)
theorem cs_len (s : ByteArray) : (cs s).length = s.size := by unfold cs; rw [List.length_map, Array.length_toList]; rfl
theorem idxStr.at {s : ByteArray} {i : Int} {j : Nat} {k : Int → Prop} (hij : i = (j : Int)) (hj : j < (cs s).length) (K : k ((cs s)[j] : Nat)) : idxStr s i k := by
  subst hij
  refine ⟨by omega, ?_⟩
  have h1 : j < s.data.size := by rw [cs_len] at hj; exact hj
  refine ⟨s.data[j], by simp, ?_⟩
  simp only [cs, List.getElem_map, Array.getElem_toList] at K
  exact K
/-- What decimal letters are worth. -/
def dv (c : List Nat) : Nat := val 10 (c.reverse.map (· - 48))
def digs (c : List Nat) : Bool := c.all fun d => decide (48 ≤ d) && decide (d ≤ 57)
theorem digs_lim {c : List Nat} (h : digs c = true) : Lim 10 (c.reverse.map (· - 48)) := by
  intro z hz
  simp only [List.mem_map, List.mem_reverse] at hz
  obtain ⟨d, hd, rfl⟩ := hz
  have := List.all_eq_true.1 h d hd
  simp only [Bool.and_eq_true, decide_eq_true_eq] at this
  omega
theorem dv_nl {c : List Nat} (h : digs c = true) {k : Nat} (hk : c.length ≤ k) : nl (dv c) ≤ k := by
  rw [nl_le_iff]
  have h1 := val_lt (digs_lim h)
  rw [List.length_map, List.length_reverse] at h1
  have h2 : (10 : Nat) ^ c.length ≤ 10 ^ k := Nat.pow_le_pow_right (by decide) hk
  have h3 : (10 : Nat) ^ k ≤ 4294967296 ^ k := Nat.pow_le_pow_left (by decide) _
  unfold dv
  omega

end Go.Sh

namespace Go.Sh
open Go Go.Lift

end Go.Sh
