/-
  Laws that the proof of this claim's statement leans on, each proved under the conditions that it states.
-/
import Derived.Test.YtafkahjfbiamlaaDoorSpM
set_option linter.unusedVariables false
set_option linter.unusedSimpArgs false
namespace Go.Sh
open Go Go.Lift

theorem be_foldl (l : List Nat) : ∀ i, l.foldl (fun n c => 256 * n + c) i = i * 256 ^ l.length + be l := by
  induction l with
  | nil => intro i; simp [be]
  | cons c l ih =>
    intro i
    have h1 := ih (256 * i + c)
    have h2 := ih c
    have e : be (c :: l) = l.foldl (fun n c => 256 * n + c) c := by simp [be]
    rw [e, h2, List.foldl_cons, h1, List.length_cons, Nat.pow_succ, Nat.add_mul]
    have : 256 * i * 256 ^ l.length = i * (256 ^ l.length * 256) := by rw [Nat.mul_comm 256 i, Nat.mul_assoc, Nat.mul_comm 256]
    omega
theorem be_cons (c : Nat) (l : List Nat) : be (c :: l) = c * 256 ^ l.length + be l := by
  have : be (c :: l) = l.foldl (fun n c => 256 * n + c) c := by simp [be]
  rw [this, be_foldl]
theorem be_bsBE (k n : Nat) : be (bsBE k n) = n % 256 ^ k := by
  induction k with
  | zero => simp [bsBE, be, Nat.mod_one]
  | succ k ih =>
    rw [bsBE, be_cons, bsBE_len, ih, Nat.mod_pow_succ, Nat.mul_comm (256 ^ k)]
    omega
theorem bsBE_lim (k n : Nat) : Lim 256 (bsBE k n) := by
  induction k with
  | zero => exact Lim.nil
  | succ k ih =>
    intro x hx
    rcases List.mem_cons.1 hx with rfl | hx
    · omega
    · exact ih x hx

theorem tk_app {l rest : List Nat} {k : Nat} (h : l.length = k) : tk (some (l ++ rest)) (k : Int) = (l, some rest) := by
  rw [tk_some (by rw [List.length_append]; omega)]
  subst h
  simp
theorem num_app (k n : Nat) (rest : List Nat) : numS (some (bsBE k n ++ rest)) k = (n % 256 ^ k, some rest) := by
  unfold numS
  rw [tk_app (bsBE_len k n)]
  dsimp only
  rw [be_bsBE]
theorem cnt_app {c w : Nat} {body rest : List Nat} (hw : 0 < w) (hc : c < 9223372036854775808) (hb : w * c = body.length) : cnt (some (bsBE 8 c ++ (body ++ rest))) (w : Int) = ((c : Int), some (body ++ rest)) := by
  unfold cnt
  have h8 : numS (some (bsBE 8 c ++ (body ++ rest))) 8 = (c, some (body ++ rest)) := by
    rw [num_app, Nat.mod_eq_of_lt (by omega)]
  rw [h8]
  dsimp only
  have hs : sg c = (c : Int) := by unfold sg; rw [w64 (by omega) (by omega)]
  rw [hs, if_neg]
  have e : max (w : Int) 1 = (w : Int) := by omega
  rw [e]
  have : (c : Int) ≤ ((body ++ rest).length : Int) / (w : Int) := by
    have h1 : c ≤ (body ++ rest).length / w := (Nat.le_div_iff_mul_le hw).2 (by rw [List.length_append, Nat.mul_comm]; omega)
    have h2 : (((body ++ rest).length / w : Nat) : Int) = ((body ++ rest).length : Int) / (w : Int) := Int.natCast_ediv _ _
    omega
  omega

/-! ### Rows -/
def encRow (w : Nat) (l : List Nat) : List Nat := bsBE 8 l.length ++ (l.map (bsBE w)).flatten
theorem fl_len (w : Nat) (l : List Nat) : ((l.map (bsBE w)).flatten).length = w * l.length := by
  induction l with
  | nil => simp
  | cons x l ih => simp only [List.map_cons, List.flatten_cons, List.length_append, bsBE_len, ih, List.length_cons, Nat.mul_succ]; omega
theorem fl_drop (w : Nat) (l rest : List Nat) : ∀ j, j ≤ l.length → ((l.map (bsBE w)).flatten ++ rest).drop (w * j) = ((l.drop j).map (bsBE w)).flatten ++ rest := by
  induction l with
  | nil => intro j hj; have : j = 0 := by simpa using hj
           subst this; simp
  | cons x l ih =>
    intro j hj
    cases j with
    | zero => simp
    | succ j =>
      simp only [List.map_cons, List.flatten_cons, List.drop_succ_cons, List.append_assoc]
      have : w * (j + 1) = (bsBE w x).length + w * j := by rw [bsBE_len, Nat.mul_succ]; omega
      rw [this, ← List.drop_drop, List.drop_left]
      exact ih j (by simpa using hj)
theorem chunks_enc {w : Nat} {l : List Nat} (rest : List Nat) (hl : Lim (256 ^ w) l) : chunks w l.length ((l.map (bsBE w)).flatten ++ rest) = l := by
  apply List.ext_getElem (by rw [chunks_len])
  intro j h1 h2
  simp only [chunks, List.getElem_map, List.getElem_range]
  rw [fl_drop w l rest j (by omega), List.drop_eq_getElem_cons h2, List.map_cons, List.flatten_cons, List.append_assoc]
  have : ((bsBE w l[j]) ++ ((((l.drop (j + 1)).map (bsBE w)).flatten) ++ rest)).take w = bsBE w l[j] := by
    have := List.take_left (l₁ := bsBE w l[j]) (l₂ := (((l.drop (j + 1)).map (bsBE w)).flatten) ++ rest)
    rwa [bsBE_len] at this
  rw [this, be_bsBE, Nat.mod_eq_of_lt (hl _ (List.getElem_mem h2))]
theorem row_app {w : Nat} {l : List Nat} (rest : List Nat) (hw : 0 < w) (hc : l.length < 9223372036854775808) (hl : Lim (256 ^ w) l) : rowS w (some (encRow w l ++ rest)) = (l, some rest) := by
  unfold rowS encRow
  rw [List.append_assoc, cnt_app hw hc (fl_len w l).symm]
  dsimp only
  rw [Int.toNat_natCast, chunks_enc rest hl, fl_drop w l rest l.length (Nat.le_refl _)]
  simp
theorem bytes_app {bs : List Nat} (rest : List Nat) (hc : bs.length < 9223372036854775808) : bytesS (some (bsBE 8 bs.length ++ (bs ++ rest))) = (bs, some rest) := by
  unfold bytesS
  have := cnt_app (w := 1) (c := bs.length) (body := bs) (rest := rest) (by decide) hc (by omega)
  have e1 : ((1 : Nat) : Int) = 1 := rfl
  rw [e1] at this
  rw [this]
  exact tk_app rfl
def flagN (b : Bool) : Nat := if b then 1 else 0
theorem flag_app (b : Bool) (rest : List Nat) : flagS (some (bsBE 1 (flagN b) ++ rest)) = (b, some rest) := by
  unfold flagS
  rw [num_app]
  cases b <;> simp [flagN]
def encR (x : Bool × List Nat × List Nat) : List Nat := bsBE 1 (flagN x.1) ++ (encRow 4 x.2.1 ++ encRow 4 x.2.2)
/-- A ratio that may be, of few limbs. -/
structure FewR (x : Bool × List Nat × List Nat) : Prop where
  q : isQL x.1 x.2.1 x.2.2
  ln : Lim 4294967296 x.2.1
  ld : Lim 4294967296 x.2.2
  n : x.2.1.length ≤ 100
  d : x.2.2.length ≤ 100
theorem rat_app {x : Bool × List Nat × List Nat} (hx : FewR x) (rest : List Nat) : ratS (some (encR x ++ rest)) = (x, some rest) := by
  have e1 : flagS (some (encR x ++ rest)) = (x.1, some (encRow 4 x.2.1 ++ (encRow 4 x.2.2 ++ rest))) := by
    unfold encR; rw [List.append_assoc, List.append_assoc]; exact flag_app _ _
  have hn := hx.n
  have hd := hx.d
  have e2 := row_app (w := 4) (l := x.2.1) (encRow 4 x.2.2 ++ rest) (by decide) (by omega) hx.ln
  have e3 := row_app (w := 4) (l := x.2.2) rest (by decide) (by omega) hx.ld
  have hg : ratGood (some (encR x ++ rest)) := by
    unfold ratGood
    rw [e1]
    dsimp only
    rw [e2]
    dsimp only
    rw [e3]
    exact ⟨rfl, hx.q⟩
  unfold ratS
  rw [if_pos hg, e1]
  dsimp only
  rw [e2]
  dsimp only
  rw [e3]
theorem del_app {x y : Bool × List Nat × List Nat} (hx : FewR x) (hy : FewR y) (rest : List Nat) : delS (some (encR x ++ (encR y ++ rest))) = ((x, y), some rest) := by
  unfold delS
  rw [rat_app hx]
  dsimp only
  rw [rat_app hy]
  simp

/-- What a thing is. -/
structure Val where
  k : Int
  n : Int
  bs : List Nat
  A : Bool × List Nat × List Nat
  B : Bool × List Nat × List Nat
  li : List Int
def toU (n : Int) : Nat := (n % 18446744073709551616).toNat
def bit (n : Int) : Bool := (IntKind.wrap .i64 (((BitVec.ofInt (IntKind.bits .i64) n &&& BitVec.ofInt (IntKind.bits .i64) 1).toNat : Int))) == 1
def enc (v : Val) : List Nat :=
  if v.k = 0 then bsBE 8 (toU v.n) else if v.k = 1 then bsBE 1 (flagN (bit v.n)) else if v.k = 2 then bsBE 8 v.bs.length ++ v.bs else if v.k = 3 then encR v.A else if v.k = 4 then encR v.A ++ encR v.B else if v.k = 5 then encRow 8 (v.li.map toU) else []
structure Few (v : Val) : Prop where
  A : FewR v.A
  B : FewR v.B
  bs : v.bs.length ≤ 300
  lb : Lim 256 v.bs
  li : v.li.length ≤ 60
theorem toU_lt (n : Int) : toU n < 18446744073709551616 := by unfold toU; omega
theorem takeS_enc {v : Val} (hv : Few v) (hk : 0 ≤ v.k ∧ v.k ≤ 5) (rest : List Nat) : takeS (some (enc v ++ rest)) v.k v.n = some rest := by
  unfold takeS enc
  have hb := hv.bs
  have hl := hv.li
  have : v.k = 0 ∨ v.k = 1 ∨ v.k = 2 ∨ v.k = 3 ∨ v.k = 4 ∨ v.k = 5 := by omega
  rcases this with h | h | h | h | h | h <;> rw [h]
  · simp only [if_pos]; rw [num_app]
  · simp only [if_pos, show ¬ ((1 : Int) = 0) by decide, if_false]; rw [flag_app]
  · simp only [if_pos, show ¬ ((2 : Int) = 0) by decide, show ¬ ((2 : Int) = 1) by decide, if_false]; rw [List.append_assoc, bytes_app rest (by omega)]
  · simp only [if_pos, show ¬ ((3 : Int) = 0) by decide, show ¬ ((3 : Int) = 1) by decide, show ¬ ((3 : Int) = 2) by decide, if_false]; rw [rat_app hv.A]
  · simp only [if_pos, show ¬ ((4 : Int) = 0) by decide, show ¬ ((4 : Int) = 1) by decide, show ¬ ((4 : Int) = 2) by decide, show ¬ ((4 : Int) = 3) by decide, if_false]; rw [List.append_assoc, del_app hv.A hv.B]
  · simp only [if_pos, show ¬ ((5 : Int) = 0) by decide, show ¬ ((5 : Int) = 1) by decide, show ¬ ((5 : Int) = 2) by decide, show ¬ ((5 : Int) = 3) by decide, show ¬ ((5 : Int) = 4) by decide, if_false]
    unfold intsS
    rw [row_app rest (by decide) (by rw [List.length_map]; omega) (fun x hx => by obtain ⟨y, _, rfl⟩ := List.mem_map.1 hx; exact toU_lt y)]

/-! ### Of more bytes the same is taken -/
theorem tk_mono {p q r l : List Nat} {n : Int} (h : tk (some p) n = (l, some r)) : tk (some (p ++ q)) n = (l, some (r ++ q)) := by
  simp only [tk] at h ⊢
  split at h
  · rename_i hc
    injection h with h1 h2
    injection h2 with h2
    rw [if_pos (by rw [List.length_append]; omega), List.take_append_of_le_length (by omega), List.drop_append_of_le_length (by omega), h1, h2]
  · injection h with _ h2; cases h2
theorem num_mono {p q r : List Nat} {k n : Nat} (h : numS (some p) k = (n, some r)) : numS (some (p ++ q)) k = (n, some (r ++ q)) := by
  unfold numS at h ⊢
  injection h with h1 h2
  have : tk (some p) (k : Int) = ((tk (some p) (k : Int)).1, some r) := Prod.ext rfl h2
  rw [tk_mono this]
  exact Prod.ext h1 rfl
theorem cnt_mono {p q r : List Nat} {c least : Int} (h : cnt (some p) least = (c, some r)) : cnt (some (p ++ q)) least = (c, some (r ++ q)) := by
  unfold cnt at h
  cases hn : (numS (some p) 8).2 with
  | none => rw [hn] at h; injection h with _ h2; cases h2
  | some r' =>
    rw [hn] at h
    dsimp only at h
    split at h
    · injection h with _ h2; cases h2
    · rename_i hc
      injection h with h1 h2
      injection h2 with h2
      subst h2
      have hm : numS (some (p ++ q)) 8 = ((numS (some p) 8).1, some (r' ++ q)) := num_mono (Prod.ext rfl hn)
      unfold cnt
      rw [hm]
      dsimp only
      rw [if_neg, h1]
      have : ((r'.length : Nat) : Int) / max least 1 ≤ (((r' ++ q).length : Nat) : Int) / max least 1 := Int.ediv_le_ediv (by omega) (by rw [List.length_append]; omega)
      omega
theorem flag_mono {p q r : List Nat} {b : Bool} (h : flagS (some p) = (b, some r)) : flagS (some (p ++ q)) = (b, some (r ++ q)) := by
  unfold flagS at h
  split at h
  · injection h with _ h2; cases h2
  · rename_i hc
    injection h with h1 h2
    have hm : numS (some (p ++ q)) 1 = ((numS (some p) 1).1, some (r ++ q)) := num_mono (Prod.ext rfl h2)
    unfold flagS
    rw [hm]
    dsimp only
    rw [if_neg hc, h1]
theorem chunks_mono {w c : Nat} {r q : List Nat} (h : w * c ≤ r.length) : chunks w c (r ++ q) = chunks w c r := by
  unfold chunks
  apply List.map_congr_left
  intro j hj
  have hj := List.mem_range.1 hj
  have h2 : w * j + w ≤ r.length := by
    have : w * (j + 1) ≤ w * c := Nat.mul_le_mul_left _ hj
    rw [Nat.mul_succ] at this; omega
  rw [List.drop_append_of_le_length (by omega), List.take_append_of_le_length (by rw [List.length_drop]; omega)]
theorem row_mono {w : Nat} {p q r l : List Nat} (hw : 0 < w) (h : rowS w (some p) = (l, some r)) : rowS w (some (p ++ q)) = (l, some (r ++ q)) := by
  unfold rowS at h
  rcases cnt_spec (some p) w with ⟨bs, e1, e2, e3, _⟩ | e
  · have hc : cnt (some p) w = ((cnt (some p) w).1, some bs) := Prod.ext rfl e1
    have hm := cnt_mono (q := q) hc
    rw [e1] at h
    dsimp only at h
    injection h with h1 h2
    injection h2 with h2
    have hle : w * (cnt (some p) w).1.toNat ≤ bs.length := cnt_le hw (by rw [Int.toNat_of_nonneg e2]; exact e3)
    unfold rowS
    rw [hm]
    dsimp only
    rw [chunks_mono hle, List.drop_append_of_le_length hle, h1, h2]
  · rw [e] at h; injection h with _ h2; cases h2
theorem rat_mono {p q r : List Nat} {x : Bool × List Nat × List Nat} (h : ratS (some p) = (x, some r)) : ratS (some (p ++ q)) = (x, some (r ++ q)) := by
  unfold ratS at h
  split at h
  · rename_i hg
    injection h with h1 h2
    cases f2 : (flagS (some p)).2 with
    | none => rw [f2] at h2; simp [rowS, cnt_none] at h2
    | some p1 =>
    have hf : flagS (some p) = ((flagS (some p)).1, some p1) := Prod.ext rfl f2
    rw [f2] at h1 h2
    cases n2 : (rowS 4 (some p1)).2 with
    | none => rw [n2] at h2; simp [rowS, cnt_none] at h2
    | some p2 =>
    have hn : rowS 4 (some p1) = ((rowS 4 (some p1)).1, some p2) := Prod.ext rfl n2
    rw [n2] at h1 h2
    have hd : rowS 4 (some p2) = ((rowS 4 (some p2)).1, some r) := Prod.ext rfl h2
    have hf' := flag_mono (q := q) hf
    have hn' := row_mono (q := q) (by decide) hn
    have hd' := row_mono (q := q) (by decide) hd
    have hg' : ratGood (some (p ++ q)) := by
      unfold ratGood at hg ⊢
      rw [hf']
      dsimp only
      rw [hn']
      dsimp only
      rw [hd']
      rw [f2, n2] at hg
      exact ⟨rfl, hg.2⟩
    unfold ratS
    rw [if_pos hg', hf']
    dsimp only
    rw [hn']
    dsimp only
    rw [hd', ← h1]
  · injection h with _ h2; cases h2
theorem takeS_mono {p q r : List Nat} {k n : Int} (h : takeS (some p) k n = some r) : takeS (some (p ++ q)) k n = some (r ++ q) := by
  unfold takeS at h ⊢
  split at h
  · rw [if_pos ‹_›, num_mono (Prod.ext rfl h)]
  · rw [if_neg ‹_›]
    split at h
    · rw [if_pos ‹_›, flag_mono (Prod.ext rfl h)]
    · rw [if_neg ‹_›]
      split at h
      · rw [if_pos ‹_›]
        unfold bytesS at h ⊢
        cases hc : (cnt (some p) 1).2 with
        | none => rw [hc] at h; simp [tk] at h
        | some p1 =>
          rw [cnt_mono (q := q) (Prod.ext rfl hc : cnt (some p) 1 = ((cnt (some p) 1).1, some p1))]
          dsimp only
          rw [hc] at h
          rw [tk_mono (Prod.ext rfl h)]
      · rw [if_neg ‹_›]
        split at h
        · rw [if_pos ‹_›, rat_mono (Prod.ext rfl h)]
        · rw [if_neg ‹_›]
          split at h
          · rw [if_pos ‹_›]
            unfold delS at h
            split at h
            · cases h
            · rename_i hn
              dsimp only at h
              cases h2 : (ratS (some p)).2 with
              | none =>
                rw [h2] at h
                have : (ratS none).2 = none := by
                  unfold ratS
                  split
                  · rename_i hg
                    have := hg.1
                    simp [flagS, numS, tk_none, rowS, cnt_none, be_nil] at this
                  · rfl
                rw [this] at h; cases h
              | some p1 =>
                rw [h2] at h
                have e1 := rat_mono (q := q) (Prod.ext rfl h2 : ratS (some p) = ((ratS (some p)).1, some p1))
                have e2 := rat_mono (q := q) (Prod.ext rfl h : ratS (some p1) = ((ratS (some p1)).1, some r))
                unfold delS
                rw [e1]
                dsimp only
                rw [e2]
                simp
          · rw [if_neg ‹_›]
            split at h
            · rw [if_pos ‹_›]
              unfold intsS at h ⊢
              rw [row_mono (q := q) (by decide) (Prod.ext rfl h : rowS 8 (some p) = ((rowS 8 (some p)).1, some r))]
            · rw [if_neg ‹_›, cnt_mono (q := q) (Prod.ext rfl h : cnt (some p) n = ((cnt (some p) n).1, some r))]
end Go.Sh

namespace Go.Sh
open Go Go.Lift
variable {h h' h0 : Heap} {a : Addr} {s s' out out' : Sl} {bs bs' bs2 : List Nat}

/-! ### What stays beside what is turned -/
theorem F2.cell {b : Addr} {v : Value} (f : F2 a s s' h h') (hc : cell? h b = some v) (h1 : b.block ≠ a.block) (h2 : s.blk ≠ some b.block) : cell? h' b = some v := by
  have := f.same b.block (cell_lt hc) h1 h2
  unfold cell? at hc ⊢
  rw [this]; exact hc
theorem F2.r {α : Type} {toV : α → Value} {t : Sl} {xs : List α} (f : F2 a s s' h h') (hr : R toV h t xs) (h1 : ∀ b, t.blk = some b → b ≠ a.block ∧ s.blk ≠ some b) : R toV h' t xs := by
  cases ha : t.a with
  | none =>
    refine ⟨hr.len, hr.cap, ?_⟩
    have := hr.cells
    rw [ha] at this ⊢
    exact this
  | some y =>
    have hb := h1 y.block (by simp [Sl.blk, ha])
    refine R.mk' hr.len hr.cap y ha fun i hi => ?_
    obtain ⟨y', hy, hc⟩ := hr.get hi
    rw [ha] at hy; cases hy
    exact f.cell hc (by rw [addr_add_block]; exact hb.1) (by rw [addr_add_block]; exact hb.2)
theorem F2.own {α : Type} {toV : α → Value} {B : Nat} {t : Sl} {xs : List α} (f : F2 a s s' h h') (ho : Own toV B h t xs) (h1 : ∀ b, t.blk = some b → b ≠ a.block ∧ s.blk ≠ some b) : Own toV B h' t xs := by
  refine ⟨f.r ho.r h1, ?_⟩
  rcases ho.own with g | ⟨b, c, T, g1, g2, g3, g4⟩
  · exact .inl g
  · have hb := h1 b (by simp [Sl.blk, g1])
    exact .inr ⟨b, c, T, g1, g2, by rw [f.same b (Array.getElem?_eq_some_iff.1 g3).1 hb.1 hb.2]; exact g3, g4⟩

/-- What puts, and what lies below. -/
structure OE (h0 h : Heap) (a : Addr) (s : Sl) (bs : List Nat) : Prop where
  o : OO h a s bs
  e : Ext h0 h
  ha : h0.size ≤ a.block
  hs : ∀ b, s.blk = some b → h0.size ≤ b
  al : a.block < h.size
theorem OE.step (p : OE h0 h a s bs) (o : OO h' a s' bs') (f : F2 a s s' h h') : OE h0 h' a s' bs' :=
  ⟨o, f.ext p.e p.ha p.hs, p.ha, fun b hb => (f.blk b hb).elim (p.hs b) (fun g => Nat.le_trans p.e.size g), Nat.lt_of_lt_of_le p.al f.size⟩
theorem num_o {n k : Nat} {Q : Unit → Heap → Prop} (hn : n < 18446744073709551616) (hk : k ≤ 8) (p : OE h0 h a s bs) (hl : bs.length ≤ 1000000)
    (K : ∀ s' h', OE h0 h' a s' (bs ++ bsBE k n) → F2 a s s' h h' → Q () h') : pack_Out_number (some a) (n : Int) (k : Int) h Q :=
  outNum_spec hn hk p.o hl fun s' h' o f => K s' h' (p.step o f) f
theorem int_o {n : Int} {Q : Unit → Heap → Prop} (p : OE h0 h a s bs) (hl : bs.length ≤ 1000000)
    (K : ∀ s' h', OE h0 h' a s' (bs ++ bsBE 8 (toU n)) → F2 a s s' h h' → Q () h') : pack_Out_Int (some a) n h Q :=
  outInt_spec p.o hl fun s' h' o f => K s' h' (p.step o f) f
theorem toU_nat {n : Nat} (h : n < 18446744073709551616) : toU (n : Int) = n := by unfold toU; omega
theorem flag_o {b : Bool} {Q : Unit → Heap → Prop} (p : OE h0 h a s bs) (hl : bs.length ≤ 1000000)
    (K : ∀ s' h', OE h0 h' a s' (bs ++ bsBE 1 (flagN b)) → F2 a s s' h h' → Q () h') : pack_Out_Flag (some a) b h Q := by
  refine seq.cut (fun (t : Int) h1 => t = ((flagN b : Nat) : Int) ∧ h1 = h) ?_ ?_
  · cases b
    · exact ⟨fun hb => by simp at hb, fun _ => ⟨rfl, rfl⟩⟩
    · exact ⟨fun _ => ⟨rfl, rfl⟩, fun hb => by simp at hb⟩
  · rintro t h1 ⟨rfl, rfl⟩
    exact num_o (k := 1) (by unfold flagN; split <;> omega) (by decide) p hl K
theorem limb_o {n : Nat} {Q : Unit → Heap → Prop} (hn : n < 4294967296) (p : OE h0 h a s bs) (hl : bs.length ≤ 1000000)
    (K : ∀ s' h', OE h0 h' a s' (bs ++ bsBE 4 n) → F2 a s s' h h' → Q () h') : pack_Out_limb (some a) (n : Int) h Q := by
  unfold pack_Out_limb
  rw [wu64 (by omega) (by omega)]
  exact num_o (k := 4) (by omega) (by decide) p hl K
theorem fl_take (w : Nat) (l : List Nat) {i : Nat} (hi : i < l.length) : ((l.take (i + 1)).map (bsBE w)).flatten = ((l.take i).map (bsBE w)).flatten ++ bsBE w l[i] := by
  rw [List.take_succ_eq_append_getElem hi]
  simp only [List.map_append, List.flatten_append, List.map_cons, List.map_nil, List.flatten_cons, List.flatten_nil, List.append_nil]
theorem fl_len_le (w : Nat) (l : List Nat) (i : Nat) : (((l.take i).map (bsBE w)).flatten).length ≤ w * l.length := by
  rw [fl_len, List.length_take]; exact Nat.mul_le_mul_left _ (Nat.min_le_right _ _)
theorem row_o {list : Sl} {xs : List Nat} {Q : Unit → Heap → Prop} (p : OE h0 h a s bs) (hr : RI .u32 h0 list xs) (hx : Lim 4294967296 xs) (hxl : xs.length ≤ 1000) (hl : bs.length ≤ 900000)
    (K : ∀ s' h', OE h0 h' a s' (bs ++ encRow 4 xs) → F2 a s s' h h' → Q () h') : pack_Put_uint32u_pack_Out_limb (some a) list (some a) h Q := by
  unfold pack_Put_uint32u_pack_Out_limb
  have hlen := hr.len
  rw [hlen]
  refine int_o p (by omega) fun s1 h1 p1 f1 => ?_
  rw [toU_nat (by omega)] at p1
  refine loop.inv (fun (s0 : Int) h2 => ∃ (i : Nat) (s2 : Sl), s0 = (i : Int) ∧ i ≤ xs.length ∧ OE h0 h2 a s2 (bs ++ bsBE 8 xs.length ++ ((xs.take i).map (bsBE 4)).flatten) ∧ F2 a s s2 h h2) (fun s0 _ => xs.length - s0.toNat) ⟨0, s1, rfl, Nat.zero_le _, by simpa using p1, f1⟩ ?_
  rintro s0 h2 ⟨i, s2, rfl, hi, p2, f2⟩
  dsimp only
  refine ⟨fun hlt => ?_, fun hge => ?_⟩
  · simp only [decide_eq_true_eq] at hlt
    have hi' : i < xs.length := by omega
    refine RI.ld (R.ext hr p2.e) (j := i) rfl hi' ?_
    refine limb_o (hx.get hi') p2 (by have := fl_len_le 4 xs i; simp only [List.length_append, bsBE_len]; omega) fun s3 h3 p3 f3 => ?_
    rw [w64 (by omega) (by omega)]
    exact ⟨⟨i + 1, s3, by omega, by omega, by rw [fl_take 4 xs hi', ← List.append_assoc]; exact p3, f2.trans f3⟩, by simp only [Int.toNat_natCast]; omega⟩
  · simp only [decide_eq_false_iff_not] at hge
    have : i = xs.length := by omega
    subst this
    refine K s2 h2 ?_ f2
    have e : bs ++ encRow 4 xs = bs ++ bsBE 8 xs.length ++ ((xs.take xs.length).map (bsBE 4)).flatten := by unfold encRow; rw [List.take_length, List.append_assoc]
    rw [e]; exact p2
theorem ints_o {list : Sl} {xs : List Int} {Q : Unit → Heap → Prop} (p : OE h0 h a s bs) (hr : R (Value.int .i64) h0 list xs) (hxl : xs.length ≤ 1000) (hl : bs.length ≤ 900000)
    (K : ∀ s' h', OE h0 h' a s' (bs ++ encRow 8 (xs.map toU)) → F2 a s s' h h' → Q () h') : pack_Put_int__pack_Out_Int (some a) list (some a) h Q := by
  unfold pack_Put_int__pack_Out_Int
  have hlen := hr.len
  rw [hlen]
  have hml : (xs.map toU).length = xs.length := List.length_map ..
  refine int_o p (by omega) fun s1 h1 p1 f1 => ?_
  rw [toU_nat (by omega)] at p1
  refine loop.inv (fun (s0 : Int) h2 => ∃ (i : Nat) (s2 : Sl), s0 = (i : Int) ∧ i ≤ xs.length ∧ OE h0 h2 a s2 (bs ++ bsBE 8 xs.length ++ (((xs.map toU).take i).map (bsBE 8)).flatten) ∧ F2 a s s2 h h2) (fun s0 _ => xs.length - s0.toNat) ⟨0, s1, rfl, Nat.zero_le _, by simpa using p1, f1⟩ ?_
  rintro s0 h2 ⟨i, s2, rfl, hi, p2, f2⟩
  dsimp only
  refine ⟨fun hlt => ?_, fun hge => ?_⟩
  · simp only [decide_eq_true_eq] at hlt
    have hi' : i < xs.length := by omega
    refine R.load (R.ext hr p2.e) (by omega) (by omega) ?_
    simp only [Int.toNat_natCast]
    refine int_o p2 (by have := fl_len_le 8 (xs.map toU) i; simp only [List.length_append, bsBE_len]; omega) fun s3 h3 p3 f3 => ?_
    rw [w64 (by omega) (by omega)]
    have hi2 : i < (xs.map toU).length := by omega
    exact ⟨⟨i + 1, s3, by omega, by omega, by rw [fl_take 8 _ hi2, ← List.append_assoc, List.getElem_map]; exact p3, f2.trans f3⟩, by omega⟩
  · simp only [decide_eq_false_iff_not] at hge
    have : i = xs.length := by omega
    subst this
    refine K s2 h2 ?_ f2
    have e : bs ++ encRow 8 (xs.map toU) = bs ++ bsBE 8 xs.length ++ (((xs.map toU).take xs.length).map (bsBE 8)).flatten := by
      unfold encRow; rw [hml, ← hml, List.take_length, hml, List.append_assoc]
    rw [e]; exact p2
theorem encRow_len (w : Nat) (l : List Nat) : (encRow w l).length = 8 + w * l.length := by unfold encRow; rw [List.length_append, bsBE_len, fl_len]
theorem encR_len (x : Bool × List Nat × List Nat) : (encR x).length = 17 + 4 * x.2.1.length + 4 * x.2.2.length := by
  unfold encR; rw [List.length_append, List.length_append, bsBE_len, encRow_len, encRow_len]; omega
theorem ratio_o {x : Bool × Sl × Sl} {l : Bool × List Nat × List Nat} {Q : Unit → Heap → Prop} (p : OE h0 h a s bs) (hx : XL h0 x l) (hf : FewR l) (hl : bs.length ≤ 800000)
    (K : ∀ s' h', OE h0 h' a s' (bs ++ encR l) → F2 a s s' h h' → Q () h') : pack_Out_Ratio (some a) x h Q := by
  refine mem_ext fun h1 e1 => ?_
  have p1 : OE h0 h1 a s bs := ⟨⟨p.o.spot, cell_keep e1 p.o.c0 (by simp), frozen_keep e1 (cell_lt p.o.c0) p.o.f0 (by simp), p.o.o.ext e1, p.o.d⟩, p.e.trans e1, p.ha, p.hs, Nat.lt_of_lt_of_le p.al e1.size⟩
  have f1 : F2 a s s h h1 := ⟨e1.size, fun b hb _ _ => e1.same b hb (by simp), fun b hb => .inl hb⟩
  have n1 := hf.n
  have n2 := hf.d
  rw [hx.neg]
  refine flag_o p1 (by omega) fun s2 h2 p2 f2 => row_o p2 hx.x.num hf.ln (by omega) (by rw [List.length_append, bsBE_len]; omega) fun s3 h3 p3 f3 => row_o p3 hx.x.den hf.ld (by omega) (by rw [List.length_append, List.length_append, bsBE_len, encRow_len]; omega) fun s4 h4 p4 f4 => ?_
  refine K s4 h4 ?_ (f1.trans (f2.trans (f3.trans f4)))
  have e : bs ++ encR l = bs ++ bsBE 1 (flagN l.1) ++ encRow 4 l.2.1 ++ encRow 4 l.2.2 := by unfold encR; simp [List.append_assoc]
  rw [e]; exact p4
theorem OE.ext (p : OE h0 h a s bs) (e1 : Ext h h') : OE h0 h' a s bs ∧ F2 a s s h h' :=
  ⟨⟨⟨p.o.spot, cell_keep e1 p.o.c0 (by simp), frozen_keep e1 (cell_lt p.o.c0) p.o.f0 (by simp), p.o.o.ext e1, p.o.d⟩, p.e.trans e1, p.ha, p.hs, Nat.lt_of_lt_of_le p.al e1.size⟩, ⟨e1.size, fun b hb _ _ => e1.same b hb (by simp), fun b hb => .inl hb⟩⟩
theorem delta_o {x : Bool × Sl × Sl × Bool × Sl × Sl} {l k : Bool × List Nat × List Nat} {Q : Unit → Heap → Prop} (p : OE h0 h a s bs) (hx : XL h0 (x.1, x.2.1, x.2.2.1) l) (hy : XL h0 x.2.2.2 k) (hf : FewR l) (hg : FewR k) (hl : bs.length ≤ 700000)
    (K : ∀ s' h', OE h0 h' a s' (bs ++ (encR l ++ encR k)) → F2 a s s' h h' → Q () h') : pack_Out_Delta (some a) x h Q := by
  refine mem_ext fun h1 e1 => ?_
  obtain ⟨p1, f1⟩ := p.ext e1
  have n1 := hf.n
  have n2 := hf.d
  refine ratio_o p1 hx hf (by omega) fun s2 h2 p2 f2 => ratio_o p2 hy hg (by rw [List.length_append, encR_len]; omega) fun s3 h3 p3 f3 => ?_
  exact K s3 h3 (by rw [← List.append_assoc]; exact p3) (f1.trans (f2.trans f3))
theorem bytes_o {b : Sl} {xs : List Nat} {Q : Unit → Heap → Prop} (p : OE h0 h a s bs) (hr : RI .u8 h0 b xs) (hxl : xs.length ≤ 1000) (hl : bs.length ≤ 900000)
    (K : ∀ s' h', OE h0 h' a s' (bs ++ (bsBE 8 xs.length ++ xs)) → F2 a s s' h h' → Q () h') : pack_Out_Bytes (some a) b h Q := by
  unfold pack_Out_Bytes
  rw [hr.len]
  refine int_o p (by omega) fun s1 h1 p1 f1 => ?_
  rw [toU_nat (by omega)] at p1
  refine ⟨a, rfl, s1, p1.o.c0, ?_⟩
  refine Own.append (bytes := 1) p1.o.o (Nat.zero_le _) (R.ext hr p1.e) (fun _ => rfl) (by simp [bsBE_len]; omega) fun s3 h3 o3 k3 b3 => ?_
  have hne : some a.block ≠ s1.blk := fun e => p1.o.d e.symm
  have c0'' := cell_keep k3 p1.o.c0 (by rw [addr_add_block]; exact hne)
  have f0'' := frozen_keep k3 (cell_lt p1.o.c0) p1.o.f0 (by rw [addr_add_block]; exact hne)
  refine ⟨a, rfl, ⟨_, c0''⟩, f0'', ?_⟩
  have k4 := keepSet a 0 (Sl.toV s3) h3
  have ha2 := p1.al
  have d3 : s3.blk ≠ some a.block := by
    rcases b3 with h | ⟨h, _⟩
    · rw [h]; exact p1.o.d
    · rw [h]; intro e; injection e with e; omega
  have o4 : OO (setCell h3 (a.add 0) (Sl.toV s3)) a s3 (bs ++ bsBE 8 xs.length ++ xs) := ⟨p1.o.spot, cell_set_same c0'', by rw [frozen_set]; exact f0'', o3.keep k4 (fun b hb e => d3 (by rw [hb, e])), d3⟩
  have f4 : F2 a s1 s3 h1 (setCell h3 (a.add 0) (Sl.toV s3)) := ⟨Nat.le_trans k3.size k4.size, fun b hb g1 g2 => (k4.same b (Nat.lt_of_lt_of_le hb k3.size) (by simpa using g1)).trans (k3.same b hb (fun e => g2 e.symm)), fun b hb => by
    rcases b3 with h | ⟨h, _⟩
    · exact .inl (by rw [← h]; exact hb)
    · rw [h] at hb; injection hb with hb; exact .inr (by omega)⟩
  exact K s3 _ (by rw [← List.append_assoc]; exact p1.step o4 f4) (f1.trans f4)

/-! ### The document's -/
/-- A row of one's own got longer. -/
structure G1 (out out' : Sl) (h h' : Heap) : Prop where
  k : Keep out.blk h h'
  blk : ∀ b, out'.blk = some b → out.blk = some b ∨ h.size ≤ b
theorem G1.trans {out'' : Sl} {h'' : Heap} (f : G1 out out' h h') (g : G1 out' out'' h' h'') : G1 out out'' h h'' :=
  ⟨⟨Nat.le_trans f.k.size g.k.size, fun b hb hne => (g.k.same b (Nat.lt_of_lt_of_le hb f.k.size) (fun e => (f.blk b e.symm).elim (fun h => hne h.symm) (fun h => by omega))).trans (f.k.same b hb hne)⟩, fun b hb => (g.blk b hb).elim (f.blk b) (fun h => .inr (Nat.le_trans f.k.size h))⟩
theorem G1.ext (e : Ext h h') : G1 out out h h' := ⟨Keep.of_ext e, fun b hb => .inl hb⟩
theorem G1.base (f : G1 out out' h h') (e : Ext h0 h) (hs : ∀ b, out.blk = some b → h0.size ≤ b) : Ext h0 h' := keepFresh e f.k hs
theorem app_r {ys : List Nat} {x : Sl} {Q : Sl → Heap → Prop} (ho : OwnI .u8 h0.size h out bs) (e0 : Ext h0 h) (hx : RI .u8 h x ys) (hl : bs.length + ys.length ≤ 2000000)
    (K : ∀ out' h', OwnI .u8 h0.size h' out' (bs ++ ys) → G1 out out' h h' → Q out' h') : appendS 1 1 out x h Q :=
  Own.append (bytes := 1) ho e0.size hx (fun _ => rfl) (by omega) fun s' h' o k b => K s' h' o ⟨k, fun i hi => by
    rcases b with g | ⟨g, _⟩
    · exact .inl (by rw [← g]; exact hi)
    · rw [g] at hi; injection hi with hi; exact .inr (by omega)⟩
theorem new_r {ys : List Nat} {cs : List Value} {Q : Sl → Heap → Prop} {n : Nat} (hn : n = ys.length) (hcs : cs = ys.map (fun n : Nat => Value.int .u8 (n : Int))) (ho : OwnI .u8 h0.size h out bs) (e0 : Ext h0 h) (hl : bs.length + ys.length ≤ 2000000)
    (K : ∀ out' h', OwnI .u8 h0.size h' out' (bs ++ ys) → G1 out out' h h' → Q out' h') : new cs h fun a h1 => appendS 1 1 out (⟨some a, n, n⟩ : Sl) h1 Q := by
  intro T
  subst hn
  have hx := (Own.new (toV := fun n : Nat => Value.int .u8 (n : Int)) (h := h) (ys := ys) (T := T) hcs).r
  have e1 := Ext.push h (.cells cs.toArray T (0, 0))
  exact app_r (ho.ext e1) (e0.trans e1) hx hl fun out' h' o g => K out' h' o ((G1.ext e1).trans g)

theorem Own.setAll {α : Type} {toV : α → Value} {B : Nat} {s : Sl} {ys zs : List α} {k : Heap → Prop} {a : Addr} (ho : Own toV B h s ys) (ha : s.a = some a) (hl : zs.length = ys.length) (K : ∀ h', Own toV B h' s zs → Keep s.blk h h' → h'.size = h.size → k h') : storeS a (zs.map toV) h k := by
  rcases ho.own with ⟨g, _⟩ | ⟨b, c, T, g1, g2, g3, g4⟩
  · rw [g] at ha; cases ha
  · rw [g1] at ha; cases ha
    have hlen := ho.r.len
    have hcap := ho.r.cap
    obtain ⟨c', q1, q2, q3, q4, q5⟩ := setCells_block (zs.map toV) 0 0 h c g3 (by simp; omega)
    have kk := setCells_keep ⟨b, 0, none⟩ (zs.map toV) 0 h
    refine ⟨q5, K _ ⟨R.mk' (by omega) hcap _ g1 fun i hi => ?_, .inr ⟨b, c', T, g1, g2, q1, by omega⟩⟩ (by simpa [Sl.blk, g1] using kk) ?_⟩
    · have := q4 i (by simpa using hi)
      simp only [Nat.zero_add, List.getElem_map] at this
      rw [addr_add _ _ rfl]
      unfold cell?
      simp [q1, this]
    · have : ∀ (vs : List Value) (i : Nat) (h : Heap), (setCells h ⟨b, 0, none⟩ vs i).size = h.size := by
        intro vs
        induction vs with
        | nil => intro i h; rfl
        | cons v vs ih => intro i h; simp only [setCells, ih, setCell_size]
      exact this _ _ _
theorem int_r {n : Int} {Q : Sl → Heap → Prop} (ho : OwnI .u8 h0.size h out bs) (e0 : Ext h0 h) (hl : bs.length ≤ 1000000)
    (K : ∀ out' h', OwnI .u8 h0.size h' out' (bs ++ bsBE 8 (toU n)) → G1 out out' h h' → Q out' h') : ref04uInt out n h Q := by
  unfold ref04uInt
  have hw : IntKind.wrap .u64 n = ((toU n : Nat) : Int) := by unfold toU; rw [wu64m]; omega
  rw [hw]
  have hlt := toU_lt n
  generalize toU n = N at *
  rintro m0 rfl
  intro T
  have hA := Own.new (toV := fun n : Nat => Value.int .u8 (n : Int)) (h := h) (ys := List.replicate 8 0) (T := T) (cs := [Value.int .u8 0, Value.int .u8 0, Value.int .u8 0, Value.int .u8 0, Value.int .u8 0, Value.int .u8 0, Value.int .u8 0, Value.int .u8 0]) rfl
  have e1 := Ext.push h (.cells [Value.int .u8 0, Value.int .u8 0, Value.int .u8 0, Value.int .u8 0, Value.int .u8 0, Value.int .u8 0, Value.int .u8 0, Value.int .u8 0].toArray T (0, 0))
  have hs1 : (h.push (.cells [Value.int .u8 0, Value.int .u8 0, Value.int .u8 0, Value.int .u8 0, Value.int .u8 0, Value.int .u8 0, Value.int .u8 0, Value.int .u8 0].toArray T (0, 0)) : Heap).size = h.size + 1 := by simp
  generalize (h.push (.cells [Value.int .u8 0, Value.int .u8 0, Value.int .u8 0, Value.int .u8 0, Value.int .u8 0, Value.int .u8 0, Value.int .u8 0, Value.int .u8 0].toArray T (0, 0)) : Heap) = h1 at *
  have hlr : (List.replicate 8 0 : List Nat).length = 8 := rfl
  rw [hlr] at hA
  refine Own.setAll (toV := fun n : Nat => Value.int .u8 (n : Int)) (zs := List.replicate 8 0) hA rfl rfl fun h2 hA2 k2 s2 => ?_
  have e2 : Ext h h2 := keepFresh e1 k2 (fun b hb => by simp only [Sl.blk, Option.map_some, Option.some.injEq] at hb; omega)
  refine loop.inv (fun (s0 : Int × Int) h3 => ∃ r : Nat, s0 = (((N / 256 ^ (8 - r) : Nat) : Int), (r : Int) - 1) ∧ r ≤ 8 ∧ OwnI .u8 h.size h3 ⟨some ⟨h.size, 0, none⟩, 8, 8⟩ (List.replicate r 0 ++ bsBE (8 - r) N) ∧ Ext h h3) (fun s0 _ => (s0.2 + 1).toNat) ⟨8, by simp, Nat.le_refl _, by simpa [bsBE] using hA2, e2⟩ ?_
  rintro s0 h3 ⟨r, rfl, hr, hA3, e3⟩
  dsimp only
  refine ⟨fun hge => ?_, fun hlt2 => ?_⟩
  · simp only [ge_iff_le, decide_eq_true_eq] at hge
    obtain ⟨q, rfl⟩ : ∃ q, r = q + 1 := ⟨r - 1, by omega⟩
    have eq1 : ((q + 1 : Nat) : Int) - 1 = (q : Int) := by omega
    rw [eq1, Int.toNat_natCast, Nat.mul_one]
    refine ⟨by omega, ?_⟩
    generalize hk : 8 - (q + 1) = k at *
    have hk2 : 8 - q = k + 1 := by omega
    have ev : IntKind.wrap .u8 (Int.tmod ((N / 256 ^ k : Nat) : Int) 256) = ((N / 256 ^ k % 256 : Nat) : Int) := by
      have : Int.tmod ((N / 256 ^ k : Nat) : Int) 256 = ((N / 256 ^ k % 256 : Nat) : Int) := rfl
      rw [this, wu8 (by omega) (by omega)]
    rw [ev]
    have hll : q < (List.replicate (q + 1) 0 ++ bsBE k N).length := by simp; omega
    refine Own.store (toV := fun n : Nat => Value.int .u8 (n : Int)) hA3 hll rfl (N / 256 ^ k % 256) fun h4 hA4 k4 s4 => ?_
    have e4 : Int.tdiv ((N / 256 ^ k : Nat) : Int) 256 = ((N / 256 ^ k / 256 : Nat) : Int) := rfl
    have hle : N / 256 ^ k ≤ N := Nat.div_le_self _ _
    rw [e4, wu64 (n := ((N / 256 ^ k / 256 : Nat) : Int)) (Int.natCast_nonneg _) (Int.ofNat_lt.2 (Nat.lt_of_le_of_lt (Nat.le_trans (Nat.div_le_self _ _) hle) hlt))]
    rintro m1 rfl
    rw [w64 (by omega) (by omega)]
    rintro i1 rfl
    have eset : (List.replicate (q + 1) 0 ++ bsBE k N).set q (N / 256 ^ k % 256) = List.replicate q 0 ++ bsBE (k + 1) N := by
      rw [List.replicate_succ', List.append_assoc, List.set_append_right _ _ (by simp)]
      simp [bsBE]
    rw [eset] at hA4
    refine ⟨⟨q, by rw [hk2, Nat.pow_succ, Nat.div_div_eq_div_mul], by omega, by rw [hk2]; exact hA4, keepFresh e3 k4 (fun b hb => (hA3.lt hb).1)⟩, by omega⟩
  · simp only [ge_iff_le, decide_eq_false_iff_not] at hlt2
    have : r = 0 := by omega
    subst this
    have hA4 : OwnI .u8 h.size h3 ⟨some ⟨h.size, 0, none⟩, 8, 8⟩ (bsBE 8 N) := by simpa using hA3
    refine app_r (ho.ext e3) (e0.trans e3) hA4.r (by rw [bsBE_len]; omega) fun out' h' o g => K out' h' o ((G1.ext e3).trans g)
theorem flag_r {b : Bool} {Q : Sl → Heap → Prop} (ho : OwnI .u8 h0.size h out bs) (e0 : Ext h0 h) (hl : bs.length ≤ 1000000)
    (K : ∀ out' h', OwnI .u8 h0.size h' out' (bs ++ bsBE 1 (flagN b)) → G1 out out' h h' → Q out' h') : ref04uFlag out b h Q := by
  refine ⟨fun hb => ?_, fun hb => ?_⟩
  · subst hb
    exact new_r (ys := [1]) rfl rfl ho e0 (by simp; omega) K
  · subst hb
    exact new_r (ys := [0]) rfl rfl ho e0 (by simp; omega) K
theorem bytes_r {b : Sl} {xs : List Nat} {Q : Sl → Heap → Prop} (ho : OwnI .u8 h0.size h out bs) (e0 : Ext h0 h) (hr : RI .u8 h0 b xs) (hxl : xs.length ≤ 1000) (hl : bs.length ≤ 900000)
    (K : ∀ out' h', OwnI .u8 h0.size h' out' (bs ++ (bsBE 8 xs.length ++ xs)) → G1 out out' h h' → Q out' h') : ref04uBytes out b h Q := by
  unfold ref04uBytes
  rw [hr.len]
  refine int_r ho e0 (by omega) fun o1 h1 p1 g1 => ?_
  rw [toU_nat (by omega)] at p1
  have e1 := g1.base e0 (fun b hb => (ho.lt hb).1)
  refine app_r p1 e1 (R.ext hr e1) (by simp [bsBE_len]; omega) fun o2 h2 p2 g2 => K o2 h2 (by rw [← List.append_assoc]; exact p2) (g1.trans g2)
theorem limbs_r {list : Sl} {xs : List Nat} {Q : Sl → Heap → Prop} (ho : OwnI .u8 h0.size h out bs) (e0 : Ext h0 h) (hr : RI .u32 h0 list xs) (hx : Lim 4294967296 xs) (hxl : xs.length ≤ 1000) (hl : bs.length ≤ 900000)
    (K : ∀ out' h', OwnI .u8 h0.size h' out' (bs ++ encRow 4 xs) → G1 out out' h h' → Q out' h') : ref04ulimbs out list h Q := by
  unfold ref04ulimbs
  have hlen := hr.len
  rw [hlen]
  refine int_r ho e0 (by omega) fun o1 h1 p1 g1 => ?_
  rw [toU_nat (by omega)] at p1
  have e1 := g1.base e0 (fun b hb => (ho.lt hb).1)
  refine loop.inv (fun (s0 : Sl × Int) h2 => ∃ i : Nat, s0.2 = (i : Int) ∧ i ≤ xs.length ∧ OwnI .u8 h0.size h2 s0.1 (bs ++ bsBE 8 xs.length ++ ((xs.take i).map (bsBE 4)).flatten) ∧ G1 out s0.1 h h2) (fun s0 _ => xs.length - s0.2.toNat) ⟨0, rfl, Nat.zero_le _, by simpa using p1, g1⟩ ?_
  rintro ⟨o2, i⟩ h2 ⟨i, rfl, hi, p2, g2⟩
  dsimp only at p2 g2 ⊢
  have e2 := g2.base e0 (fun b hb => (ho.lt hb).1)
  refine ⟨fun hlt => ?_, fun hge => ?_⟩
  · simp only [decide_eq_true_eq] at hlt
    have hi' : i < xs.length := by omega
    have hr2 := R.ext hr e2
    refine RI.ld hr2 (j := i) rfl hi' (RI.ld hr2 (j := i) rfl hi' (RI.ld hr2 (j := i) rfl hi' (RI.ld hr2 (j := i) rfl hi' ?_)))
    have hxi := hx.get hi'
    have hfl := fl_len_le 4 xs i
    refine new_r (ys := bsBE 4 xs[i]) (by rw [bsBE_len]) ?_ p2 e2 (by simp only [List.length_append, bsBE_len]; omega) fun o3 h3 p3 g3 => ?_
    · generalize xs[i] = n at hxi
      have t1 : Int.tdiv (n : Int) 16777216 = ((n / 16777216 : Nat) : Int) := rfl
      have t2 : Int.tdiv (n : Int) 65536 = ((n / 65536 : Nat) : Int) := rfl
      have t3 : Int.tdiv (n : Int) 256 = ((n / 256 : Nat) : Int) := rfl
      rw [t1, t2, t3, wu32 (n := ((n / 16777216 : Nat) : Int)) (by omega) (by omega), wu32 (n := ((n / 65536 : Nat) : Int)) (by omega) (by omega), wu32 (n := ((n / 256 : Nat) : Int)) (by omega) (by omega)]
      have u1 : Int.tmod ((n / 65536 : Nat) : Int) 256 = ((n / 65536 % 256 : Nat) : Int) := rfl
      have u2 : Int.tmod ((n / 256 : Nat) : Int) 256 = ((n / 256 % 256 : Nat) : Int) := rfl
      have u3 : Int.tmod (n : Int) 256 = ((n % 256 : Nat) : Int) := rfl
      rw [u1, u2, u3, wu8 (n := ((n / 16777216 : Nat) : Int)) (by omega) (by omega), wu8 (n := ((n / 65536 % 256 : Nat) : Int)) (by omega) (by omega), wu8 (n := ((n / 256 % 256 : Nat) : Int)) (by omega) (by omega), wu8 (n := ((n % 256 : Nat) : Int)) (by omega) (by omega)]
      have v1 : n / 16777216 = n / 16777216 % 256 := by omega
      simp only [bsBE, List.map_cons, List.map_nil, Nat.pow_succ, Nat.pow_zero, Nat.one_mul, Nat.div_one]
      rw [← v1]
    · rw [w64 (by omega) (by omega)]
      rintro i1 rfl
      exact ⟨⟨i + 1, rfl, by omega, by rw [fl_take 4 xs hi', ← List.append_assoc]; exact p3, g2.trans g3⟩, by simp only [Int.toNat_natCast]; omega⟩
  · simp only [decide_eq_false_iff_not] at hge
    have : i = xs.length := by omega
    subst this
    refine K o2 h2 ?_ g2
    have e : bs ++ encRow 4 xs = bs ++ bsBE 8 xs.length ++ ((xs.take xs.length).map (bsBE 4)).flatten := by unfold encRow; rw [List.take_length, List.append_assoc]
    rw [e]; exact p2
theorem ratio_r {x : Bool × Sl × Sl} {l : Bool × List Nat × List Nat} {Q : Sl → Heap → Prop} (ho : OwnI .u8 h0.size h out bs) (e0 : Ext h0 h) (hx : XL h0 x l) (hf : FewR l) (hl : bs.length ≤ 800000)
    (K : ∀ out' h', OwnI .u8 h0.size h' out' (bs ++ encR l) → G1 out out' h h' → Q out' h') : ref04uRatio out x h Q := by
  refine mem_ext fun h1 e1 => ?_
  have n1 := hf.n
  have n2 := hf.d
  rw [hx.neg]
  refine flag_r (ho.ext e1) (e0.trans e1) (by omega) fun o2 h2 p2 g2 => ?_
  have g2 := (G1.ext e1).trans g2
  have e2 := g2.base e0 (fun b hb => (ho.lt hb).1)
  refine limbs_r p2 e2 hx.x.num hf.ln (by omega) (by rw [List.length_append, bsBE_len]; omega) fun o3 h3 p3 g3 => ?_
  have g3 := g2.trans g3
  have e3 := g3.base e0 (fun b hb => (ho.lt hb).1)
  refine limbs_r p3 e3 hx.x.den hf.ld (by omega) (by rw [List.length_append, List.length_append, bsBE_len, encRow_len]; omega) fun o4 h4 p4 g4 => ?_
  refine K o4 h4 ?_ (g3.trans g4)
  have e : bs ++ encR l = bs ++ bsBE 1 (flagN l.1) ++ encRow 4 l.2.1 ++ encRow 4 l.2.2 := by unfold encR; simp [List.append_assoc]
  rw [e]; exact p4
theorem delta_r {x : Bool × Sl × Sl × Bool × Sl × Sl} {l k : Bool × List Nat × List Nat} {Q : Sl → Heap → Prop} (ho : OwnI .u8 h0.size h out bs) (e0 : Ext h0 h) (hx : XL h0 (x.1, x.2.1, x.2.2.1) l) (hy : XL h0 x.2.2.2 k) (hf : FewR l) (hg : FewR k) (hl : bs.length ≤ 700000)
    (K : ∀ out' h', OwnI .u8 h0.size h' out' (bs ++ (encR l ++ encR k)) → G1 out out' h h' → Q out' h') : ref04uDelta out x h Q := by
  refine mem_ext fun h1 e1 => ?_
  have n1 := hf.n
  have n2 := hf.d
  refine ratio_r (ho.ext e1) (e0.trans e1) hx hf (by omega) fun o2 h2 p2 g2 => ?_
  have g2 := (G1.ext e1).trans g2
  have e2 := g2.base e0 (fun b hb => (ho.lt hb).1)
  refine ratio_r p2 e2 hy hg (by rw [List.length_append, encR_len]; omega) fun o3 h3 p3 g3 => ?_
  exact K o3 h3 (by rw [← List.append_assoc]; exact p3) (g2.trans g3)
end Go.Sh

namespace Go.Sh
open Go Go.Lift
variable {h h' h0 : Heap} {a x : Addr} {m : Nat} {s out : Sl} {bs bs' : List Nat} {st st2 : St}

/-! ### Things in memory -/
structure TV (h : Heap) (t : T10) (v : Val) : Prop where
  k : t.1 = v.k
  n : t.2.1 = v.n
  b : RI .u8 h t.2.2.1 v.bs
  A : XL h (t.2.2.2.1, t.2.2.2.2.1, t.2.2.2.2.2.1) v.A
  B : XL h (t.2.2.2.2.2.2.1, t.2.2.2.2.2.2.2.1, t.2.2.2.2.2.2.2.2.1) v.B
  li : R (Value.int .i64) h t.2.2.2.2.2.2.2.2.2 v.li
  few : Few v
structure LT2 (h : Heap) (s : Sl) (ts : List T10) : Prop where
  l : LT h s ts
  rows : ∀ t ∈ ts, ∃ (bs : List Nat) (li : List Int), RI .u8 h t.2.2.1 bs ∧ Lim 256 bs ∧ R (Value.int .i64) h t.2.2.2.2.2.2.2.2.2 li
theorem fewOf {x : X3} {q : Rat} (hq : RQ h x q) (hs : szQ q ≤ 6) : ∃ l, XL h x l ∧ FewR l := by
  obtain ⟨xs, ys, X, v1, v2, l1, l2⟩ := hq.xr
  unfold szQ at hs
  have n1 : nl q.num.natAbs ≤ 6 := Nat.le_trans (Nat.le_max_left _ _) hs
  have n2 : nl (dn q) ≤ 6 := Nat.le_trans (Nat.le_max_right _ _) hs
  have XX : XL h x (x.1, xs, ys) := ⟨rfl, X, by dsimp only; omega, by dsimp only; omega⟩
  exact ⟨(x.1, xs, ys), XX, XX.isQ.1 ⟨q, hq⟩, X.lnum, X.lden, by dsimp only; omega, by dsimp only; omega⟩
theorem tvOf {t : T10} {b : List Nat} {li : List Int} (hs : Sm h (x6of t)) (hb : RI .u8 h t.2.2.1 b) (hlb : Lim 256 b) (hli : R (Value.int .i64) h t.2.2.2.2.2.2.2.2.2 li) (l1 : b.length ≤ 300) (l2 : li.length ≤ 60) : ∃ v, TV h t v := by
  obtain ⟨p, hp, hsz⟩ := hs
  unfold szD at hsz
  obtain ⟨A, XA, FA⟩ := fewOf hp.a (Nat.le_trans (Nat.le_max_left _ _) hsz)
  obtain ⟨B, XB, FB⟩ := fewOf hp.b (Nat.le_trans (Nat.le_max_right _ _) hsz)
  exact ⟨⟨t.1, t.2.1, b, A, B, li⟩, rfl, rfl, hb, XA, XB, hli, FA, FB, l1, hlb, l2⟩
theorem great5uspec {ts : List T10} {Q : Bool → Heap → Prop} (hl2 : LT2 h0 s ts) (e0 : Ext h0 h) (K : ∀ b h', Ext h h' → (b = false → ts.length ≤ 40 ∧ ∀ j (hj : j < ts.length), ∃ v, TV h0 ts[j] v) → Q b h') : law04ugreat s h Q := by
  have hl := hl2.l
  have hlen := hl.r.len
  refine ⟨fun _ => K true h (Keep.refl _ _) (fun h => nomatch h), fun h40 => ?_⟩
  simp only [gt_iff_lt, decide_eq_false_iff_not] at h40
  refine loop.inv (fun (t : Int) h1 => ∃ i : Nat, t = (i : Int) ∧ i ≤ ts.length ∧ Ext h h1 ∧ ∀ j (hj : j < ts.length), j < i → ∃ v, TV h0 ts[j] v) (fun t _ => ts.length - t.toNat) ⟨0, rfl, Nat.zero_le _, Keep.refl _ _, fun j _ h => absurd h (by omega)⟩ ?_
  rintro t h1 ⟨i, rfl, hi, e1, hv⟩
  dsimp only
  refine ⟨fun hlt => ?_, fun hge => ?_⟩
  · simp only [decide_eq_true_eq] at hlt
    have hi' : i < ts.length := by omega
    refine RS.ld (hl.r.ext (e0.trans e1)) (j := i) rfl hi' (mem_ext fun h2 e2 => ?_)
    have hraw := hl.raw _ (List.getElem_mem hi')
    obtain ⟨b, li, hb, hlb, hli⟩ := hl2.rows _ (List.getElem_mem hi')
    have lb := hb.len
    have lli := hli.len
    refine seq.cut (fun (bb : Bool) h3 => Ext h2 h3 ∧ (bb = false → ∃ v, TV h0 ts[i] v)) ?_ ?_
    · refine ⟨fun _ => ⟨Keep.refl _ _, fun h => nomatch h⟩, fun hn1 => ⟨fun _ => ⟨Keep.refl _ _, fun h => nomatch h⟩, fun hn2 => ?_⟩⟩
      simp only [gt_iff_lt, decide_eq_false_iff_not] at hn1 hn2
      generalize ts[i] = t at *
      intro T
      have hr : RR6 (h2.push (.cells [Value.bool t.2.2.2.1, Sl.toV t.2.2.2.2.1, Sl.toV t.2.2.2.2.2.1, Value.bool t.2.2.2.2.2.2.1, Sl.toV t.2.2.2.2.2.2.2.1, Sl.toV t.2.2.2.2.2.2.2.2.1].toArray T (0, 0))) ⟨some ⟨h2.size, 0, none⟩, 1, 1⟩ [x6of t] := RS.new (fun _ => rfl) rfl rfl
      have e3 : Ext h2 (h2.push (.cells [Value.bool t.2.2.2.1, Sl.toV t.2.2.2.2.1, Sl.toV t.2.2.2.2.2.1, Value.bool t.2.2.2.2.2.2.1, Sl.toV t.2.2.2.2.2.2.2.1, Sl.toV t.2.2.2.2.2.2.2.2.1].toArray T (0, 0))) := Ext.push _ _
      refine Odd_spec hr (((e0.trans e1).trans e2).trans e3) (by simp) (fun x hx => by simp at hx; subst hx; exact hraw) fun bb h4 hsm e4 => ⟨e3.trans e4, fun hf => ?_⟩
      exact tvOf (hsm hf _ (by simp)) hb hlb hli (by omega) (by omega)
    · rintro bb h3 ⟨e3, hbb⟩
      refine ⟨fun _ => K true h3 ((e1.trans e2).trans e3) (fun h => nomatch h), fun hf => ?_⟩
      rw [w64 (by omega) (by omega)]
      refine ⟨⟨i + 1, by omega, by omega, (e1.trans e2).trans e3, fun j hj hji => ?_⟩, by simp only [Int.toNat_natCast]; omega⟩
      by_cases e : j = i
      · subst e; exact hbb hf
      · exact hv j hj (by omega)
  · simp only [decide_eq_false_iff_not] at hge
    exact K false h1 e1 (fun _ => ⟨by omega, fun j hj => hv j hj (by omega)⟩)
theorem choose_vs {ts : List T10} (hv : ∀ j (hj : j < ts.length), ∃ v, TV h ts[j] v) : ∃ vs : List Val, vs.length = ts.length ∧ ∀ j (h1 : j < ts.length) (h2 : j < vs.length), TV h ts[j] vs[j] := by
  induction ts with
  | nil => exact ⟨[], rfl, fun j h1 _ => absurd h1 (by simp)⟩
  | cons t ts ih =>
    obtain ⟨v, h0⟩ := hv 0 (by simp)
    obtain ⟨vs, h1, h2⟩ := ih (fun j hj => hv (j + 1) (by simpa using hj))
    refine ⟨v :: vs, by simp [h1], fun j g1 g2 => ?_⟩
    cases j with
    | zero => exact h0
    | succ j => exact h2 j (by simpa using g1) (by simpa using g2)
theorem enc_len {v : Val} (hv : Few v) : (enc v).length ≤ 2000 := by
  have a1 := hv.A.n; have a2 := hv.A.d; have b1 := hv.B.n; have b2 := hv.B.d; have c1 := hv.bs; have c2 := hv.li
  unfold enc
  split
  · rw [bsBE_len]; omega
  split
  · rw [bsBE_len]; omega
  split
  · rw [List.length_append, bsBE_len]; omega
  split
  · rw [encR_len]; omega
  split
  · rw [List.length_append, encR_len, encR_len]; omega
  split
  · rw [encRow_len, List.length_map]; omega
  · simp
theorem Lim.flatten {l : List (List Nat)} (h : ∀ x ∈ l, Lim 256 x) : Lim 256 l.flatten := by
  intro y hy
  obtain ⟨x, hx, hyx⟩ := List.mem_flatten.1 hy
  exact h x hx y hyx
theorem encRow_lim (w : Nat) (l : List Nat) : Lim 256 (encRow w l) := (bsBE_lim _ _).append (Lim.flatten (fun x hx => by obtain ⟨y, _, rfl⟩ := List.mem_map.1 hx; exact bsBE_lim _ _))
theorem encR_lim (x : Bool × List Nat × List Nat) : Lim 256 (encR x) := (bsBE_lim _ _).append ((encRow_lim _ _).append (encRow_lim _ _))
theorem enc_lim {v : Val} (hv : Few v) : Lim 256 (enc v) := by
  unfold enc
  split
  · exact bsBE_lim _ _
  split
  · exact bsBE_lim _ _
  split
  · exact (bsBE_lim _ _).append hv.lb
  split
  · exact encR_lim _
  split
  · exact (encR_lim _).append (encR_lim _)
  split
  · exact encRow_lim _ _
  · exact Lim.nil
theorem enc_none {v : Val} (h : ¬ (0 ≤ v.k ∧ v.k ≤ 5)) : enc v = [] := by
  unfold enc
  rw [if_neg (by omega), if_neg (by omega), if_neg (by omega), if_neg (by omega), if_neg (by omega), if_neg (by omega)]
def encs (vs : List Val) : List Nat := (vs.map enc).flatten
theorem encs_take {vs : List Val} {i : Nat} (hi : i < vs.length) : encs (vs.take (i + 1)) = encs (vs.take i) ++ enc vs[i] := by
  unfold encs
  rw [List.take_succ_eq_append_getElem hi]
  simp only [List.map_append, List.flatten_append, List.map_cons, List.map_nil, List.flatten_cons, List.flatten_nil, List.append_nil]
theorem encs_drop {vs : List Val} {i : Nat} (hi : i < vs.length) : encs (vs.drop i) = enc vs[i] ++ encs (vs.drop (i + 1)) := by
  unfold encs
  rw [List.drop_eq_getElem_cons hi, List.map_cons, List.flatten_cons]
theorem encs_len {vs : List Val} (hv : ∀ v ∈ vs, Few v) : (encs vs).length ≤ 2000 * vs.length := by
  induction vs with
  | nil => simp [encs]
  | cons v vs ih =>
    have h1 := ih (fun w hw => hv w (List.mem_cons_of_mem _ hw))
    have h2 := enc_len (hv v (List.mem_cons_self ..))
    unfold encs at h1 ⊢
    simp only [List.map_cons, List.flatten_cons, List.length_append, List.length_cons]
    omega
theorem encs_lim {vs : List Val} (hv : ∀ v ∈ vs, Few v) : Lim 256 (encs vs) :=
  Lim.flatten (fun x hx => by obtain ⟨v, hm, rfl⟩ := List.mem_map.1 hx; exact enc_lim (hv v hm))

/-! ### Putting into both -/
structure PP (h0 h : Heap) (a : Addr) (s out : Sl) (bs bs' : List Nat) : Prop where
  oe : OE h0 h a s bs
  ro : OwnI .u8 h0.size h out bs'
  n1 : out.blk ≠ some a.block
  n2 : ∀ b, out.blk = some b → s.blk ≠ some b
theorem PP.mid {h1 : Heap} {s1 : Sl} (p : PP h0 h a s out bs bs') (f : F2 a s s1 h h1) : OwnI .u8 h0.size h1 out bs' :=
  f.own p.ro (fun b hb => ⟨fun e => p.n1 (by rw [hb, e]), p.n2 b hb⟩)
theorem PP.both {h1 h2 : Heap} {s1 out2 : Sl} {b1 b2 : List Nat} (p : PP h0 h a s out bs bs') (oe : OE h0 h1 a s1 b1) (f : F2 a s s1 h h1) (ro : OwnI .u8 h0.size h2 out2 b2) (g : G1 out out2 h1 h2) : PP h0 h2 a s1 out2 b1 b2 := by
  have hne : ∀ b, out.blk = some b → s1.blk ≠ some b := fun b hb e => (f.blk b e).elim (p.n2 b hb) (fun h => by have := (p.ro.lt hb).2; omega)
  have ha : some a.block ≠ out.blk := fun e => p.n1 e.symm
  refine ⟨⟨⟨oe.o.spot, cell_keep g.k oe.o.c0 (by rw [addr_add_block]; exact ha), frozen_keep g.k (cell_lt oe.o.c0) oe.o.f0 (by rw [addr_add_block]; exact ha), oe.o.o.keep g.k (fun b hb e => hne b e.symm hb), oe.o.d⟩, g.base oe.e (fun b hb => (p.ro.lt hb).1), oe.ha, oe.hs, Nat.lt_of_lt_of_le oe.al g.k.size⟩, ro, fun e => ?_, fun b hb e => ?_⟩
  · exact (g.blk _ e).elim p.n1 (fun h => by have := oe.al; omega)
  · exact (g.blk b hb).elim (fun h => hne b h e) (fun h => by have := (oe.o.o.lt e).2; omega)
theorem put_spec {t : T10} {v : Val} {Q : Sl → Heap → Prop} (p : PP h0 h a s out bs bs') (tv : TV h0 t v) (l1 : bs.length ≤ 600000) (l2 : bs'.length ≤ 600000)
    (K : ∀ s' out' h', PP h0 h' a s' out' (bs ++ enc v) (bs' ++ enc v) → Q out' h') : law04uput (some a) out t h Q := by
  refine mem_ext fun h1 e1 => ?_
  have p : PP h0 h1 a s out bs bs' := ⟨(p.oe.ext e1).1, p.ro.ext e1, p.n1, p.n2⟩
  have f := tv.few
  have fb := f.bs
  have fl := f.li
  rw [tv.k, tv.n]
  refine seq.cut (fun (o : Sl) h2 => ∃ s', PP h0 h2 a s' o (bs ++ enc v) (bs' ++ enc v)) ?_ (fun o h2 ⟨s', p2⟩ => K s' o h2 p2)
  unfold enc at K ⊢
  have fin : ∀ {l : List Nat} {s1 out2 : Sl} {h2 h3 : Heap}, enc v = l → OE h0 h2 a s1 (bs ++ l) → F2 a s s1 h1 h2 → OwnI .u8 h0.size h3 out2 (bs' ++ l) → G1 out out2 h2 h3 → PP h0 h3 a s1 out2 (bs ++ enc v) (bs' ++ enc v) := by
    intro l s1 out2 h2 h3 e oe f ro g
    rw [e]; exact p.both oe f ro g
  unfold enc at fin
  refine ⟨fun hk => ?_, fun hk0 => ⟨fun hk => ?_, fun hk1 => ⟨fun hk => ?_, fun hk2 => ⟨fun hk => ?_, fun hk3 => ⟨fun hk => ?_, fun hk4 => ⟨fun hk => ?_, fun hk5 => ?_⟩⟩⟩⟩⟩⟩
  · simp only [beq_iff_eq] at hk
    refine int_o p.oe (by omega) fun s2 h2 oe f => int_r (p.mid f) oe.e (by omega) fun o2 h3 ro g => K s2 o2 h3 (fin (by rw [if_pos hk]) oe f ro g)
  · simp only [beq_eq_false_iff_ne, ne_eq] at hk0
    simp only [beq_iff_eq] at hk
    refine flag_o (b := bit v.n) p.oe (by omega) fun s2 h2 oe f => flag_r (b := bit v.n) (p.mid f) oe.e (by omega) fun o2 h3 ro g => K s2 o2 h3 (fin (by rw [if_neg hk0, if_pos hk]) oe f ro g)
  · simp only [beq_eq_false_iff_ne, ne_eq] at hk0 hk1
    simp only [beq_iff_eq] at hk
    refine bytes_o p.oe tv.b (by omega) (by omega) fun s2 h2 oe f => bytes_r (p.mid f) oe.e tv.b (by omega) (by omega) fun o2 h3 ro g => K s2 o2 h3 (fin (by rw [if_neg hk0, if_neg hk1, if_pos hk]) oe f ro g)
  · simp only [beq_eq_false_iff_ne, ne_eq] at hk0 hk1 hk2
    simp only [beq_iff_eq] at hk
    refine ratio_o p.oe tv.A f.A (by omega) fun s2 h2 oe f2 => ratio_r (p.mid f2) oe.e tv.A f.A (by omega) fun o2 h3 ro g => K s2 o2 h3 (fin (by rw [if_neg hk0, if_neg hk1, if_neg hk2, if_pos hk]) oe f2 ro g)
  · simp only [beq_eq_false_iff_ne, ne_eq] at hk0 hk1 hk2 hk3
    simp only [beq_iff_eq] at hk
    refine delta_o p.oe tv.A tv.B f.A f.B (by omega) fun s2 h2 oe f2 => delta_r (p.mid f2) oe.e tv.A tv.B f.A f.B (by omega) fun o2 h3 ro g => K s2 o2 h3 (fin (by rw [if_neg hk0, if_neg hk1, if_neg hk2, if_neg hk3, if_pos hk]) oe f2 ro g)
  · simp only [beq_eq_false_iff_ne, ne_eq] at hk0 hk1 hk2 hk3 hk4
    simp only [beq_iff_eq] at hk
    have hen : (if v.k = 0 then bsBE 8 (toU v.n) else if v.k = 1 then bsBE 1 (flagN (bit v.n)) else if v.k = 2 then bsBE 8 v.bs.length ++ v.bs else if v.k = 3 then encR v.A else if v.k = 4 then encR v.A ++ encR v.B else if v.k = 5 then encRow 8 (v.li.map toU) else []) = encRow 8 (v.li.map toU) := by
      rw [if_neg hk0, if_neg hk1, if_neg hk2, if_neg hk3, if_neg hk4, if_pos hk]
    have hml : (v.li.map toU).length = v.li.length := List.length_map ..
    have hlen := tv.li.len
    refine ints_o p.oe tv.li (by omega) (by omega) fun s2 h2 oe f2 => ?_
    rw [hlen]
    refine int_r (p.mid f2) oe.e (by omega) fun o3 h3 ro g => ?_
    rw [toU_nat (by omega)] at ro
    refine loop.inv (fun (s0 : Sl × Int) h4 => ∃ i : Nat, s0.2 = (i : Int) ∧ i ≤ v.li.length ∧ OwnI .u8 h0.size h4 s0.1 (bs' ++ bsBE 8 v.li.length ++ (((v.li.map toU).take i).map (bsBE 8)).flatten) ∧ G1 out s0.1 h2 h4) (fun s0 _ => v.li.length - s0.2.toNat) ⟨0, rfl, Nat.zero_le _, by simpa using ro, g⟩ ?_
    rintro ⟨o4, i⟩ h4 ⟨i, rfl, hi, ro4, g4⟩
    dsimp only at ro4 g4 ⊢
    have e4 := g4.base oe.e (fun b hb => (p.ro.lt hb).1)
    refine ⟨fun hlt => ?_, fun hge => ?_⟩
    · simp only [decide_eq_true_eq] at hlt
      have hi' : i < v.li.length := by omega
      refine R.load (R.ext tv.li e4) (by omega) (by omega) ?_
      simp only [Int.toNat_natCast]
      refine int_r ro4 e4 (by have := fl_len_le 8 (v.li.map toU) i; simp only [List.length_append, bsBE_len]; omega) fun o5 h5 ro5 g5 => ?_
      rw [w64 (by omega) (by omega)]
      have hi2 : i < (v.li.map toU).length := by omega
      exact ⟨⟨i + 1, rfl, by omega, by rw [fl_take 8 _ hi2, ← List.append_assoc, List.getElem_map]; exact ro5, g4.trans g5⟩, by omega⟩
    · simp only [decide_eq_false_iff_not] at hge
      have : i = v.li.length := by omega
      subst this
      have e : bs' ++ encRow 8 (v.li.map toU) = bs' ++ bsBE 8 v.li.length ++ (((v.li.map toU).take v.li.length).map (bsBE 8)).flatten := by
        unfold encRow; rw [hml, ← hml, List.take_length, hml, List.append_assoc]
      exact ⟨s2, fin hen oe f2 (by rw [e]; exact ro4) g4⟩
  · simp only [beq_eq_false_iff_ne, ne_eq] at hk0 hk1 hk2 hk3 hk4 hk5
    refine ⟨s, ?_⟩
    rw [if_neg hk0, if_neg hk1, if_neg hk2, if_neg hk3, if_neg hk4, if_neg hk5, List.append_nil, List.append_nil]
    exact p
theorem PP.start (T : Nat) (e0 : Ext h0 h) : OE h0 (h.push (.cells [Sl.toV Sl.nil].toArray T (0, 0))) ⟨h.size, 0, none⟩ Sl.nil [] :=
  ⟨OO.new T, e0.trans (Ext.push _ _), e0.size, by simp [Sl.blk, Sl.nil], by simp⟩

theorem PackPuts_holds {list : Sl} {ts : List T10} {Q : Bool → Heap → Prop} (ht : Tab h) (hl2 : LT2 h list ts) (K : ∀ h', Ext h h' → Q true h') : law04uPackPuts list h Q := by
  have hl := hl2.l
  have hlen := hl.r.len
  refine speaks4uspec fun h1 e1 => ⟨fun hc => by simp at hc, fun _ => ?_⟩
  refine great5uspec hl2 e1 fun b h2 e2 hg => ⟨fun _ => K h2 (e1.trans e2), fun hf => ?_⟩
  obtain ⟨h40, hv⟩ := hg hf
  obtain ⟨vs, hvl, hvs⟩ := choose_vs hv
  have hfew : ∀ v ∈ vs, Few v := fun v hm => by obtain ⟨j, hj, rfl⟩ := List.getElem_of_mem hm; exact (hvs j (by omega) hj).few
  have e12 := e1.trans e2
  intro T
  have o3 := PP.start (h0 := h) T e12
  have hs3 : (h2.push (.cells [Sl.toV Sl.nil].toArray T (0, 0)) : Heap).size = h2.size + 1 := by simp
  have ha3 : (⟨h2.size, 0, none⟩ : Addr).block = h2.size := rfl
  generalize (h2.push (.cells [Sl.toV Sl.nil].toArray T (0, 0)) : Heap) = h3 at *
  generalize (⟨h2.size, 0, none⟩ : Addr) = a at *
  intro T2
  have e4 : Ext h3 (h3.push (.cells ([] : List Value).toArray T2 (0, 0))) := Ext.push _ _
  have ro := Own.new (toV := fun n : Nat => Value.int .u8 (n : Int)) (h := h3) (ys := []) (cs := []) (T := T2) rfl
  rintro out rfl
  have p4 : PP h (h3.push (.cells ([] : List Value).toArray T2 (0, 0))) a Sl.nil ⟨some ⟨h3.size, 0, none⟩, 0, 0⟩ [] [] :=
    ⟨(o3.ext e4).1, ro.mono o3.e.size, fun e => by have := o3.al; simp [Sl.blk] at e; omega, by simp [Sl.blk, Sl.nil]⟩
  refine loop.inv (fun (s0 : Sl × Int) h5 => ∃ (i : Nat) (s : Sl), s0.2 = (i : Int) ∧ i ≤ ts.length ∧ PP h h5 a s s0.1 (encs (vs.take i)) (encs (vs.take i))) (fun s0 _ => ts.length - s0.2.toNat) ⟨0, Sl.nil, rfl, Nat.zero_le _, by simpa [encs] using p4⟩ ?_
  rintro ⟨out, i⟩ h5 ⟨i, s, rfl, hi, p5⟩
  dsimp only at p5 ⊢
  rw [hlen]
  have hel : ∀ j, (encs (vs.take j)).length ≤ 80000 := fun j => by
    have := encs_len (vs := vs.take j) (fun v hm => hfew v (List.mem_of_mem_take hm))
    rw [List.length_take] at this; omega
  refine ⟨fun hlt => ?_, fun hge => ?_⟩
  · simp only [decide_eq_true_eq] at hlt
    refine RS.ld (hl.r.ext p5.oe.e) (j := i) rfl (by omega) (mem_ext fun h6 e6 => ?_)
    have p6 : PP h h6 a s out _ _ := ⟨(p5.oe.ext e6).1, p5.ro.ext e6, p5.n1, p5.n2⟩
    have := hel i
    refine put_spec p6 (hvs i (by omega) (by omega)) (by omega) (by omega) fun s7 o7 h7 p7 => ?_
    rw [w64 (by omega) (by omega)]
    exact ⟨⟨i + 1, s7, rfl, by omega, by rw [encs_take (by omega)]; exact p7⟩, by simp only [Int.toNat_natCast]; omega⟩
  · simp only [decide_eq_false_iff_not] at hge
    have : i = vs.length := by omega
    subst this
    rw [List.take_length] at p5
    have hE : (encs vs).length ≤ 80000 := by have := hel vs.length; rwa [List.take_length] at this
    have hElim := encs_lim hfew
    refine outDone_spec p5.oe.o (by omega) fun r h6 hr e6 _ => ?_
    have ro6 := p5.ro.ext e6
    refine strOf_spec hr (strOf_spec ro6.r ⟨fun hc => by simp at hc, fun _ => ?_⟩)
    refine from_spec hr (by omega) fun a2 r2 h7 spot c0 c1 f0 f1 hr2 hrb ha1 ha2 e7 => ?_
    have e07 := (p5.oe.e.trans e6).trans e7
    refine start_spec ht e07 (ro6.ext e7).r hElim (by omega) spot c0 c1 f0 f1 hr2 hrb (by have := (p5.oe.e.trans e6).size; omega) ha2 (fun _ e => by have := (ro6.lt e).2; omega) fun x h8 m p8 => ?_
    refine loop.inv (fun (s0 : Int) h9 => ∃ i : Nat, s0 = (i : Int) ∧ i ≤ ts.length ∧ PB h h9 a2 x m (some (encs (vs.drop i)))) (fun s0 _ => ts.length - s0.toNat) ⟨0, rfl, Nat.zero_le _, by simpa using p8⟩ ?_
    rintro s0 h9 ⟨i, rfl, hi, p9⟩
    dsimp only
    refine ⟨fun hlt => ?_, fun hge => ?_⟩
    · simp only [decide_eq_true_eq] at hlt
      have hi' : i < ts.length := by omega
      have tv := hvs i hi' (by omega)
      rw [encs_drop (by omega)] at p9
      refine seq.cut (fun (_ : Unit) h10 => PB h h10 a2 x m (some (encs (vs.drop (i + 1))))) ?_ ?_
      · refine RS.ld (hl.r.ext p9.t.e) (j := i) rfl hi' (mem_ext fun h10 e10 => ?_)
        have p10 := p9.ext e10
        refine seq.cut (fun (b : Bool) h11 => h11 = h10 ∧ (b = false ↔ 0 ≤ vs[i].k ∧ vs[i].k ≤ 5)) ?_ ?_
        · rw [tv.k]
          refine ⟨fun hb => ⟨rfl, ?_⟩, fun hb => ⟨rfl, ?_⟩⟩
          · simp only [decide_eq_true_eq] at hb
            exact ⟨fun h => (nomatch h), fun h => by omega⟩
          · simp only [decide_eq_false_iff_not] at hb
            simp only [gt_iff_lt, decide_eq_false_iff_not]; omega
        · rintro b h11 ⟨rfl, hb⟩
          refine ⟨fun hbt => ?_, fun hbf => ?_⟩
          · have : ¬ (0 ≤ vs[i].k ∧ vs[i].k ≤ 5) := fun h => by rw [hb.2 h] at hbt; cases hbt
            rw [enc_none this, List.nil_append] at p10
            exact p10
          · have hk := hb.1 hbf
            refine seq.cut (fun (b : Bool) h12 => b = false ∧ PB h h12 a2 x m (some (encs (vs.drop (i + 1))))) ?_ ?_
            · refine take04uspec p10 fun h12 p12 => ⟨fun hc => by simp at hc, fun _ => ?_⟩
              dsimp only at p12
              rw [tv.k, tv.n, takeS_enc tv.few hk] at p12
              exact wrong_spec p12.p ⟨rfl, p12⟩
            · rintro b h12 ⟨rfl, p12⟩
              exact ⟨fun hc => by simp at hc, fun _ => p12⟩
      · rintro _ h10 p10
        rw [w64 (by omega) (by omega)]
        exact ⟨⟨i + 1, by omega, by omega, p10⟩, by simp only [Int.toNat_natCast]; omega⟩
    · simp only [decide_eq_false_iff_not] at hge
      have : i = vs.length := by omega
      subst this
      rw [List.drop_length] at p9
      have p9 : PB h h9 a2 x m (some []) := p9
      refine seq.cut (fun (b : Bool) h10 => b = true ∧ h10 = h9) ?_ ?_
      · exact done_spec p9.p ⟨fun _ => doneD_spec p9.d ⟨by simp, rfl⟩, fun hc => by simp at hc⟩
      · rintro b h10 ⟨rfl, rfl⟩
        exact K h10 p9.t.e
end Go.Sh

namespace Go.Sh
open Go Go.Lift
theorem is_i64k {h : Heap} {cs : List Value} (H : (Shape.slice (.int .i64)).Is h cs) : ∃ (s : Sl) (xs : List Int), cs = [Sl.toV s] ∧ R (Value.int .i64) h s xs := by
  obtain ⟨s, rows, rfl, hr, hall⟩ := H
  have hrow : ∀ i (hi : i < rows.length), ∃ n : Int, rows[i] = [.int .i64 n] := by
    intro i hi
    obtain ⟨n, e, _⟩ := hall _ (List.getElem_mem hi)
    exact ⟨n, e⟩
  let xs : List Int := rows.map fun r => match r with | [.int _ n] => n | _ => 0
  have hlen : xs.length = rows.length := by simp [xs]
  have hx : ∀ i (hi : i < rows.length) (hj : i < xs.length), rows[i] = [.int .i64 xs[i]] := by
    intro i hi hj
    obtain ⟨n, e⟩ := hrow i hi
    have : xs[i] = n := by simp [xs, e]
    rw [this]; exact e
  refine ⟨s, xs, rfl, ?_⟩
  by_cases h0 : rows.length = 0
  · have : xs = [] := List.eq_nil_of_length_eq_zero (by omega)
    rw [this]
    exact R.nil_of (by rw [hr.len, h0]) |> fun r => ⟨by rw [hr.len, h0]; rfl, hr.cap, r.cells⟩
  · obtain ⟨a, ha, _⟩ := hr.cells 0 (by omega)
    refine R.mk' (by rw [hr.len, hlen]) hr.cap a ha fun i hi => ?_
    obtain ⟨a', ha', hc⟩ := hr.cells i (by omega)
    rw [ha] at ha'; cases ha'
    rw [hx i (by omega) hi] at hc
    simp only [Shape.size, Nat.mul_one, cells?] at hc
    split at hc
    · rename_i v r h1 h2
      simp only [Option.some.injEq, List.cons.injEq] at hc
      rw [hc.1, addr_add_add] at h1
      exact h1
    · cases hc
def RawT2 (h : Heap) (s : Sl) : Prop := ∃ ts, LT2 h s ts
def Thing2 (h : Heap) (t : T10) : Prop := Raw6 h (x6of t) ∧ ∃ (bs : List Nat) (li : List Int), RI .u8 h t.2.2.1 bs ∧ Lim 256 bs ∧ R (Value.int .i64) h t.2.2.2.2.2.2.2.2.2 li
theorem is_thing2 {h : Heap} {cs : List Value} (H : shT.Is h cs) : ∃ t : T10, cs = C_i64ui64usl_bool_sl_sl_bool_sl_sl_sl t ∧ Thing2 h t := by
  obtain ⟨l1, r1, rfl, ⟨k, rfl, _⟩, l2, r2, rfl, ⟨n, rfl, _⟩, l3, r3, rfl, hb, l4, r4, rfl, hd, l5, r5, rfl, hli, rfl⟩ := H
  obtain ⟨x, rfl, hx⟩ := is_d hd
  obtain ⟨b, rfl, bs, hbs, hbl⟩ := is_bytes hb
  obtain ⟨li, xs, rfl, hxs⟩ := is_i64k hli
  exact ⟨(k, n, b, x.1, x.2.1, x.2.2.1, x.2.2.2.1, x.2.2.2.2.1, x.2.2.2.2.2, li), rfl, hx, bs, xs, hbs, hbl, hxs⟩
theorem is_things2 {h : Heap} {cs : List Value} (H : (Shape.slice shT).Is h cs) : ∃ s : Sl, cs = [Sl.toV s] ∧ RawT2 h s := by
  obtain ⟨s, rows, rfl, hr, hall⟩ := H
  have hrow : ∀ r ∈ rows, ∃ t : T10, r = C_i64ui64usl_bool_sl_sl_bool_sl_sl_sl t ∧ Thing2 h t := fun r hr' => is_thing2 (hall r hr')
  have hts : ∃ ts : List T10, ts.length = rows.length ∧ ∀ i (h1 : i < ts.length) (h2 : i < rows.length), rows[i] = C_i64ui64usl_bool_sl_sl_bool_sl_sl_sl ts[i] ∧ Thing2 h ts[i] := by
    clear hr hall
    induction rows with
    | nil => exact ⟨[], rfl, fun i h1 h2 => absurd h1 (by simp)⟩
    | cons r l ih =>
      obtain ⟨t, ht⟩ := hrow r (List.mem_cons_self ..)
      obtain ⟨ts, h1, h2⟩ := ih (fun r' hr' => hrow r' (List.mem_cons_of_mem _ hr'))
      refine ⟨t :: ts, by simp [h1], fun i g1 g2 => ?_⟩
      cases i with
      | zero => exact ht
      | succ i => exact h2 i (by simpa using g1) (by simpa using g2)
  obtain ⟨ts, h1, h2⟩ := hts
  have hm : ∀ t ∈ ts, Thing2 h t := fun t ht => by
    obtain ⟨i, hi, rfl⟩ := List.getElem_of_mem ht
    exact (h2 i hi (by omega)).2
  refine ⟨s, rfl, ts, ⟨⟨by rw [hr.len, h1], fun i hi => ?_⟩, fun t ht => (hm t ht).1⟩, fun t ht => (hm t ht).2⟩
  obtain ⟨a, ha, hc⟩ := hr.cells i (by omega)
  rw [(h2 i hi (by omega)).1] at hc
  exact ⟨a, ha, by simpa [Shape.size] using hc⟩
end Go.Sh
