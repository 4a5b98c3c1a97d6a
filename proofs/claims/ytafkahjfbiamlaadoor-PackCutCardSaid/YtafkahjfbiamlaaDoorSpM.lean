/-
  Laws that the proof of this claim's statement leans on, each proved under the conditions that it states.
-/
import Derived.Test.YtafkahjfbiamlaaDoorSpK
set_option linter.unusedVariables false
set_option linter.unusedSimpArgs false
namespace Go.Sh
open Go Go.Lift
variable {h h' : Heap} {a x : Addr} {z m : Nat} {st : St}

/-! ### Putting -/
def bsBE : Nat → Nat → List Nat
  | 0, _ => []
  | k + 1, n => (n / 256 ^ k % 256) :: bsBE k n
theorem bsBE_len (k n : Nat) : (bsBE k n).length = k := by induction k with | zero => rfl | succ k ih => simp [bsBE, ih]
/-- What puts, in memory: the bytes that were put. -/
structure OO (h : Heap) (a : Addr) (s : Sl) (bs : List Nat) : Prop where
  spot : a.spot = none
  c0 : cell? h (a.add 0) = some (Sl.toV s)
  f0 : frozen? h (a.add 0) = false
  o : OwnI .u8 0 h s bs
  d : s.blk ≠ some a.block
/-- Only what puts was turned. -/
structure F2 (a : Addr) (s s' : Sl) (h h' : Heap) : Prop where
  size : h.size ≤ h'.size
  same : ∀ b, b < h.size → b ≠ a.block → s.blk ≠ some b → h'[b]? = h[b]?
  blk : ∀ b, s'.blk = some b → s.blk = some b ∨ h.size ≤ b
theorem F2.refl (a : Addr) (s : Sl) (h : Heap) : F2 a s s h h := ⟨Nat.le_refl _, fun _ _ _ _ => rfl, fun _ h => .inl h⟩
theorem F2.trans {s s' s'' : Sl} {h'' : Heap} (f : F2 a s s' h h') (g : F2 a s' s'' h' h'') : F2 a s s'' h h'' :=
  ⟨Nat.le_trans f.size g.size, fun b hb h1 h2 => (g.same b (Nat.lt_of_lt_of_le hb f.size) h1 (fun e => (f.blk b e).elim h2 (fun h => by omega))).trans (f.same b hb h1 h2), fun b hb => (g.blk b hb).elim (f.blk b) (fun h => .inr (Nat.le_trans f.size h))⟩
theorem F2.ext {s s' : Sl} {h0 : Heap} (e : Ext h0 h) (f : F2 a s s' h h') (ha : h0.size ≤ a.block) (hs : ∀ b, s.blk = some b → h0.size ≤ b) : Ext h0 h' :=
  ⟨Nat.le_trans e.size f.size, fun b hb _ => (f.same b (Nat.lt_of_lt_of_le hb e.size) (by omega) (fun e' => by have := hs b e'; omega)).trans (e.same b hb (by simp))⟩

theorem outNum_spec {n k : Nat} {s : Sl} {bs : List Nat} {Q : Unit → Heap → Prop} (hn : n < 18446744073709551616) (hk : k ≤ 8) (p : OO h a s bs) (hl : bs.length ≤ 1000000)
    (K : ∀ s' h', OO h' a s' (bs ++ bsBE k n) → F2 a s s' h h' → Q () h') : pack_Out_number (some a) (n : Int) (k : Int) h Q := by
  unfold pack_Out_number
  rw [w64 (by omega) (by omega)]
  rintro i0 rfl
  refine loop.inv (fun (s0 : Int) h1 => ∃ (r : Nat) (s1 : Sl) (cur : List Nat), s0 = (r : Int) - 1 ∧ r ≤ k ∧ OO h1 a s1 cur ∧ cur ++ bsBE r n = bs ++ bsBE k n ∧ F2 a s s1 h h1) (fun s0 _ => (s0 + 1).toNat) ⟨k, s, bs, rfl, Nat.le_refl _, p, rfl, F2.refl _ _ _⟩ ?_
  rintro s0 h1 ⟨r, s1, cur, rfl, hr, p1, e1, f1⟩
  dsimp only
  refine ⟨fun hge => ?_, fun hlt => ?_⟩
  · simp only [ge_iff_le, decide_eq_true_eq] at hge
    obtain ⟨q, rfl⟩ : ∃ q, r = q + 1 := ⟨r - 1, by omega⟩
    have hcl : cur.length ≤ 1000008 := by
      have := congrArg List.length e1
      simp only [List.length_append, bsBE_len] at this
      omega
    have eq1 : ((q + 1 : Nat) : Int) - 1 = (q : Int) := by omega
    rw [eq1]
    refine ⟨a, rfl, s1, p1.c0, ?_⟩
    dsimp only
    rw [w64 (n := 8 * (q : Int)) (by omega) (by omega)]
    refine ⟨by omega, ?_⟩
    have ev : IntKind.wrap .u8 (Int.fdiv (n : Int) (2 ^ (min (Int.toNat (8 * (q : Int))) (IntKind.bits .u64)))) = ((n / 256 ^ q % 256 : Nat) : Int) := by
      have e2 : min (Int.toNat (8 * (q : Int))) (IntKind.bits .u64) = 8 * q := by
        have : Int.toNat (8 * (q : Int)) = 8 * q := by omega
        rw [this]; exact Nat.min_eq_left (by show 8 * q ≤ 64; omega)
      rw [e2]
      have e3 : (2 : Int) ^ (8 * q) = ((256 ^ q : Nat) : Int) := by
        have h256 : (256 : Nat) = 2 ^ 8 := rfl
        rw [h256, ← Nat.pow_mul]; simp
      rw [e3]
      have e4 : Int.fdiv (n : Int) ((256 ^ q : Nat) : Int) = ((n / 256 ^ q : Nat) : Int) := by
        rw [Int.fdiv_eq_ediv_of_nonneg _ (Int.natCast_nonneg _)]; exact (Int.natCast_ediv _ _).symm
      rw [e4, wu8m]
      exact (Int.natCast_emod _ _).symm
    rw [ev]
    intro T
    have hx := (Own.new (toV := fun n : Nat => Value.int .u8 (n : Int)) (h := h1) (ys := [n / 256 ^ q % 256]) (T := T) (cs := [Value.int .u8 ((n / 256 ^ q % 256 : Nat) : Int)]) rfl).r
    have e5 := Ext.push h1 (.cells [Value.int .u8 ((n / 256 ^ q % 256 : Nat) : Int)].toArray T (0, 0))
    generalize (h1.push (.cells [Value.int .u8 ((n / 256 ^ q % 256 : Nat) : Int)].toArray T (0, 0)) : Heap) = h2 at *
    have c0' := cell_keep e5 p1.c0 (by simp)
    refine ⟨c0', ?_⟩
    refine Own.append (bytes := 1) (p1.o.ext e5) (Nat.zero_le _) hx (fun _ => rfl) (by simp; omega) fun s3 h3 o3 k3 b3 => ?_
    have hne : some a.block ≠ s1.blk := fun e => p1.d e.symm
    have c0'' := cell_keep k3 c0' (by rw [addr_add_block]; exact hne)
    have f0'' := frozen_keep k3 (cell_lt c0') (frozen_keep e5 (cell_lt p1.c0) p1.f0 (by simp)) (by rw [addr_add_block]; exact hne)
    refine ⟨a, rfl, ⟨_, c0''⟩, f0'', ?_⟩
    have k4 := keepSet a 0 (Sl.toV s3) h3
    have ha2 : a.block < h2.size := by have := cell_lt c0'; rwa [addr_add_block] at this
    have d3 : s3.blk ≠ some a.block := by
      rcases b3 with h | ⟨h, _⟩
      · rw [h]; exact p1.d
      · rw [h]; intro e; injection e with e; omega
    rw [w64 (by omega) (by omega)]
    rintro i1 rfl
    refine ⟨⟨q, s3, cur ++ [n / 256 ^ q % 256], rfl, by omega, ⟨p.spot, cell_set_same c0'', by rw [frozen_set]; exact f0'', o3.keep k4 (fun b hb e => d3 (by rw [hb, e])), d3⟩, ?_, f1.trans ⟨Nat.le_trans e5.size (Nat.le_trans k3.size k4.size), fun b hb g1 g2 => ?_, fun b hb => ?_⟩⟩, by omega⟩
    · rw [List.append_assoc]; exact e1
    · have hb2 : b < h2.size := Nat.lt_of_lt_of_le hb e5.size
      exact (k4.same b (Nat.lt_of_lt_of_le hb2 k3.size) (by simpa using g1)).trans ((k3.same b hb2 (fun e => g2 e.symm)).trans (e5.same b hb (by simp)))
    · rcases b3 with h | ⟨h, _⟩
      · exact .inl (by rw [← h]; exact hb)
      · rw [h] at hb; injection hb with hb
        exact .inr (by have := e5.size; omega)
  · simp only [ge_iff_le, decide_eq_false_iff_not] at hlt
    have : r = 0 := by omega
    subst this
    have : cur = bs ++ bsBE k n := by simpa [bsBE] using e1
    subst this
    exact K s1 h1 p1 f1
theorem outInt_spec {n : Int} {s : Sl} {bs : List Nat} {Q : Unit → Heap → Prop} (p : OO h a s bs) (hl : bs.length ≤ 1000000)
    (K : ∀ s' h', OO h' a s' (bs ++ bsBE 8 (n % 18446744073709551616).toNat) → F2 a s s' h h' → Q () h') : pack_Out_Int (some a) n h Q := by
  unfold pack_Out_Int
  have : IntKind.wrap .u64 n = (((n % 18446744073709551616).toNat : Nat) : Int) := by rw [wu64m]; omega
  rw [this]
  exact outNum_spec (k := 8) (by omega) (by decide) p hl K
theorem strOf_spec {s : Sl} {xs : List Nat} {k : ByteArray → Prop} (hr : RI .u8 h s xs) (K : k (bytesOf (xs.map (fun n : Nat => (n : Int))))) : strOf s h k := by
  refine ⟨xs.map (fun n : Nat => (n : Int)), ?_, K⟩
  have := hr.cells
  rw [this, List.map_map]; rfl
theorem OO.new (T : Nat) : OO (h.push (.cells [Sl.toV Sl.nil].toArray T (0, 0))) ⟨h.size, 0, none⟩ Sl.nil [] := by
  have hx : (h.push (.cells [Sl.toV Sl.nil].toArray T (0, 0)))[h.size]? = some (.cells [Sl.toV Sl.nil].toArray T (0, 0)) := by simp
  refine ⟨rfl, ?_, ?_, Own.nil, by simp [Sl.blk, Sl.nil]⟩
  · rw [addr_add _ _ rfl]; unfold cell?; simp [hx]
  · rw [addr_add _ _ rfl]; exact frozen_none hx
theorem outDone_spec {s : Sl} {bs : List Nat} {Q : Sl → Heap → Prop} (p : OO h a s bs) (hl : bs.length ≤ 2000000) (K : ∀ r h', RI .u8 h' r bs → Ext h h' → (∀ b, r.blk = some b → h.size ≤ b ∧ b < h'.size) → Q r h') : pack_Out_Done (some a) h Q :=
  ⟨a, rfl, s, p.c0, cloneB_spec p.o.r hl K⟩
theorem speaks4uspec {Q : Bool → Heap → Prop} (K : ∀ h', Ext h h' → Q true h') : law04uspeaks h Q := by
  intro T
  have p0 := OO.new (h := h) T
  have e0 : Ext h (h.push (.cells [Sl.toV Sl.nil].toArray T (0, 0))) := Ext.push _ _
  generalize (h.push (.cells [Sl.toV Sl.nil].toArray T (0, 0)) : Heap) = h1 at *
  refine outInt_spec p0 (by simp) fun s2 h2 p2 f2 => outDone_spec p2 (by simp [bsBE_len]) fun r h3 hr e3 _ => strOf_spec hr ?_
  have e2 : Ext h h2 := f2.ext e0 (Nat.le_refl _) (by simp [Sl.blk, Sl.nil])
  have hv : ((bytesOf (([] ++ bsBE 8 ((1 : Int) % 18446744073709551616).toNat).map (fun n : Nat => (n : Int)))).toList == (ByteArray.mk #[0, 0, 0, 0, 0, 0, 0, 1]).toList) = true := by decide +kernel
  rw [hv]
  exact K h3 (e2.trans e3)

/-! ### Taking of both -/
theorem XL.both {u v : Bool × Sl × Sl} {l : Bool × List Nat × List Nat} (hu : XL h u l) (hv : XL h v l) (hq : isQL l.1 l.2.1 l.2.2) : ∃ q, RQ h u q ∧ RQ h v q := by
  obtain ⟨q, hr⟩ := hu.isQ.2 hq
  obtain ⟨n1, v1⟩ := hr.num.list hu.x.num
  obtain ⟨n2, v2⟩ := hr.den.list hu.x.den
  have := hv.ln
  have := hv.ld
  exact ⟨q, hr, NN.of hv.x.num hv.x.lnum n1 v1 (by omega), NN.of hv.x.den hv.x.lden n2 v2 (by omega), by rw [hv.neg, ← hu.neg]; exact hr.neg⟩
theorem isQL_zero : isQL false [] [] := ⟨Nrm.nil, Nrm.nil, by decide, by simp [val]⟩
theorem ratS_q (st : St) : isQL (ratS st).1.1 (ratS st).1.2.1 (ratS st).1.2.2 := by
  unfold ratS
  split
  · rename_i hg; exact hg.2
  · exact isQL_zero
theorem delS_q (st : St) : isQL (delS st).1.1.1 (delS st).1.1.2.1 (delS st).1.1.2.2 ∧ isQL (delS st).1.2.1 (delS st).1.2.2.1 (delS st).1.2.2.2 := by
  unfold delS
  split
  · exact ⟨isQL_zero, isQL_zero⟩
  · exact ⟨ratS_q _, ratS_q _⟩
theorem rowS_len (w : Nat) (st : St) : (((rowS w st).1.length : Nat) : Int) = (cnt st w).1 := by
  unfold rowS
  rcases cnt_spec st w with ⟨bs, e1, e2, e3, _⟩ | e
  · rw [e1]; dsimp only; rw [chunks_len]; omega
  · rw [e]; rfl
theorem same_spec {u v : Bool × Sl × Sl × Bool × Sl × Sl} {l k : Bool × List Nat × List Nat} {Q : Bool → Heap → Prop} (h1 : XL h (u.1, u.2.1, u.2.2.1) l) (h2 : XL h u.2.2.2 k) (h3 : XL h (v.1, v.2.1, v.2.2.1) l) (h4 : XL h v.2.2.2 k)
    (q1 : isQL l.1 l.2.1 l.2.2) (q2 : isQL k.1 k.2.1 k.2.2) (K : ∀ h', Ext h h' → Q true h') : ref03uSame u v h Q := by
  obtain ⟨p, p1, p2⟩ := h1.both h3 q1
  obtain ⟨q, p3, p4⟩ := h2.both h4 q2
  refine SameE_spec (p := (p, q)) (q := (p, q)) ⟨p1, p3⟩ ⟨p2, p4⟩ fun h5 e5 => ?_
  simp only [decide_true]
  exact K h5 e5

/-- What both are after something was taken. -/
structure PB (h0 h : Heap) (a x : Addr) (m : Nat) (st : St) : Prop where
  p : PI h a x.block m st
  d : DI h x a.block m st
  t : TL h0 h m
  ha : h0.size ≤ a.block
  hx : h0.size ≤ x.block
theorem PB.ext {h0 : Heap} (b : PB h0 h a x m st) (e : Ext h h') : PB h0 h' a x m st := ⟨b.p.ext e, b.d.ext e, b.t.ext e, b.ha, b.hx⟩
theorem PB.both {h0 h1 h2 : Heap} {st' : St} (b : PB h0 h a x m st) (p1 : PI h1 a x.block m st') (k1 : Keep (some a.block) h h1) (d2 : DI h2 x a.block m st') (k2 : Keep (some x.block) h1 h2) : PB h0 h2 a x m st' :=
  ⟨p1.keep k2 (fun i hi => by cases hi; exact .inl rfl), d2, (b.t.keep k1 (fun i hi => by cases hi; exact b.ha)).keep k2 (fun i hi => by cases hi; exact b.hx), b.ha, b.hx⟩
theorem PB.dk {h0 h1 : Heap} (b : PB h0 h a x m st) (k1 : Keep (some a.block) h h1) : DI h1 x a.block m st := b.d.keep k1 (fun i hi => by cases hi; exact .inl rfl)

/-- What is left behind a thing. -/
noncomputable def takeS (st : St) (kind n : Int) : St :=
  if kind = 0 then (numS st 8).2 else if kind = 1 then (flagS st).2 else if kind = 2 then (bytesS st).2 else if kind = 3 then (ratS st).2 else if kind = 4 then (delS st).2 else if kind = 5 then (intsS st).2 else (cnt st n).2
abbrev T10 := Int × Int × Sl × Bool × Sl × Sl × Bool × Sl × Sl × Sl
theorem take04uspec {h0 : Heap} {t0 : T10} {Q : Bool → Heap → Prop} (b : PB h0 h a x m st) (K : ∀ h', PB h0 h' a x m (takeS st t0.1 t0.2.1) → Q true h') : law04utake (some a) (some x) t0 h Q := by
  refine mem_ext fun h1 e1 => ?_
  have b := b.ext e1
  unfold takeS at K
  refine ⟨fun hk => ?_, fun hk0 => ⟨fun hk => ?_, fun hk1 => ⟨fun hk => ?_, fun hk2 => ⟨fun hk => ?_, fun hk3 => ⟨fun hk => ?_, fun hk4 => ⟨fun hk => ?_, fun hk5 => ?_⟩⟩⟩⟩⟩⟩
  · simp only [beq_iff_eq] at hk
    rw [if_pos hk] at K
    refine int_spec b.p fun h2 p2 k2 => intD_spec (b.dk k2) fun h3 d3 k3 => ?_
    rw [beq_self_eq_true]
    exact K h3 (b.both p2 k2 d3 k3)
  · simp only [beq_eq_false_iff_ne, ne_eq] at hk0
    simp only [beq_iff_eq] at hk
    rw [if_neg hk0, if_pos hk] at K
    refine flag_spec b.p fun h2 p2 k2 => flagD_spec (b.dk k2) fun h3 d3 k3 => ?_
    rw [beq_self_eq_true]
    exact K h3 (b.both p2 k2 d3 k3)
  · simp only [beq_eq_false_iff_ne, ne_eq] at hk0 hk1
    simp only [beq_iff_eq] at hk
    rw [if_neg hk0, if_neg hk1, if_pos hk] at K
    refine bytes_spec b.p fun r h2 hr p2 k2 hrb => strOf_spec hr (bytesD_spec (b.dk k2) fun r' h3 hr' d3 k3 => ⟨strOf_spec (hr.keep k3 (fun y hy e => by injection e with e; have := hrb y.block (by simp [Sl.blk, hy]); have := b.d.xm; omega)) rfl, strOf_spec hr' ?_⟩)
    rw [beq_self_eq_true]
    exact K h3 (b.both p2 k2 d3 k3)
  · simp only [beq_eq_false_iff_ne, ne_eq] at hk0 hk1 hk2
    simp only [beq_iff_eq] at hk
    rw [if_neg hk0, if_neg hk1, if_neg hk2, if_pos hk] at K
    refine ratio_spec b.t b.ha b.p fun r h2 X b1 b2 p2 k2 => ratioD_spec (b.dk k2) fun r' h3 X' _ _ d3 k3 => ?_
    have X3 := X.keep k3 (fun i hi e => by injection e with e; have := b1 i hi; have := b.d.xm; omega) (fun i hi e => by injection e with e; have := b2 i hi; have := b.d.xm; omega)
    exact same_spec (l := (ratS st).1) (k := (false, [], [])) X3 XL.zero X' XL.zero (ratS_q st) isQL_zero fun h4 e4 => K h4 ((b.both p2 k2 d3 k3).ext e4)
  · simp only [beq_eq_false_iff_ne, ne_eq] at hk0 hk1 hk2 hk3
    simp only [beq_iff_eq] at hk
    rw [if_neg hk0, if_neg hk1, if_neg hk2, if_neg hk3, if_pos hk] at K
    refine delta_spec b.t b.ha b.p fun r h2 X Y hb p2 k2 => deltaD_spec (b.dk k2) fun r' h3 X' Y' d3 k3 => ?_
    have X3 := X.keep k3 (fun i hi e => by injection e with e; have := hb i (.inl hi); have := b.d.xm; omega) (fun i hi e => by injection e with e; have := hb i (.inr (.inl hi)); have := b.d.xm; omega)
    have Y3 := Y.keep k3 (fun i hi e => by injection e with e; have := hb i (.inr (.inr (.inl hi))); have := b.d.xm; omega) (fun i hi e => by injection e with e; have := hb i (.inr (.inr (.inr hi))); have := b.d.xm; omega)
    exact same_spec X3 Y3 X' Y' (delS_q st).1 (delS_q st).2 fun h4 e4 => K h4 ((b.both p2 k2 d3 k3).ext e4)
  · simp only [beq_eq_false_iff_ne, ne_eq] at hk0 hk1 hk2 hk3 hk4
    simp only [beq_iff_eq] at hk
    rw [if_neg hk0, if_neg hk1, if_neg hk2, if_neg hk3, if_neg hk4, if_pos hk] at K
    refine ints_spec b.p fun r h2 hr hrl hrb p2 k2 => countD_spec (b.dk k2) fun h3 d3 k3 => ?_
    have hlen := hr.len
    have hcl : (((intsS st).1.length : Nat) : Int) = (cnt st 8).1 := by unfold intsS; rw [List.length_map]; exact rowS_len 8 st
    have hxm := b.d.xm
    have hr3 : R (Value.int .i64) h3 r (intsS st).1 := hr.keep k3 (fun y hy e => by injection e with e; have := hrb y.block (by simp [Sl.blk, hy]); omega)
    have p3 : PI h3 a x.block m (intsS st).2 := p2.keep k3 (fun i hi => by cases hi; exact .inl rfl)
    refine ⟨fun hne => absurd hne (by rw [hlen, hcl]; simp), fun _ => ?_⟩
    have h8 : (cnt st (8 : Nat)) = cnt st 8 := rfl
    have kk : Keep (some a.block) h1 h2 := k2
    rcases cnt_spec st 8 with ⟨bs, g1, g2, g3, _⟩ | g
    · rw [g1] at d3
      obtain ⟨c, hc⟩ : ∃ c : Nat, (cnt st 8).1 = (c : Int) := ⟨(cnt st 8).1.toNat, by omega⟩
      have hle : 8 * c ≤ bs.length := cnt_le (w := 8) (by decide) (by rw [← hc]; exact g3)
      have ei : intsS st = ((chunks 8 c bs).map sg, some (bs.drop (8 * c))) := by
        unfold intsS rowS
        rw [h8, g1]
        dsimp only
        rw [hc, Int.toNat_natCast]
      rw [ei] at hr3 p3 K hlen hrl
      dsimp only at hr3 p3 K hlen hrl
      rw [List.length_map, chunks_len] at hlen hrl
      have t3 := (b.t.keep k2 (fun i hi => by cases hi; exact b.ha)).keep k3 (fun i hi => by cases hi; exact b.hx)
      refine loop.inv (fun (s0 : Int) h4 => ∃ i : Nat, s0 = (i : Int) ∧ i ≤ c ∧ R (Value.int .i64) h4 r ((chunks 8 c bs).map sg) ∧ PI h4 a x.block m (some (bs.drop (8 * c))) ∧ DI h4 x a.block m (some (bs.drop (8 * i))) ∧ TL h0 h4 m) (fun s0 _ => c - s0.toNat) ⟨0, rfl, Nat.zero_le _, hr3, p3, by simpa using d3, t3⟩ ?_
      rintro s0 h4 ⟨i, rfl, hi, hr4, p4, d4, t4⟩
      dsimp only
      rw [hlen]
      refine ⟨fun hlt => ?_, fun hge => ?_⟩
      · simp only [decide_eq_true_eq] at hlt
        have hil : i < ((chunks 8 c bs).map sg).length := by rw [List.length_map, chunks_len]; omega
        refine R.load hr4 (by omega) (by omega) ?_
        simp only [Int.toNat_natCast]
        have hen : 8 ≤ (bs.drop (8 * i)).length := by rw [List.length_drop]; omega
        have hval : ((chunks 8 c bs).map sg)[i]'hil = sg (be ((bs.drop (8 * i)).take 8)) := by simp [chunks]
        rw [hval]
        refine intD_spec d4 fun h5 d5 k5 => ?_
        rw [num_some hen] at d5 ⊢
        dsimp only at d5 ⊢
        rw [List.drop_drop] at d5
        refine ⟨fun hb => absurd hb (by simp), fun _ => ?_⟩
        rw [w64 (by omega) (by omega)]
        exact ⟨⟨i + 1, by omega, by omega, hr4.keep k5 (fun y hy e => by injection e with e; have := hrb y.block (by simp [Sl.blk, hy]); omega), p4.keep k5 (fun i hi => by cases hi; exact .inl rfl), by rw [show 8 * (i + 1) = 8 * i + 8 from by omega]; exact d5, t4.keep k5 (fun i hi => by cases hi; exact b.hx)⟩, by omega⟩
      · simp only [decide_eq_false_iff_not] at hge
        have : i = c := by omega
        subst this
        exact K h4 ⟨p4, d4, t4, b.ha, b.hx⟩
    · have ei : intsS st = ([], none) := by
        unfold intsS rowS
        rw [h8, g]; rfl
      rw [g] at d3
      rw [ei] at p3 K hlen
      have t3 := (b.t.keep k2 (fun i hi => by cases hi; exact b.ha)).keep k3 (fun i hi => by cases hi; exact b.hx)
      refine loop.inv (fun (s0 : Int) h4 => s0 = 0 ∧ h4 = h3) (fun _ _ => 0) ⟨rfl, rfl⟩ ?_
      rintro s0 h4 ⟨rfl, rfl⟩
      refine ⟨fun hb => absurd hb (by rw [hlen]; simp), fun _ => K h4 ⟨p3, d3, t3, b.ha, b.hx⟩⟩
  · simp only [beq_eq_false_iff_ne, ne_eq] at hk0 hk1 hk2 hk3 hk4 hk5
    rw [if_neg hk0, if_neg hk1, if_neg hk2, if_neg hk3, if_neg hk4, if_neg hk5] at K
    refine count_spec b.p fun h2 p2 k2 => countD_spec (b.dk k2) fun h3 d3 k3 => ?_
    rw [beq_self_eq_true]
    exact K h3 (b.both p2 k2 d3 k3)
end Go.Sh

namespace Go.Sh
open Go Go.Lift
variable {h h' : Heap} {a x : Addr} {z m : Nat} {st : St}

def x6of (t : T10) : X6 := (t.2.2.2.1, t.2.2.2.2.1, t.2.2.2.2.2.1, t.2.2.2.2.2.2.1, t.2.2.2.2.2.2.2.1, t.2.2.2.2.2.2.2.2.1)
/-- A row of things. -/
structure LT (h : Heap) (s : Sl) (ts : List T10) : Prop where
  r : RS C_i64ui64usl_bool_sl_sl_bool_sl_sl_sl 10 h s ts
  raw : ∀ t ∈ ts, Raw6 h (x6of t)
theorem great4uspec {h0 : Heap} {s : Sl} {ts : List T10} {Q : Bool → Heap → Prop} (hl : LT h0 s ts) (e0 : Ext h0 h) (K : ∀ b h', Ext h h' → (b = false → ts.length ≤ 40) → Q b h') : law04ugreat s h Q := by
  have hlen := hl.r.len
  refine ⟨fun _ => K true h (Keep.refl _ _) (fun h => nomatch h), fun h40 => ?_⟩
  simp only [gt_iff_lt, decide_eq_false_iff_not] at h40
  refine loop.inv (fun (t : Int) h1 => ∃ i : Nat, t = (i : Int) ∧ i ≤ ts.length ∧ Ext h h1) (fun t _ => ts.length - t.toNat) ⟨0, rfl, Nat.zero_le _, Keep.refl _ _⟩ ?_
  rintro t h1 ⟨i, rfl, hi, e1⟩
  dsimp only
  refine ⟨fun hlt => ?_, fun hge => K false h1 e1 (fun _ => by omega)⟩
  simp only [decide_eq_true_eq] at hlt
  have hi' : i < ts.length := by omega
  refine RS.ld (hl.r.ext (e0.trans e1)) (j := i) rfl hi' (mem_ext fun h2 e2 => ?_)
  have hraw := hl.raw _ (List.getElem_mem hi')
  generalize ts[i] = t at *
  refine seq.cut (fun (_ : Bool) h3 => Ext h2 h3) ?_ ?_
  · refine ⟨fun _ => Keep.refl _ _, fun _ => ⟨fun _ => Keep.refl _ _, fun _ => ?_⟩⟩
    intro T
    have hr : RR6 (h2.push (.cells [Value.bool t.2.2.2.1, Sl.toV t.2.2.2.2.1, Sl.toV t.2.2.2.2.2.1, Value.bool t.2.2.2.2.2.2.1, Sl.toV t.2.2.2.2.2.2.2.1, Sl.toV t.2.2.2.2.2.2.2.2.1].toArray T (0, 0))) ⟨some ⟨h2.size, 0, none⟩, 1, 1⟩ [x6of t] := RS.new (fun _ => rfl) rfl rfl
    have e3 : Ext h2 (h2.push (.cells [Value.bool t.2.2.2.1, Sl.toV t.2.2.2.2.1, Sl.toV t.2.2.2.2.2.1, Value.bool t.2.2.2.2.2.2.1, Sl.toV t.2.2.2.2.2.2.2.1, Sl.toV t.2.2.2.2.2.2.2.2.1].toArray T (0, 0))) := Ext.push _ _
    refine Odd_spec hr (((e0.trans e1).trans e2).trans e3) (by simp) (fun x hx => by simp at hx; subst hx; exact hraw) fun b h4 _ e4 => e3.trans e4
  · rintro b h3 e3
    refine ⟨fun _ => K true h3 ((e1.trans e2).trans e3) (fun h => nomatch h), fun _ => ?_⟩
    rw [w64 (by omega) (by omega)]
    exact ⟨⟨i + 1, by omega, by omega, (e1.trans e2).trans e3⟩, by simp only [Int.toNat_natCast]; omega⟩

theorem from_spec {s : Sl} {xs : List Nat} {Q : Option Addr → Heap → Prop} (hr : RI .u8 h s xs) (hl : xs.length ≤ 1000000)
    (K : ∀ a r h', a.spot = none → cell? h' (a.add 0) = some (Sl.toV r) → cell? h' (a.add 1) = some (Value.bool false) → frozen? h' (a.add 0) = false → frozen? h' (a.add 1) = false → RI .u8 h' r xs → (∀ b, r.blk = some b → b < a.block) → h.size ≤ a.block → a.block < h'.size → Ext h h' → Q (some a) h') : pack_From s h Q := by
  refine cloneB_spec hr (by omega) fun r h1 hr1 e1 hb1 => ?_
  intro T
  have hx : (h1.push (.cells [Sl.toV r, Value.bool false].toArray T (0, 0)))[h1.size]? = some (.cells [Sl.toV r, Value.bool false].toArray T (0, 0)) := by simp
  have e2 : Ext h1 (h1.push (.cells [Sl.toV r, Value.bool false].toArray T (0, 0))) := Ext.push _ _
  refine K ⟨h1.size, 0, none⟩ r _ rfl ?_ ?_ ?_ ?_ (R.ext hr1 e2) (fun b hb => (hb1 b hb).2) e1.size (by simp) (e1.trans e2)
  · rw [addr_add _ _ rfl]; unfold cell?; simp [hx]
  · rw [addr_add _ _ rfl]; unfold cell?; simp [hx]
  · rw [addr_add _ _ rfl]; exact frozen_none hx
  · rw [addr_add _ _ rfl]; exact frozen_none hx
theorem copy_spec {s : Sl} {xs : List Nat} {Q : Sl → Heap → Prop} (hr : RI .u8 h s xs) (hl : xs.length ≤ 2000000) (K : ∀ r h', RI .u8 h' r xs → Ext h h' → (∀ b, r.blk = some b → h.size ≤ b ∧ b < h'.size) → Q r h') :
    new [] h fun a h3 => appendS 1 1 (⟨some a, 0, 0⟩ : Sl) s h3 Q := by
  intro T
  have e1 : Ext h (h.push (.cells ([] : List Value).toArray T (0, 0))) := Ext.push _ _
  have ho := Own.new (toV := fun n : Nat => Value.int .u8 (n : Int)) (h := h) (ys := []) (cs := []) (T := T) rfl
  have hs1 : (h.push (.cells ([] : List Value).toArray T (0, 0)) : Heap).size = h.size + 1 := by simp
  generalize (h.push (.cells ([] : List Value).toArray T (0, 0)) : Heap) = h1 at *
  refine Own.append (bytes := 1) (B := h.size) (xs := []) ho (by omega) (R.ext hr e1) (fun _ => rfl) (by simp; omega) fun r h2 o2 k2 b2 => ?_
  have e2 : Ext h h2 := ⟨by have := k2.size; omega, fun b hb _ => (k2.same b (by omega) (fun e => by have := (ho.lt e.symm).1; omega)).trans (e1.same b hb (by simp))⟩
  exact K r h2 (by simpa using o2.r) e2 (fun b hb => o2.lt hb)
/-- Both begin. -/
theorem start_spec {h0 : Heap} {b r : Sl} {xs : List Nat} {k : Addr → Heap → Prop} (ht : Tab h0) (e0 : Ext h0 h) (hb : RI .u8 h b xs) (hlim : Lim 256 xs) (hl : xs.length ≤ 1000000) (spot : a.spot = none) (c0 : cell? h (a.add 0) = some (Sl.toV r)) (c1 : cell? h (a.add 1) = some (Value.bool false))
    (f0 : frozen? h (a.add 0) = false) (f1 : frozen? h (a.add 1) = false) (hr : RI .u8 h r xs) (hrb : ∀ i, r.blk = some i → i < a.block) (ha : h0.size ≤ a.block) (hal : a.block < h.size) (hbb : xs ≠ [] → b.blk ≠ some a.block)
    (K : ∀ x h' m, PB h0 h' a x m (some xs) → k x h') : new [Sl.toV b, Value.int .i64 0, Value.bool false] h k := by
  intro T
  have hx : (h.push (.cells [Sl.toV b, Value.int .i64 0, Value.bool false].toArray T (0, 0)))[h.size]? = some (.cells [Sl.toV b, Value.int .i64 0, Value.bool false].toArray T (0, 0)) := by simp
  have e2 : Ext h (h.push (.cells [Sl.toV b, Value.int .i64 0, Value.bool false].toArray T (0, 0))) := Ext.push _ _
  have hsz : (h.push (.cells [Sl.toV b, Value.int .i64 0, Value.bool false].toArray T (0, 0)) : Heap).size = h.size + 1 := by simp
  generalize (h.push (.cells [Sl.toV b, Value.int .i64 0, Value.bool false].toArray T (0, 0)) : Heap) = h2 at *
  have hs0 := e0.size
  refine K ⟨h.size, 0, none⟩ h2 h2.size ⟨⟨spot, ⟨r, cell_keep e2 c0 (by simp), cell_keep e2 c1 (by simp), R.ext hr e2, fun e => by have := hrb _ e; omega, fun e => by have := hrb _ e; dsimp only at this; omega, fun i hi => by have := hrb i hi; omega⟩, frozen_keep e2 (cell_lt c0) f0 (by simp), frozen_keep e2 (cell_lt c1) f1 (by simp), by dsimp only; omega, by omega, by dsimp only; omega, Nat.le_refl _, hlim, hl⟩,
    ⟨rfl, ⟨b, xs, 0, ?_, ?_, ?_, R.ext hb e2, hlim, hl, Nat.zero_le _, fun bs hbs => by cases hbs; rfl, fun hne e => ?_, hbb, fun hne i hi => ?_⟩, ?_, ?_, by dsimp only; omega, by dsimp only; omega, by omega, Nat.le_refl _⟩, ⟨ht, e0.trans e2, by omega⟩, ha, hs0⟩
  · rw [addr_add _ _ rfl]; unfold cell?; simp [hx]
  · rw [addr_add _ _ rfl]; unfold cell?; simp [hx]
  · rw [addr_add _ _ rfl]; unfold cell?; simp [hx]
  · dsimp only at e
    cases hba : b.a with
    | none => simp [Sl.blk, hba] at e
    | some y =>
      have := hb.lt hba hne
      simp only [Sl.blk, hba, Option.map_some, Option.some.injEq] at e
      omega
  · cases hba : b.a with
    | none => simp [Sl.blk, hba] at hi
    | some y =>
      have := hb.lt hba hne
      simp only [Sl.blk, hba, Option.map_some, Option.some.injEq] at hi
      omega
  · rw [addr_add _ _ rfl]; exact frozen_none hx
  · rw [addr_add _ _ rfl]; exact frozen_none hx

theorem PackTakes_holds {b list : Sl} {xs : List Nat} {ts : List T10} {Q : Bool → Heap → Prop} (ht : Tab h) (hb : RI .u8 h b xs) (hlim : Lim 256 xs) (hl : LT h list ts) (K : ∀ h', Ext h h' → Q true h') : law04uPackTakes b list h Q := by
  refine speaks4uspec fun h0 e0 => ⟨fun hc => by simp at hc, fun _ => ?_⟩
  have hbl := hb.len
  refine seq.cut (fun (t : Bool) h1 => Ext h h1 ∧ (t = false → xs.length ≤ 2000 ∧ ts.length ≤ 40)) ?_ ?_
  · refine ⟨fun _ => ⟨e0, fun h => nomatch h⟩, fun hn => great4uspec hl e0 fun bb h2 e2 hb2 => ⟨e0.trans e2, fun hf => ⟨?_, hb2 hf⟩⟩⟩
    simp only [gt_iff_lt, decide_eq_false_iff_not] at hn
    omega
  rintro t h1 ⟨e1, hsm⟩
  refine ⟨fun _ => K h1 e1, fun hf => ?_⟩
  obtain ⟨hx2, ht40⟩ := hsm hf
  refine copy_spec (R.ext hb e1) (by omega) fun v3 h2 hr2 e2 _ => from_spec hr2 (by omega) fun a r h3 spot c0 c1 f0 f1 hr3 hrb ha1 ha2 e3 => ?_
  have e13 := (e1.trans e2).trans e3
  have hs1 := e1.size
  have hs2 := e2.size
  refine start_spec ht e13 (R.ext hb e13) hlim (by omega) spot c0 c1 f0 f1 hr3 hrb (by omega) ha2 (fun hne e => ?_) fun x h4 m p4 => ?_
  · cases hba : b.a with
    | none => simp [Sl.blk, hba] at e
    | some y =>
      have := hb.lt hba hne
      simp only [Sl.blk, hba, Option.map_some, Option.some.injEq] at e
      omega
  have hlen := hl.r.len
  refine loop.inv (fun (s0 : Int) h5 => ∃ (i : Nat) (st : St), s0 = (i : Int) ∧ i ≤ ts.length ∧ PB h h5 a x m st) (fun s0 _ => ts.length - s0.toNat) ⟨0, _, rfl, Nat.zero_le _, p4⟩ ?_
  rintro s0 h5 ⟨i, st, rfl, hi, p5⟩
  dsimp only
  rw [hlen]
  refine ⟨fun hlt => ?_, fun hge => ?_⟩
  · simp only [decide_eq_true_eq] at hlt
    refine RS.ld (hl.r.ext p5.t.e) (j := i) rfl (by omega) (mem_ext fun h6 e6 => ?_)
    have p6 := p5.ext e6
    refine seq.cut (fun (t : Bool) h7 => t = false ∧ ∃ st, PB h h7 a x m st) ?_ ?_
    · refine take04uspec p6 fun h7 p7 => ⟨fun hc => by simp at hc, fun _ => ?_⟩
      obtain ⟨B, all, j, g0, g1, g2, _⟩ := p7.d.c
      refine ⟨_, g2, wrong_spec p7.p ⟨g2, fun hc => by simp at hc, fun _ => done_spec p7.p (doneD_spec p7.d ⟨by simp, _, p7⟩)⟩⟩
    · rintro t h7 ⟨rfl, st', p7⟩
      refine ⟨fun hc => by simp at hc, fun _ => ?_⟩
      rw [w64 (by omega) (by omega)]
      exact ⟨⟨i + 1, st', by omega, by omega, p7⟩, by simp only [Int.toNat_natCast]; omega⟩
  · refine done_spec p5.p (doneD_spec p5.d ?_)
    rw [beq_self_eq_true]
    exact K h5 p5.t.e
end Go.Sh

namespace Go.Sh
open Go Go.Lift
def RawB8 (h : Heap) (s : Sl) : Prop := ∃ xs, RI .u8 h s xs ∧ Lim 256 xs
theorem is_bytes {h : Heap} {cs : List Value} (H : (Shape.slice (.int .u8)).Is h cs) : ∃ s : Sl, cs = [Sl.toV s] ∧ RawB8 h s := by
  obtain ⟨s, xs, h1, h2, h3, _⟩ := is_ints (m := 255) H rfl rfl
  exact ⟨s, h1, xs, h2, h3⟩
abbrev shT : Shape := .cat (.int .i64) (.cat (.int .i64) (.cat (.slice (.int .u8)) (.cat shD (.cat (.slice (.int .i64)) .nil))))
def RawT (h : Heap) (s : Sl) : Prop := ∃ ts, LT h s ts
theorem is_thing {h : Heap} {cs : List Value} (H : shT.Is h cs) : ∃ t : T10, cs = C_i64ui64usl_bool_sl_sl_bool_sl_sl_sl t ∧ Raw6 h (x6of t) := by
  obtain ⟨l1, r1, rfl, ⟨k, rfl, _⟩, l2, r2, rfl, ⟨n, rfl, _⟩, l3, r3, rfl, ⟨b, rows, rfl, _, _⟩, l4, r4, rfl, hd, l5, r5, rfl, ⟨li, rows2, rfl, _, _⟩, rfl⟩ := H
  obtain ⟨x, rfl, hx⟩ := is_d hd
  exact ⟨(k, n, b, x.1, x.2.1, x.2.2.1, x.2.2.2.1, x.2.2.2.2.1, x.2.2.2.2.2, li), rfl, hx⟩
theorem is_things {h : Heap} {cs : List Value} (H : (Shape.slice shT).Is h cs) : ∃ s : Sl, cs = [Sl.toV s] ∧ RawT h s := by
  obtain ⟨s, rows, rfl, hr, hall⟩ := H
  have hrow : ∀ r ∈ rows, ∃ t : T10, r = C_i64ui64usl_bool_sl_sl_bool_sl_sl_sl t ∧ Raw6 h (x6of t) := fun r hr' => is_thing (hall r hr')
  have hts : ∃ ts : List T10, ts.length = rows.length ∧ ∀ i (h1 : i < ts.length) (h2 : i < rows.length), rows[i] = C_i64ui64usl_bool_sl_sl_bool_sl_sl_sl ts[i] ∧ Raw6 h (x6of ts[i]) := by
    clear hr hall
    induction rows with
    | nil => exact ⟨[], rfl, fun i h1 h2 => absurd h1 (by simp)⟩
    | cons r l ih =>
      obtain ⟨t, ht⟩ := hrow r (List.mem_cons_self ..)
      obtain ⟨ts, h1, h2⟩ := ih (fun r' hr' => hrow r' (List.mem_cons_of_mem _ hr'))
      refine ⟨t :: ts, by simp [h1], fun i g1 g2 => ?_⟩
      cases i with
      | zero => exact ht
      | succ i => exact h2 i (by simpa using g1) (by simpa using g2)
  obtain ⟨ts, h1, h2⟩ := hts
  refine ⟨s, rfl, ts, ⟨by rw [hr.len, h1], fun i hi => ?_⟩, fun t ht => ?_⟩
  · obtain ⟨a, ha, hc⟩ := hr.cells i (by omega)
    rw [(h2 i hi (by omega)).1] at hc
    exact ⟨a, ha, by simpa [Shape.size] using hc⟩
  · obtain ⟨i, hi, rfl⟩ := List.getElem_of_mem ht
    exact (h2 i hi (by omega)).2
end Go.Sh
