/- Laws that the proof of this claim's statement leans on, each proved under the conditions that it states. -/
import Derived.Test.YtdcdidecehbplaaDoorSpecG4
set_option linter.unusedVariables false
set_option linter.unusedSimpArgs false
namespace Go.Sh
open Go Go.Lift

theorem Gcd_spec {a : Addr} {lim : Nat} {ov : Bool} {x y : Sl} {m n : Nat} {h : Heap} {Q : Sl → Heap → Prop} (ht : Tab h) (hb : Bench h a lim ov) (hx : NV h x m) (hy : NV h y n) (hxl : x.len ≤ 1000) (hyl : y.len ≤ 1000)
    (hxb : x.blk = some a.block → m = 0) (hyb : y.blk = some a.block → n = 0)
    (K : ∀ r h', Bench h' a lim (ov || decide (lim < nl (Nat.gcd m n))) → Keep (some a.block) h h' → ((ov || decide (lim < nl (Nat.gcd m n))) = false → NN h' r (Nat.gcd m n)) → ((ov || decide (lim < nl (Nat.gcd m n))) = true → r = Sl.nil) → (∀ b, r.blk = some b → h.size ≤ b) → Q r h') : nat_Bench_Gcd (some a) x y h Q := by
  unfold nat_Bench_Gcd
  refine common_spec ht hx hy hxl hyl fun v h1 hv he hvb => ?_
  refine fit_spec (hb.ext he) hv.nv (fun hbl => ?_) fun r h2 hb2 hk h3 h4 h5 => K r h2 hb2 ((Keep.of_ext he).trans hk) h3 h4 (fun b hbb => Nat.le_trans he.size (h5 b hbb))
  rcases hvb _ hbl with ⟨h1, h2⟩ | ⟨h1, h2⟩ | h1
  · rw [h2]; exact hxb h1
  · rw [h2]; exact hyb h1
  · have := hb.lt; omega

theorem Sub_spec {a : Addr} {lim : Nat} {ov : Bool} {x y : Sl} {m n : Nat} {h : Heap} {Q : Sl → Heap → Prop} (hb : Bench h a lim ov) (hx : NV h x m) (hy : NV h y n) (hxl : x.len ≤ 1048000)
    (K1 : m < n → Q Sl.nil h)
    (K : n ≤ m → ∀ r h', Bench h' a lim (ov || decide (lim < nl (m - n))) → Keep (some a.block) h h' → ((ov || decide (lim < nl (m - n))) = false → NN h' r (m - n)) → ((ov || decide (lim < nl (m - n))) = true → r = Sl.nil) → (∀ b, r.blk = some b → h.size ≤ b) → Q r h') : nat_Bench_Sub (some a) x y h Q := by
  unfold nat_Bench_Sub
  refine Cmp_spec hx hy ⟨fun hlt => ?_, fun hge => ?_⟩
  · simp only [decide_eq_true_eq] at hlt
    refine K1 ?_
    unfold cmpI at hlt
    split at hlt
    · assumption
    · split at hlt <;> simp at hlt
  · simp only [decide_eq_false_iff_not] at hge
    have hle : n ≤ m := by
      unfold cmpI at hge
      split at hge
      · simp at hge
      · omega
    refine trim_nn hy fun y' hy' _ _ => ?_
    refine minus_spec hx hy'.nv hxl hle fun v h1 hv he hvb _ => ?_
    refine fit_spec (hb.ext he) hv.nv (fun hbl => ?_) fun r h2 hb2 hk h3 h4 h5 => K hle r h2 hb2 ((Keep.of_ext he).trans hk) h3 h4 (fun b hbb => Nat.le_trans he.size (h5 b hbb))
    have := hvb _ hbl
    have := hb.lt
    omega

theorem Div_spec {a : Addr} {lim : Nat} {ov : Bool} {x y : Sl} {m n : Nat} {h : Heap} {Q : (Sl × Sl) → Heap → Prop} (hb : Bench h a lim ov) (hx : NV h x m) (hy : NV h y n) (hxl : x.len ≤ 30000) (hyl : y.len ≤ 30000)
    (K1 : n = 0 → Q (Sl.nil, Sl.nil) h)
    (K : n ≠ 0 → ∀ q r h' ov', ov' = (ov || decide (lim < nl (m / n)) || decide (lim < nl (m % n))) → Bench h' a lim ov' → Keep (some a.block) h h' → (ov' = false → NN h' q (m / n) ∧ NN h' r (m % n)) → (ov' = true → q = Sl.nil ∧ r = Sl.nil) → (∀ b, q.blk = some b ∨ r.blk = some b → h.size ≤ b) → Q (q, r) h') : nat_Bench_Div (some a) x y h Q := by
  unfold nat_Bench_Div
  refine trim_nn hy fun y' hy' _ _ => ?_
  refine ⟨fun h0 => ?_, fun h0 => ?_⟩
  · simp only [beq_iff_eq] at h0
    exact K1 (hy'.len_zero.1 (by omega))
  · simp only [beq_eq_false_iff_ne, ne_eq] at h0
    have hn0 : n ≠ 0 := fun h => h0 (by have := hy'.len_zero.2 h; omega)
    refine divide_spec hx hy hxl hyl hn0 fun q r h1 hq hr he hqb hrb => ?_
    dsimp only
    have hal := hb.lt
    have hq0 : q.blk ≠ some a.block := fun hbl => by have := (hqb _ hbl).1; omega
    have hr0 : r.blk ≠ some a.block := fun hbl => by have := hrb _ hbl; omega
    refine fit_spec (hb.ext he) hq.nv (fun hbl => absurd hbl hq0) fun q2 h2 hb2 hk2 hf2 ht2 hs2 => ?_
    refine fit_spec hb2 (hr.keep hk2 hr0).nv (fun hbl => absurd hbl hr0) fun r2 h3 hb3 hk3 hf3 ht3 hs3 => ?_
    have hkk : Keep (some a.block) h h3 := ((Keep.of_ext he).trans hk2).trans hk3
    have hsz := he.size
    have hsz2 := hk2.size
    refine ⟨a, rfl, _, hb3.over, fun hov => ?_, fun hov => ?_⟩
    · exact K hn0 Sl.nil Sl.nil h3 true hov.symm (by rw [hov] at hb3; exact hb3) hkk nofun (fun _ => ⟨rfl, rfl⟩) (fun b hb => by rcases hb with h | h <;> cases h)
    · have hov1 : (ov || decide (lim < nl (m / n))) = false := by
        cases hx : (ov || decide (lim < nl (m / n))) with
        | false => rfl
        | true => rw [hx] at hov; simp at hov
      have hq3 := (hf2 hov1).keep hk3 (fun hbl => by have := hs2 _ hbl; omega)
      refine K hn0 q2 r2 h3 false hov.symm (by rw [hov] at hb3; exact hb3) hkk (fun _ => ⟨hq3, hf3 hov⟩) nofun (fun b hb => ?_)
      rcases hb with h | h
      · have := hs2 b h; omega
      · have := hs3 b h; omega

theorem Parse_over {a : Addr} {lim : Nat} {s : ByteArray} {h : Heap} {Q : (Sl × Bool) → Heap → Prop} (hb : Bench h a lim true)
    (K : ∀ h', Bench h' a lim true → Keep (some a.block) h h' → Q (Sl.nil, false) h') : nat_Bench_Parse (some a) s h Q := by
  unfold nat_Bench_Parse
  have hcl := cs_len s
  refine seq.dup ?_
  refine ⟨fun h0 => ⟨fun _ => K h hb (Keep.refl _ _), nofun⟩, fun h0 => ⟨fun h1 => K h hb (Keep.refl _ _), fun h1 => ?_⟩⟩
  have hs0 : s.size ≠ 0 := by simp only [beq_eq_false_iff_ne, ne_eq] at h0; omega
  have hs1 : s.size ≤ 10000 := by simp only [gt_iff_lt, decide_eq_false_iff_not] at h1; omega
  clear h0 h1
  refine loop.inv (fun t h' => h' = h ∧ ∃ i : Nat, t = (i : Int) ∧ i ≤ s.size) (fun t _ => s.size - t.toNat) ⟨rfl, 0, rfl, by omega⟩ ?_
  rintro t h' ⟨rfl, i, rfl, hi⟩
  have bad := K h' hb (Keep.refl _ _)
  refine ⟨fun hlt => ?_, fun hge => ?_⟩
  · simp only [decide_eq_true_eq] at hlt
    have hj : i < (cs s).length := by omega
    refine seq.dup ?_
    refine idxStr.at (j := i) rfl hj ⟨fun h1 => ⟨fun _ => bad, nofun⟩, fun h1 => ?_⟩
    refine idxStr.at (j := i) rfl hj ⟨fun h2 => bad, fun h2 => ?_⟩
    rw [w64 (by omega) (by omega)]
    exact ⟨⟨rfl, i + 1, by omega, by omega⟩, by omega⟩
  · -- the first round ends it
    refine loop.inv (fun t h2 => t = (Sl.nil, 0) ∧ h2 = h') (fun _ _ => 0) ⟨rfl, rfl⟩ ?_
    rintro t h2 ⟨rfl, rfl⟩
    dsimp only
    refine ⟨fun hlt => ?_, fun hge => ?_⟩
    · have hj : 0 < (cs s).length := by omega
      have hd := cs_lt s hj
      refine seq.cut (fun r h3 => Bench h3 a lim true ∧ Keep (some a.block) h2 h3) ?_ ?_
      · refine idxStr.at (j := 0) rfl hj ?_
        have hw : IntKind.wrap .u32 (IntKind.wrap .u8 (((cs s)[0] : Nat) - 48 : Int)) = ((((((cs s)[0] : Nat) : Int) - 48) % 256).toNat : Int) := by
          rw [wu8m, wu32m]; omega
        simp only [hw]
        have hd32 : (((((cs s)[0] : Nat) : Int) - 48) % 256).toNat < 4294967296 := by omega
        generalize (((((cs s)[0] : Nat) : Int) - 48) % 256).toNat = dn at hd32
        refine ⟨?_, ?_⟩
        · refine new1 (m := 10) rfl fun h3 hten he3 hs3 => ⟨?_, ?_⟩
          · refine Mul_spec (n := 10) (hb.ext he3) NV.nil (one_nv hten (by decide)) (by simp [Sl.nil]) (by simp) fun r h4 hb4 hk4 hf4 ht4 hr4 => ?_
            simp only [Bool.true_or] at hb4
            have hr := ht4 (by simp)
            subst hr
            refine new1 (m := dn) rfl fun h5 hdg5 he5 hs5 => ?_
            refine Add_spec (hb4.ext he5) NV.nil (one_nv hdg5 hd32) (by simp [Sl.nil]) (by simp) fun r h6 hb6 hk6 _ _ _ => ?_
            simp only [Bool.true_or] at hb6
            exact ⟨hb6, (((Keep.of_ext he3).trans hk4).trans (Keep.of_ext he5)).trans hk6⟩
          · refine new1 (m := dn) rfl fun h4 hdg4 he4 hs4 => ?_
            refine Mul_spec (n := 10) ((hb.ext he3).ext he4) NV.nil (one_nv (hten.ext he4) (by decide)) (by simp [Sl.nil]) (by simp) fun r h5 hb5 hk5 hf5 ht5 hr5 => ?_
            simp only [Bool.true_or] at hb5
            have hr := ht5 (by simp)
            subst hr
            have hlt := (hb.ext he3).lt
            refine Add_spec hb5 NV.nil ((one_nv hdg4 hd32).keep hk5 (by simp [Sl.blk]; omega)) (by simp [Sl.nil]) (by simp) fun r h6 hb6 hk6 _ _ _ => ?_
            simp only [Bool.true_or] at hb6
            exact ⟨hb6, (((Keep.of_ext he3).trans (Keep.of_ext he4)).trans hk5).trans hk6⟩
        · refine new1 (m := dn) rfl fun h3 hdg3 he3 hs3 => ?_
          refine new1 (m := 10) rfl fun h4 hten he4 hs4 => ?_
          refine Mul_spec (n := 10) ((hb.ext he3).ext he4) NV.nil (one_nv hten (by decide)) (by simp [Sl.nil]) (by simp) fun r h5 hb5 hk5 hf5 ht5 hr5 => ?_
          simp only [Bool.true_or] at hb5
          have hr := ht5 (by simp)
          subst hr
          have hlt := hb.lt
          refine Add_spec hb5 NV.nil ((one_nv (hdg3.ext he4) hd32).keep hk5 (by simp [Sl.blk]; omega)) (by simp [Sl.nil]) (by simp) fun r h6 hb6 hk6 _ _ _ => ?_
          simp only [Bool.true_or] at hb6
          exact ⟨hb6, (((Keep.of_ext he3).trans (Keep.of_ext he4)).trans hk5).trans hk6⟩
      · rintro r h3 ⟨hb3, hk3⟩
        exact ⟨a, rfl, true, hb3.over, fun _ => K h3 hb3 hk3, nofun⟩
    · simp only [decide_eq_false_iff_not] at hge
      omega
end Go.Sh
