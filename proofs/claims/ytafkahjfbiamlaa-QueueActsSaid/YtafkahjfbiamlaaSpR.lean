/-
  Laws that the proof of this claim's statement leans on, each proved under the conditions that it states.
-/
import Derived.Test.YtafkahjfbiamlaaSpQ
import Derived.Test.YtafkahjfbiamlaaFwM
set_option linter.unusedVariables false
set_option linter.unusedSimpArgs false
namespace Go.Sh
open Go Go.Lift Go.Que
variable {Z : Nat → Prop} {h h' : Heap} {a : Addr} {s t : Sl} {sc l : List Int}

theorem at_app {l : List Int} {v : Int} {k : Nat} : at0 (l ++ [v]) k = if k < l.length then at0 l k else if k = l.length then v else 0 := by
  unfold at0
  rw [List.getD_eq_getElem?_getD, List.getD_eq_getElem?_getD]
  by_cases h : k < l.length
  · rw [if_pos h, List.getElem?_append_left h]
  · rw [if_neg h, List.getElem?_append_right (by omega)]
    by_cases e : k = l.length
    · subst e; simp
    · rw [if_neg e]
      have : k - l.length ≠ 0 := by omega
      cases hk : k - l.length with
      | zero => exact absurd hk this
      | succ m => simp
theorem QS.keepO (q : QS Z h a s t sc l) {o : Option Nat} (k : Keep o h h') (ha : some a.block ≠ o) (hs : ∀ b, s.blk = some b → some b ≠ o) (ht : ∀ b, t.blk = some b → some b ≠ o) : QS Z h' a s t sc l :=
  { q with
    c0 := cell_keep k q.c0 (by rw [addr_add_block]; exact ha)
    c1 := cell_keep k q.c1 (by rw [addr_add_block]; exact ha)
    f1 := frozen_keep k (cell_lt q.c1) q.f1 (by rw [addr_add_block]; exact ha)
    so := q.so.keep k hs
    to := q.to.keep k ht
    zn := fun b hb => q.zn b (Nat.le_trans k.size hb) }
theorem QS.lta (q : QS Z h a s t sc l) : a.block < h.size := by have := cell_lt q.c1; rwa [addr_add_block] at this
theorem QS.lts (q : QS Z h a s t sc l) {b : Nat} (hb : s.blk = some b) : b < h.size := (q.so.lt hb).2
theorem QS.ltt (q : QS Z h a s t sc l) {b : Nat} (hb : t.blk = some b) : b < h.size := (q.to.lt hb).2

theorem ranksPush_spec {v : Int} {Q : Unit → Heap → Prop} (q : QS Z h a s t sc l) (hv : 0 ≤ v ∧ v < (sc.length : Int)) (hno : v ∉ l) (hl : l.length + 1 ≤ 1048576)
    (K : ∀ t' h', QS Z h' a s t' sc (l ++ [v]) → Fr Z h h' → Q () h') : queue_ranks_Push__t3 (some a) v h Q := by
  refine mem_ext fun h0 e0 => ?_
  have q := q.ext e0
  refine ⟨a, rfl, t, q.c1, ?_⟩
  intro T
  have hx := (Own.new (toV := Value.int .i64) (h := h0) (ys := [v]) (T := T) (cs := [Value.int .i64 v]) rfl).r
  have e1 := Ext.push h0 (.cells [Value.int .i64 v].toArray T (0, 0))
  generalize (h0.push (.cells [Value.int .i64 v].toArray T (0, 0)) : Heap) = h1 at *
  have q1 := q.ext e1
  refine ⟨q1.c1, ?_⟩
  refine Own.append (bytes := 8) q1.to (Nat.zero_le _) hx one_i64 (by simp; omega) fun t2 h2 o2 k2 hb2 => ?_
  have c1 := cell_keep k2 q1.c1 (by rw [addr_add_block]; exact fun e => q1.d2 e.symm)
  have c0 := cell_keep k2 q1.c0 (by rw [addr_add_block]; exact fun e => q1.d2 e.symm)
  have f1 := frozen_keep k2 (cell_lt q1.c1) q1.f1 (by rw [addr_add_block]; exact fun e => q1.d2 e.symm)
  refine ⟨a, rfl, ⟨_, c1⟩, f1, ?_⟩
  have kset : Keep (some a.block) h2 (setCell h2 (a.add 1) (Sl.toV t2)) := by
    have := Keep.setCell h2 (a.add 1) (Sl.toV t2)
    rwa [addr_add_block] at this
  have d2 : t2.blk ≠ some a.block := by
    rcases hb2 with h | ⟨h, _⟩
    · rw [h]; exact q1.d2
    · rw [h]; intro e; injection e with e; have := q1.lta; omega
  have d3 : ∀ b, s.blk = some b → t2.blk ≠ some b := by
    intro b hb
    rcases hb2 with h | ⟨h, _⟩
    · rw [h]; exact q1.d3 b hb
    · rw [h]; intro e; injection e with e; have := q1.lts hb; omega
  refine K t2 _ ⟨q.spot, ?_, cell_set_same c1, by rw [frozen_set]; exact f1, (q1.so.keep k2 (fun b hb e => q1.d3 b hb e.symm)).keep kset (fun b hb e => q.d1 (by rw [hb, e])), o2.keep kset (fun b hb' e => d2 (by rw [hb', e])), q.d1, d2, d3, q.za, q.zs, ?_, fun b hb => q1.zn b (Nat.le_trans (Nat.le_trans k2.size kset.size) hb), q.rng, ?_, ?_, q.lens, by simp; omega⟩ ?_
  · rw [cell_set_ne (.inr (.inl (by rw [addr_add _ _ q.spot, addr_add _ _ q.spot]; simp)))]
    exact c0
  · intro b hb
    rcases hb2 with h | ⟨h, _⟩
    · exact q1.zt b (by rw [← h]; exact hb)
    · rw [h] at hb; cases hb; exact q1.zn _ (Nat.le_refl _)
  · intro x hx
    rcases List.mem_append.1 hx with hx | hx
    · exact q.mem x hx
    · simp only [List.mem_singleton] at hx; subst hx; exact hv
  · intro i j hi hj e
    simp only [List.length_append, List.length_singleton] at hi hj
    rw [at_app, at_app] at e
    by_cases h1 : i < l.length
    · by_cases h2 : j < l.length
      · rw [if_pos h1, if_pos h2] at e; exact q.once i j h1 h2 e
      · rw [if_pos h1, if_neg h2, if_pos (by omega)] at e; exact absurd (e ▸ at_mem h1) hno
    · by_cases h2 : j < l.length
      · rw [if_neg h1, if_pos (by omega), if_pos h2] at e; exact absurd (e ▸ at_mem h2) hno
      · omega
  · exact (Fr.ext (e0.trans e1)).trans ((Fr.keep k2 q1.zt).trans (Fr.keep kset (fun i hi => by cases hi; exact q.za)))

theorem Push_spec {v : Int} {Q : Int → Heap → Prop} (q : QS Z h a s t sc l) (hh : Heaped sc l) (hl : l.length + 1 ≤ 1048576)
    (Kno : ¬ (0 ≤ v ∧ v < (sc.length : Int)) → Q 2 h)
    (K : (0 ≤ v ∧ v < (sc.length : Int)) → ∀ t' l' h', QS Z h' a s t' sc l' → Fr Z h h' → l'.length ≤ l.length + 1 → (∀ x, x ∈ l' ↔ x ∈ l ∨ x = v) → Heaped sc l' → Q 0 h') : queue_Push (some a) v h Q := by
  refine there_spec q fun b hb => ⟨fun hn => Kno fun h => ?_, fun hy => ?_⟩
  · rw [hb.2 h] at hn; simp at hn
  have hv := hb.1 (by simpa using hy)
  refine seq.cut (fun (_ : Unit) h1 => ∃ t' l', QS Z h1 a s t' sc l' ∧ Fr Z h h1 ∧ l'.length ≤ l.length + 1 ∧ (∀ x, x ∈ l' ↔ x ∈ l ∨ x = v) ∧ Heaped sc l') ?_ (fun _ h1 ⟨t', l', h2, h3, h4, h5, h6⟩ => K hv t' l' h1 h2 h3 h4 h5 h6)
  refine ⟨a, rfl, q.ldS (Has_spec q.to.r q.lenl fun b h1 hb e1 => ⟨fun hn => ?_, fun hy => ?_⟩)⟩
  · have hno : v ∉ l := fun h => by rw [hb.2 h] at hn; simp at hn
    refine ranksPush_spec (q.ext e1) hv hno hl fun t' h2 q2 f2 => Len_spec q2 fun h3 e3 => ?_
    have eL : ((l ++ [v]).length : Int) - 1 = (l.length : Int) := by simp
    rw [eL, w64 (by omega) (by omega)]
    refine up_spec (q2.ext e3) (by simp) ⟨fun c c0 cn cp => ?_, fun c c0 cn cp j0 => ?_⟩ fun l' h4 q4 f4 e4 m4 hf => ?_
    · simp only [List.length_append, List.length_singleton] at cn
      rw [at_app, at_app, if_pos (by omega), if_pos (by omega)]
      exact hh c c0 (by omega) (by omega)
    · simp only [List.length_append, List.length_singleton] at cn
      omega
    · refine ⟨t', l', q4, (Fr.ext e1).trans (f2.trans ((Fr.ext e3).trans f4)), by rw [e4]; simp, fun x => (m4 x).trans ?_, hf⟩
      simp
  · have : v ∈ l := hb.1 (by simpa using hy)
    refine ⟨t, l, q.ext e1, Fr.ext e1, Nat.le_succ _, fun x => ⟨.inl, fun h => h.elim id fun e => e ▸ this⟩, hh⟩

theorem Init_spec {Q : Unit → Heap → Prop} (q : QS Z h a s t sc l)
    (K : ∀ l' h', QS Z h' a s t sc l' → Fr Z h h' → l'.length = l.length → (∀ x, x ∈ l' ↔ x ∈ l) → Heaped sc l' → Q () h') : container_heap_Init__t88 (some a) h Q := by
  have hl := q.lenl
  refine Len_spec q fun h1 e1 => ?_
  have e2 : Int.tdiv (l.length : Int) 2 = ((l.length / 2 : Nat) : Int) := rfl
  rw [e2, w64 (n := ((l.length / 2 : Nat) : Int)) (by omega) (by omega), w64 (by omega) (by omega)]
  rintro i0 rfl
  refine loop.inv (fun (s0 : Int) h2 => ∃ (i : Nat) (l' : List Int), s0 = (i : Int) - 1 ∧ i ≤ l.length / 2 ∧ QS Z h2 a s t sc l' ∧ Fr Z h h2 ∧ l'.length = l.length ∧ (∀ x, x ∈ l' ↔ x ∈ l) ∧ From (scf sc) l' l.length i) (fun s0 _ => (s0 + 1).toNat) ⟨l.length / 2, l, rfl, Nat.le_refl _, q.ext e1, Fr.ext e1, rfl, fun _ => Iff.rfl, From.none (by omega)⟩ ?_
  rintro s0 h2 ⟨i, l', rfl, hi, q2, f2, e2, m2, hf⟩
  dsimp only
  refine ⟨fun hge => ?_, fun hlt => ?_⟩
  · simp only [ge_iff_le, decide_eq_true_eq] at hge
    have ei : (i : Int) - 1 = ((i - 1 : Nat) : Int) := by omega
    rw [ei]
    have hf' : From (scf sc) l' l.length (i - 1 + 1) := by rw [show i - 1 + 1 = i from by omega]; exact hf
    refine down_spec (lo := i - 1) q2 (by omega) (by omega) hf'.down (Nat.le_refl _) fun b l3 h3 q3 f3 e3 m3 r3 hf3 => ?_
    rw [w64 (by omega) (by omega)]
    rintro i1 rfl
    exact ⟨⟨i - 1, l3, rfl, by omega, q3, f2.trans f3, by omega, fun x => (m3 x).trans (m2 x), hf3⟩, by omega⟩
  · simp only [ge_iff_le, decide_eq_false_iff_not] at hlt
    have : i = 0 := by omega
    subst this
    exact K l' h2 q2 f2 e2 m2 (by unfold Heaped; rw [e2]; exact hf)

/-- Half of each. -/
def halves (sc : List Int) : List Int := sc.map fun x => x / 2
theorem at_map {sc : List Int} {k : Nat} : at0 (halves sc) k = at0 sc k / 2 := by
  unfold at0 halves
  rw [List.getD_eq_getElem?_getD, List.getD_eq_getElem?_getD, List.getElem?_map]
  cases sc[k]? <;> simp
theorem halves_rng (h : ∀ x ∈ sc, 0 ≤ x ∧ x ≤ 1152921504606846976) : ∀ x ∈ halves sc, 0 ≤ x ∧ x ≤ 1152921504606846976 := by
  intro x hx
  obtain ⟨y, hy, rfl⟩ := List.mem_map.1 hx
  have := h y hy
  omega
/-- The first ones halved. -/
def halfTo (sc : List Int) (i : Nat) : List Int := (sc.take i).map (fun x => x / 2) ++ sc.drop i
theorem halfTo_len (sc : List Int) (i : Nat) : (halfTo sc i).length = sc.length := by simp [halfTo]; omega
theorem halfTo_at {sc : List Int} {i k : Nat} (hk : k < sc.length) : at0 (halfTo sc i) k = if k < i then at0 sc k / 2 else at0 sc k := by
  unfold at0 halfTo
  rw [List.getD_eq_getElem?_getD, List.getD_eq_getElem?_getD]
  by_cases h : k < i
  · rw [if_pos h, List.getElem?_append_left (by simp; omega), List.getElem?_map, List.getElem?_take, if_pos h, List.getElem?_eq_getElem hk]; simp
  · rw [if_neg h, List.getElem?_append_right (by simp; omega), List.getElem?_drop]
    congr 2
    simp; omega
theorem list_ext {x y : List Int} (hl : x.length = y.length) (h : ∀ k, k < x.length → at0 x k = at0 y k) : x = y := by
  apply List.ext_getElem hl
  intro k h1 h2
  have := h k h1
  rwa [at_get h1, at_get h2] at this
theorem halfTo_succ {sc : List Int} {i : Nat} (hi : i < sc.length) : (halfTo sc i).set i (at0 sc i / 2) = halfTo sc (i + 1) := by
  apply list_ext
  · simp [halfTo_len]
  · intro k hk
    rw [List.length_set, halfTo_len] at hk
    rw [at_set _ _ _ _ (by rw [halfTo_len]; exact hi), halfTo_at hk, halfTo_at hk]
    by_cases e : k = i
    · subst e; rw [if_pos rfl, if_pos (by omega)]
    · rw [if_neg e]
      by_cases h1 : k < i
      · rw [if_pos h1, if_pos (by omega)]
      · rw [if_neg h1, if_neg (by omega)]
theorem halfTo_all (sc : List Int) : halfTo sc sc.length = halves sc := by simp [halfTo, halves]
theorem halfTo_rng (h : ∀ x ∈ sc, 0 ≤ x ∧ x ≤ 1152921504606846976) (i : Nat) : ∀ x ∈ halfTo sc i, 0 ≤ x ∧ x ≤ 1152921504606846976 := by
  intro x hx
  obtain ⟨k, hk, rfl⟩ := mem_at hx
  rw [halfTo_len] at hk
  rw [halfTo_at hk]
  have := h _ (at_mem hk)
  split <;> omega
theorem half_eq {x : Int} (h : 0 ≤ x ∧ x ≤ 1152921504606846976) : IntKind.wrap .i64 (Int.tdiv x 2) = x / 2 := by
  have : Int.tdiv x 2 = x / 2 := Int.tdiv_eq_ediv_of_nonneg h.1
  rw [this, w64 (by omega) (by omega)]

theorem Halve_spec {Q : Unit → Heap → Prop} (q : QS Z h a s t sc l)
    (K : ∀ l' h', QS Z h' a s t (halves sc) l' → Fr Z h h' → l'.length = l.length → (∀ x, x ∈ l' ↔ x ∈ l) → Heaped (halves sc) l' → Q () h') : queue_Halve (some a) h Q := by
  have hl := q.lens
  refine q.ld0 ?_
  rw [q.so.r.len]
  refine loop.inv (fun (s0 : Int) h2 => ∃ i : Nat, s0 = (i : Int) ∧ i ≤ sc.length ∧ QS Z h2 a s t (halfTo sc i) l ∧ Fr Z h h2) (fun s0 _ => sc.length - s0.toNat) ⟨0, rfl, Nat.zero_le _, by simpa [halfTo] using q, Fr.refl _ _⟩ ?_
  rintro s0 h2 ⟨i, rfl, hi, q2, f2⟩
  dsimp only
  refine ⟨fun hlt => ?_, fun hge => ?_⟩
  · simp only [decide_eq_true_eq] at hlt
    refine q2.ld0 (RJ.ld q2.so.r (j := i) rfl (by rw [halfTo_len]; omega) ?_)
    have hat : at0 (halfTo sc i) i = at0 sc i := by rw [halfTo_at (by omega), if_neg (by omega)]
    rw [hat, half_eq (q.rng _ (at_mem (by omega)))]
    refine OJ.st q2.so (j := i) rfl (by rw [halfTo_len]; omega) fun h3 o3 k3 _ => ?_
    rw [halfTo_succ (by omega)] at o3
    rw [w64 (by omega) (by omega)]
    exact ⟨⟨i + 1, by omega, by omega, q2.setS o3 k3 (halfTo_rng q.rng _) (by rw [halfTo_len, halfTo_len]), f2.trans (Fr.keep k3 q.zs)⟩, by simp only [Int.toNat_natCast]; omega⟩
  · simp only [decide_eq_false_iff_not] at hge
    have : i = sc.length := by omega
    subst this
    rw [halfTo_all] at q2
    exact Init_spec q2 fun l' h3 q3 f3 e3 m3 hh3 => K l' h3 q3 (f2.trans f3) e3 m3 hh3

/-- The same queue at another place. -/
theorem QS.copy (q : QS Z h a s t sc l) {b : Addr} {T : Nat} (hb : b = ⟨h.size, 0, none⟩) (hh : h' = h.push (.cells [Sl.toV s, Sl.toV t].toArray T (0, 0))) : QS Z h' b s t sc l := by
  have e : Ext h h' := by rw [hh]; exact Ext.push _ _
  have hx : h'[h.size]? = some (.cells [Sl.toV s, Sl.toV t].toArray T (0, 0)) := by rw [hh]; simp
  subst hb
  exact
  { spot := rfl
    c0 := by rw [addr_add _ _ rfl]; unfold cell?; simp [hx]
    c1 := by rw [addr_add _ _ rfl]; unfold cell?; simp [hx]
    f1 := by rw [addr_add _ _ rfl]; exact frozen_none hx
    so := q.so.ext e
    to := q.to.ext e
    d1 := fun hb => by have := q.lts hb; simp at this
    d2 := fun hb => by have := q.ltt hb; simp at this
    d3 := q.d3
    za := q.zn _ (Nat.le_refl _)
    zs := q.zs
    zt := q.zt
    zn := fun b hb => q.zn b (Nat.le_trans e.size hb)
    rng := q.rng
    mem := q.mem
    once := q.once
    lens := q.lens
    lenl := q.lenl }

theorem rng_c1 {v : Int} {Q : Bool → Heap → Prop} (hv : 0 ≤ v ∧ v ≤ 1152921504606846976) (K : Q false h) : queue_Right_c1 v h Q := by
  refine seq.cut (fun (b : Bool) h' => b = false ∧ h' = h) ?_ (fun b h' ⟨e1, e2⟩ => by subst e1; subst e2; exact K)
  exact ⟨fun hb => absurd hb (by simp; omega), fun _ => ⟨by simp; omega, rfl⟩⟩
theorem QRight_spec {Q : Bool → Heap → Prop} (q : QS Z h a s t sc l) (hh : Heaped sc l) (K : ∀ h', Ext h h' → Q true h') : queue_Right (s, t) h Q := by
  have hll := q.lenl
  intro T
  have e0 : Ext h (h.push (.cells [Sl.toV s, Sl.toV t].toArray T (0, 0))) := Ext.push _ _
  have q1 := QS.copy q (T := T) rfl rfl
  have hsz : (h.push (.cells [Sl.toV s, Sl.toV t].toArray T (0, 0)) : Heap).size = h.size + 1 := by simp
  generalize hg : (h.push (.cells [Sl.toV s, Sl.toV t].toArray T (0, 0)) : Heap) = h1 at *
  generalize hb : (⟨h.size, 0, none⟩ : Addr) = b at *
  have hbb : b.block = h.size := by rw [← hb]
  unfold newM
  have e1 : Ext h1 (h1.push (.map #[] 0)) := Ext.push _ _
  have q2 := q1.ext e1
  have hm : mapEs .i64 (h1.push (.map #[] 0)) (some h1.size) (vals Value.bool []) := ⟨#[], 0, by simp, Ents.nil⟩
  generalize hg2 : (h1.push (.map #[] 0) : Heap) = h2 at *
  refine ⟨t, q2.c1, ?_⟩
  dsimp only
  rw [q2.to.r.len]
  refine loop.inv (fun (s0 : Int) h3 => ∃ (i : Nat) (f : List (Int × Bool)), s0 = (i : Int) ∧ i ≤ l.length ∧ QS Z h3 b s t sc l ∧ Ext h1 h3 ∧ mapEs .i64 h3 (some h1.size) (vals Value.bool f) ∧ (∀ k, i ≤ k → k < l.length → f.lookup (at0 l k) = none)) (fun s0 _ => l.length - s0.toNat)
    ⟨0, [], rfl, Nat.zero_le _, q2, e1, hm, fun _ _ _ => rfl⟩ ?_
  rintro s0 h3 ⟨i, f, rfl, hi, q3, e3, m3, n3⟩
  dsimp only
  refine ⟨fun hlt => ?_, fun hge => ?_⟩
  · simp only [decide_eq_true_eq] at hlt
    have hil : i < l.length := by omega
    refine RJ.ld q3.to.r (j := i) rfl hil ?_
    have hv := q3.mem _ (at_mem hil)
    refine seq.cut (fun (tb : Bool) h4 => tb = false ∧ Ext h3 h4) ?_ ?_
    · refine there_spec q3 fun bb hbb => ⟨fun hn => ?_, fun _ => ?_⟩
      · rw [hbb.2 hv] at hn; simp at hn
      refine ⟨f, (false, false), m3, by rw [n3 i (Nat.le_refl _) hil], fun hb => by simp at hb, fun _ => ⟨fun hpos => ?_, fun _ => ⟨rfl, Keep.refl _ _⟩⟩⟩
      simp only [gt_iff_lt, decide_eq_true_eq] at hpos
      have ei : IntKind.wrap .i64 (Int.tdiv (IntKind.wrap .i64 ((i : Int) - 1)) 2) = (((i - 1) / 2 : Nat) : Int) := by
        rw [w64 (n := (i : Int) - 1) (by omega) (by omega)]
        have : (i : Int) - 1 = ((i - 1 : Nat) : Int) := by omega
        rw [this]
        have : Int.tdiv ((i - 1 : Nat) : Int) 2 = (((i - 1) / 2 : Nat) : Int) := rfl
        rw [this]
        exact w64 (by omega) (by omega)
      rw [ei]
      refine Less_spec q3 (m := (i - 1) / 2) (n := i) rfl rfl (by omega) hil fun bb h4 hbb e4 => ⟨?_, e4⟩
      have h1 := hh i (by omega) hil (by omega)
      have hne : at0 l ((i - 1) / 2) ≠ at0 l i := fun e => by
        have := q3.once _ _ (by omega) hil e
        omega
      have : bb = true := hbb.2 (by unfold upto aheadOf at *; omega)
      simp [this]
    · rintro tb h4 ⟨rfl, e4⟩
      refine ⟨fun hb => by simp at hb, fun _ => ?_⟩
      obtain ⟨es, c, g1, g2⟩ := m3
      have g1' : h4[h1.size]? = some (.map es c) := by rw [e4.same _ (Array.getElem?_eq_some_iff.1 g1).1 (by simp)]; exact g1
      refine ⟨h1.size, f, rfl, ⟨es, c, g1', g2⟩, fun es' c' g3 => ?_⟩
      have hlt4 : h1.size < h4.size := (Array.getElem?_eq_some_iff.1 g1').1
      have kset : Keep (some h1.size) h4 (h4.setIfInBounds h1.size (.map es' c')) := ⟨by simp, fun b hb hne => by
        rw [Array.getElem?_setIfInBounds_ne (fun e => hne (by rw [e]))]⟩
      have q4 := q3.ext e4
      rw [w64 (by omega) (by omega)]
      refine ⟨⟨i + 1, _, by omega, by omega, q4.keepO kset (fun e => ?_) (fun b hb e => ?_) (fun b hb e => ?_), ?_, ⟨es', c', by simp [hlt4], g3⟩, fun k hk1 hk2 => ?_⟩, by simp only [Int.toNat_natCast]; omega⟩
      · rw [hbb] at e; injection e; omega
      · injection e with e; subst e; have := q1.lts hb; omega
      · injection e with e; subst e; have := q1.ltt hb; omega
      · exact (Keep.trans (Keep.of_ext (e3.trans e4)) kset |> fun (k : Keep (some h1.size) h1 _) => ⟨k.size, fun b hb _ => k.same b hb (by simp; omega)⟩)
      · rw [lookup_updM]
        have hne : at0 l k ≠ at0 l i := fun e => by have := q3.once _ _ hk2 hil e; omega
        have : (at0 l k == at0 l i) = false := by simpa using hne
        rw [this]
        simp only [Bool.false_eq_true, if_false]
        exact n3 k (by omega) hk2
  · refine ⟨s, q3.c0, ?_⟩
    dsimp only
    unfold slices_ContainsFunc_int_int__queue_Right_c1 slices_IndexFunc_int_int__queue_Right_c1
    have hls := q3.lens
    have hlen := q3.so.r.len
    refine loop.inv (fun (s0 : Int) h4 => h4 = h3 ∧ ∃ j : Nat, s0 = (j : Int) ∧ j ≤ sc.length) (fun s0 _ => sc.length - s0.toNat) ⟨rfl, 0, rfl, Nat.zero_le _⟩ ?_
    rintro s0 h4 ⟨rfl, j, rfl, hj⟩
    dsimp only
    rw [hlen]
    refine ⟨fun hlt => ?_, fun hge => ?_⟩
    · simp only [decide_eq_true_eq] at hlt
      refine RJ.ld q3.so.r (j := j) rfl (by omega) (rng_c1 (q3.rng _ (at_mem (by omega))) ⟨fun hb => by simp at hb, fun _ => ?_⟩)
      rw [w64 (by omega) (by omega)]
      exact ⟨⟨rfl, j + 1, by omega, by omega⟩, by simp only [Int.toNat_natCast]; omega⟩
    · exact K h4 (e0.trans e3)
end Go.Sh

namespace Go.Sh
open Go Go.Lift Go.Que
variable {Z : Nat → Prop} {h h' : Heap} {a r : Addr} {s t u w : Sl} {sc l : List Int} {ins : List Bool}

/-! ### What stays beside what may be turned -/
theorem cell_fr (f : Fr Z h h') {a : Addr} {v : Value} (hc : cell? h a = some v) (hz : ¬ Z a.block) : cell? h' a = some v := by
  have := f.same a.block (cell_lt hc) hz
  unfold cell? at hc ⊢
  rw [this]; exact hc
theorem R.fr {α : Type} {toV : α → Value} {s : Sl} {xs : List α} (hr : R toV h s xs) (f : Fr Z h h') (hz : ∀ b, s.blk = some b → ¬ Z b) : R toV h' s xs := by
  cases ha : s.a with
  | none =>
    refine ⟨hr.len, hr.cap, ?_⟩
    have := hr.cells
    rw [ha] at this ⊢
    exact this
  | some a =>
    refine R.mk' hr.len hr.cap a ha fun i hi => ?_
    obtain ⟨a', ha', hc⟩ := hr.get hi
    rw [ha] at ha'; cases ha'
    exact cell_fr f hc (by rw [addr_add_block]; exact hz _ (by simp [Sl.blk, ha]))
theorem Own.fr {α : Type} {toV : α → Value} {B : Nat} {s : Sl} {xs : List α} (ho : Own toV B h s xs) (f : Fr Z h h') (hz : ∀ b, s.blk = some b → ¬ Z b) : Own toV B h' s xs := by
  refine ⟨R.fr ho.r f hz, ?_⟩
  rcases ho.own with h1 | ⟨b, c, T, h1, h2, h3, h4⟩
  · exact .inl h1
  · refine .inr ⟨b, c, T, h1, h2, ?_, h4⟩
    rw [f.same b (Array.getElem?_eq_some_iff.1 h3).1 (hz b (by simp [Sl.blk, h1]))]
    exact h3
theorem QS.z {Z' : Nat → Prop} (q : QS Z h a s t sc l) (ha : Z' a.block) (hs : ∀ b, s.blk = some b → Z' b) (ht : ∀ b, t.blk = some b → Z' b) (hn : ∀ b, h.size ≤ b → Z' b) : QS Z' h a s t sc l :=
  { q with za := ha, zs := hs, zt := ht, zn := hn }
theorem extFr {h0 : Heap} (e : Ext h0 h) (f : Fr Z h h') (hz : ∀ b, Z b → h0.size ≤ b) : Ext h0 h' :=
  ⟨Nat.le_trans e.size f.size, fun b hb _ => (f.same b (Nat.lt_of_lt_of_le hb e.size) (fun z => by have := hz b z; omega)).trans (e.same b hb (by simp))⟩

/-! ### Rows of truths -/
abbrev OT (h : Heap) (s : Sl) (xs : List Bool) : Prop := Own Value.bool 0 h s xs
def atb (l : List Bool) (i : Nat) : Bool := l.getD i false
theorem atb_get {xs : List Bool} {j : Nat} (hj : j < xs.length) : atb xs j = xs[j] := by
  unfold atb; rw [List.getD_eq_getElem?_getD, List.getElem?_eq_getElem hj]; rfl
theorem atb_set (l : List Bool) (i k : Nat) (x : Bool) (hi : i < l.length) : atb (l.set i x) k = if k = i then x else atb l k := by
  unfold atb
  rw [List.getD_eq_getElem?_getD, List.getD_eq_getElem?_getD, List.getElem?_set]
  by_cases e : i = k
  · subst e; simp [hi]
  · have : k ≠ i := fun h => e h.symm
    simp [e, this]
theorem OT.ld (ho : OT h s ins) {i : Int} {j : Nat} {k : Bool → Prop} (hij : i = (j : Int)) (hj : j < ins.length) (K : k (atb ins j)) : idxS s i 1 fun a => Lift.load Value.bool a h k := by
  subst hij
  refine R.load ho.r (by omega) (by omega) ?_
  rw [atb_get hj] at K
  exact K
theorem OT.st (ho : OT h s ins) {i : Int} {j : Nat} {y : Bool} {k : Heap → Prop} (hij : i = (j : Int)) (hj : j < ins.length)
    (K : ∀ h', OT h' s (ins.set j y) → Keep s.blk h h' → h'.size = h.size → k h') : idxS s i 1 fun a => Lift.store a (Value.bool y) h k := by
  subst hij
  obtain ⟨a, ha, _⟩ := ho.r.get hj
  have := ho.r.len
  refine ⟨a, ha, ⟨by omega, by omega⟩, ?_⟩
  rw [Int.toNat_natCast, Nat.mul_one]
  exact Own.store ho hj ha y K
theorem mk_gen {α : Type} {toV : α → Value} {x : α} {bytes N : Nat} {k : Sl → Heap → Prop} (hb : N * bytes ≤ 2 ^ 46) (K : ∀ s h1, Own toV 0 h1 s (List.replicate N x) → Ext h h1 → s.blk = some h.size → h1.size = h.size + 1 → k s h1) : mkS [toV x] bytes (N : Int) (N : Int) h k := by
  refine ⟨⟨by omega, by omega, by exact_mod_cast hb⟩, fun T => ?_⟩
  simp only [Int.toNat_natCast]
  refine K _ _ ?_ (Ext.push _ _) rfl (by simp)
  have := Own.new (toV := toV) (h := h) (ys := List.replicate N x) (T := T) rfl
  simp only [List.map_replicate, List.length_replicate] at this
  have e : List.flatten (List.replicate N [toV x]) = List.replicate N (toV x) := by simp
  rw [e]
  exact this.mono (Nat.zero_le _)

/-- The document's queue in memory. -/
structure RF (h : Heap) (r : Addr) (u w : Sl) (sc : List Int) (ins : List Bool) : Prop where
  c0 : cell? h (r.add 0) = some (Sl.toV u)
  c1 : cell? h (r.add 1) = some (Sl.toV w)
  so : OJ h u sc
  wo : OT h w ins
  d1 : u.blk ≠ some r.block
  d2 : w.blk ≠ some r.block
  d3 : ∀ b, u.blk = some b → w.blk ≠ some b
  len : ins.length = sc.length
  lens : sc.length ≤ 1048576
theorem RF.fr (q : RF h r u w sc ins) (f : Fr Z h h') (hr : ¬ Z r.block) (hu : ∀ b, u.blk = some b → ¬ Z b) (hw : ∀ b, w.blk = some b → ¬ Z b) : RF h' r u w sc ins :=
  { q with c0 := cell_fr f q.c0 (by rw [addr_add_block]; exact hr), c1 := cell_fr f q.c1 (by rw [addr_add_block]; exact hr), so := Own.fr q.so f hu, wo := Own.fr q.wo f hw }
theorem RF.ext (q : RF h r u w sc ins) (e : Ext h h') : RF h' r u w sc ins := q.fr (Fr.ext (Z := fun _ => False) e) id (fun _ _ => id) (fun _ _ => id)
theorem RF.setU (q : RF h r u w sc ins) {sc' : List Int} (o : OJ h' u sc') (k : Keep u.blk h h') (hl : sc'.length = sc.length) : RF h' r u w sc' ins :=
  { q with
    c0 := cell_keep k q.c0 (by rw [addr_add_block]; exact fun e => q.d1 e.symm)
    c1 := cell_keep k q.c1 (by rw [addr_add_block]; exact fun e => q.d1 e.symm)
    so := o
    wo := q.wo.keep k (fun b hb e => q.d3 b e.symm hb)
    len := by rw [q.len, hl]
    lens := by rw [hl]; exact q.lens }
theorem RF.setW (q : RF h r u w sc ins) {ins' : List Bool} (o : OT h' w ins') (k : Keep w.blk h h') (hl : ins'.length = ins.length) : RF h' r u w sc ins' :=
  { q with
    c0 := cell_keep k q.c0 (by rw [addr_add_block]; exact fun e => q.d2 e.symm)
    c1 := cell_keep k q.c1 (by rw [addr_add_block]; exact fun e => q.d2 e.symm)
    so := q.so.keep k (fun b hb e => q.d3 b hb e.symm)
    wo := o
    len := by rw [hl, q.len] }
theorem RF.ld0 (q : RF h r u w sc ins) {k : Sl → Prop} (K : k u) : nilChk (some r) fun a' => Lift.load Sl.toV (a'.add 0) h k := ⟨r, rfl, u, q.c0, K⟩
theorem RF.ld1 (q : RF h r u w sc ins) {k : Sl → Prop} (K : k w) : nilChk (some r) fun a' => Lift.load Sl.toV (a'.add 1) h k := ⟨r, rfl, w, q.c1, K⟩

theorem RF.new (so : OJ h u sc) (wo : OT h w ins) (d3 : ∀ b, u.blk = some b → w.blk ≠ some b) (hl : ins.length = sc.length) (hs : sc.length ≤ 1048576) (T : Nat) : RF (h.push (.cells [Sl.toV u, Sl.toV w].toArray T (0, 0))) ⟨h.size, 0, none⟩ u w sc ins := by
  have e : Ext h (h.push (.cells [Sl.toV u, Sl.toV w].toArray T (0, 0))) := Ext.push _ _
  have hx : (h.push (.cells [Sl.toV u, Sl.toV w].toArray T (0, 0)))[h.size]? = some (.cells [Sl.toV u, Sl.toV w].toArray T (0, 0)) := by simp
  refine ⟨?_, ?_, so.ext e, wo.ext e, fun hb => ?_, fun hb => ?_, d3, hl, hs⟩
  · rw [addr_add _ _ rfl]; unfold cell?; simp [hx]
  · rw [addr_add _ _ rfl]; unfold cell?; simp [hx]
  · have := (so.lt hb).2; simp at this
  · have := (wo.lt hb).2; simp at this

theorem refNew_spec {n : Int} {N : Nat} {Q : Option Addr → Heap → Prop} (hN : (N : Int) = max n 0) (hle : N ≤ 60)
    (K : ∀ r u w h' ins, RF h' r u w (List.replicate N 0) ins → (∀ k, k < N → atb ins k = true) → Ext h h' → h.size ≤ r.block → r.block < h'.size → (∀ b, u.blk = some b → h.size ≤ b ∧ b < h'.size) → (∀ b, w.blk = some b → h.size ≤ b ∧ b < h'.size) → Q (some r) h') : ref17uNew n h Q := by
  refine seq.cut (fun (t : Int) h1 => t = (N : Int) ∧ h1 = h) ?_ ?_
  · refine ⟨fun hb => ?_, fun hb => ?_⟩
    · simp only [decide_eq_true_eq] at hb; exact ⟨by omega, rfl⟩
    · simp only [decide_eq_false_iff_not] at hb; exact ⟨by omega, rfl⟩
  rintro t h1 ⟨rfl, rfl⟩
  refine seq.cut (fun (x : Option Addr) h2 => ∃ r u w, x = some r ∧ RF h2 r u w (List.replicate N 0) (List.replicate N false) ∧ Ext h1 h2 ∧ h1.size ≤ r.block ∧ r.block < h2.size ∧ (∀ b, u.blk = some b → h1.size ≤ b ∧ b < h2.size) ∧ (∀ b, w.blk = some b → h1.size ≤ b ∧ b < h2.size)) ?_ ?_
  · refine ⟨?_, ?_⟩
    · refine mk_gen (toV := Value.int .i64) (by omega) fun u h2 o2 e2 b2 s2 => mk_gen (toV := Value.bool) (by omega) fun w h3 o3 e3 b3 s3 => ?_
      intro T
      refine ⟨_, u, w, rfl, RF.new (o2.ext e3) o3 (fun b hb hb' => ?_) (by simp) (by simp; omega) T, (e2.trans e3).trans (Ext.push _ _), ?_, by simp, fun b hb => ?_, fun b hb => ?_⟩
      · rw [b2] at hb; rw [b3] at hb'; cases hb; injection hb'; omega
      · show h1.size ≤ h3.size; omega
      · rw [b2] at hb; cases hb; simp; omega
      · rw [b3] at hb; cases hb; simp; omega
    · refine mk_gen (toV := Value.bool) (by omega) fun w h2 o2 e2 b2 s2 => mk_gen (toV := Value.int .i64) (by omega) fun u h3 o3 e3 b3 s3 => ?_
      intro T
      refine ⟨_, u, w, rfl, RF.new o3 (o2.ext e3) (fun b hb hb' => ?_) (by simp) (by simp; omega) T, (e2.trans e3).trans (Ext.push _ _), ?_, by simp, fun b hb => ?_, fun b hb => ?_⟩
      · rw [b3] at hb; rw [b2] at hb'; cases hb; injection hb'; omega
      · show h1.size ≤ h3.size; omega
      · rw [b3] at hb; cases hb; simp; omega
      · rw [b2] at hb; cases hb; simp; omega
  rintro x h2 ⟨r, u, w, rfl, q2, e2, hr, hr', hu, hw⟩
  refine loop.inv (fun (s0 : Int) h3 => ∃ (i : Nat) (ins : List Bool), s0 = (i : Int) ∧ i ≤ N ∧ RF h3 r u w (List.replicate N 0) ins ∧ ins.length = N ∧ (∀ k, k < i → atb ins k = true) ∧ Ext h1 h3 ∧ h3.size = h2.size) (fun s0 _ => N - s0.toNat) ⟨0, _, rfl, Nat.zero_le _, q2, by simp, fun k hk => absurd hk (by omega), e2, rfl⟩ ?_
  rintro s0 h3 ⟨i, ins, rfl, hi, q3, hl, ht, e3, sz⟩
  dsimp only
  refine ⟨fun hlt => ?_, fun hge => ?_⟩
  · simp only [decide_eq_true_eq] at hlt
    refine q3.ld1 (OT.st q3.wo (j := i) rfl (by omega) fun h4 o4 k4 s4 => ?_)
    rw [w64 (by omega) (by omega)]
    rintro i1 rfl
    refine ⟨⟨i + 1, _, by omega, by omega, q3.setW o4 k4 (by simp), by simpa using hl, fun k hk => ?_, ?_, by omega⟩, by simp only [Int.toNat_natCast]; omega⟩
    · rw [atb_set _ _ _ _ (by omega)]
      by_cases e : k = i
      · rw [if_pos e]
      · rw [if_neg e]; exact ht k (by omega)
    · exact ⟨Nat.le_trans e3.size k4.size, fun b hb _ => (k4.same b (Nat.lt_of_lt_of_le hb e3.size) (fun e => by have := (hw b e.symm).1; omega)).trans (e3.same b hb (by simp))⟩
  · simp only [decide_eq_false_iff_not] at hge
    have : i = N := by omega
    subst this
    exact K r u w h3 ins q3 ht e3 hr (by omega) (fun b hb => by have := hu b hb; omega) (fun b hb => by have := hw b hb; omega)

theorem First_spec {Q : Int → Heap → Prop} (q : RF h r u w sc ins)
    (K : ∀ x, (x = -1 ∧ ∀ k, k < ins.length → atb ins k = false) ∨ (∃ b, x = ((b : Nat) : Int) ∧ b < ins.length ∧ atb ins b = true ∧ ∀ k, k < ins.length → atb ins k = true → upto (scf sc) (b : Int) (k : Int)) → Q x h) : ref17uQueue_First (some r) h Q := by
  have hls := q.lens
  have hlen := q.len
  have hsc : ∀ k : Nat, scf sc (k : Int) = at0 sc k := fun k => by unfold scf; rw [Int.toNat_natCast]
  refine loop.inv (fun (s0 : Int × Int) h1 => h1 = h ∧ ∃ v : Nat, s0.2 = (v : Int) ∧ v ≤ ins.length ∧ ((s0.1 = -1 ∧ ∀ k, k < v → atb ins k = false) ∨ (∃ b, s0.1 = ((b : Nat) : Int) ∧ b < v ∧ atb ins b = true ∧ ∀ k, k < v → atb ins k = true → upto (scf sc) (b : Int) (k : Int)))) (fun s0 _ => ins.length - s0.2.toNat)
    ⟨rfl, 0, rfl, Nat.zero_le _, .inl ⟨rfl, fun k hk => absurd hk (by omega)⟩⟩ ?_
  rintro ⟨best, v⟩ h1 ⟨rfl, v, rfl, hv, hb⟩
  dsimp only at hb ⊢
  refine q.ld1 ?_
  rw [q.wo.r.len]
  refine ⟨fun hlt => ?_, fun hge => ?_⟩
  · simp only [decide_eq_true_eq] at hlt
    have hvl : v < ins.length := by omega
    refine seq.cut (fun (nb : Int) h2 => h2 = h1 ∧ ((nb = -1 ∧ ∀ k, k < v + 1 → atb ins k = false) ∨ (∃ b, nb = ((b : Nat) : Int) ∧ b < v + 1 ∧ atb ins b = true ∧ ∀ k, k < v + 1 → atb ins k = true → upto (scf sc) (b : Int) (k : Int)))) ?_ ?_
    · refine seq.cut (fun (t : Bool) h2 => h2 = h1 ∧ (t = true ↔ atb ins v = true ∧ (best < 0 ∨ at0 sc v > at0 sc best.toNat))) ?_ ?_
      · refine q.ld1 (OT.ld q.wo (j := v) rfl hvl ⟨fun hin => ⟨fun hneg => ⟨rfl, ?_⟩, fun hpos => ?_⟩, fun hout => ⟨rfl, ?_⟩⟩)
        · simp only [decide_eq_true_eq] at hneg
          exact ⟨fun _ => ⟨hin, .inl hneg⟩, fun _ => rfl⟩
        · simp only [decide_eq_false_iff_not] at hpos
          rcases hb with ⟨h1, _⟩ | ⟨b, rfl, h2, _⟩
          · omega
          refine q.ld0 (RJ.ld q.so.r (j := v) rfl (by omega) (q.ld0 (RJ.ld q.so.r (j := b) rfl (by omega) ⟨rfl, ?_⟩)))
          rw [Int.toNat_natCast, decide_eq_true_eq]
          exact ⟨fun h => ⟨hin, .inr h⟩, fun h => h.2.elim (fun h => absurd h hpos) id⟩
        · exact ⟨fun h => by simp at h, fun h => by rw [hout] at h; exact absurd h.1 (by simp)⟩
      · rintro t h2 ⟨rfl, ht⟩
        refine ⟨fun htt => ⟨rfl, .inr ⟨v, rfl, Nat.lt_succ_self _, (ht.1 htt).1, fun k hk hik => ?_⟩⟩, fun htf => ⟨rfl, ?_⟩⟩
        · have h3 := (ht.1 htt).2
          by_cases e : k = v
          · subst e; exact upto_refl _
          rcases hb with ⟨_, hno⟩ | ⟨b, hbb, h5, h6, h7⟩
          · rw [hno k (by omega)] at hik; cases hik
          · have h8 := h7 k (by omega) hik
            rcases h3 with h3 | h3
            · omega
            · rw [hbb, Int.toNat_natCast] at h3
              unfold upto aheadOf at *
              rw [hsc, hsc] at *
              omega
        · have hno : ¬ (atb ins v = true ∧ (best < 0 ∨ at0 sc v > at0 sc best.toNat)) := fun h => by rw [ht.2 h] at htf; cases htf
          rcases hb with ⟨h1, h2⟩ | ⟨b, hbb, h5, h6, h7⟩
          · refine .inl ⟨h1, fun k hk => ?_⟩
            by_cases e : k = v
            · subst e
              cases hx : atb ins k
              · rfl
              · exact absurd ⟨hx, .inl (by omega)⟩ hno
            · exact h2 k (by omega)
          · refine .inr ⟨b, hbb, by omega, h6, fun k hk hik => ?_⟩
            by_cases e : k = v
            · subst e
              have : ¬ at0 sc k > at0 sc b := fun h => hno ⟨hik, .inr (by rw [hbb, Int.toNat_natCast]; exact h)⟩
              unfold upto aheadOf
              rw [hsc, hsc]
              omega
            · exact h7 k (by omega) hik
    · rintro nb h2 ⟨rfl, hnb⟩
      rw [w64 (by omega) (by omega)]
      rintro v1 rfl
      exact ⟨⟨rfl, v + 1, by simp, by omega, hnb⟩, by simp only [Int.toNat_natCast]; omega⟩
  · simp only [decide_eq_false_iff_not] at hge
    have : v = ins.length := by omega
    subst this
    refine K _ ?_
    exact hb

theorem refBump_spec {v by0 : Int} {Q : Int → Heap → Prop} (q : RF h r u w sc ins) (rng : ∀ x ∈ sc, 0 ≤ x ∧ x ≤ 1152921504606846976)
    (Kbad : bumpE sc v by0 ≠ 0 → Q (bumpE sc v by0) h)
    (K : bumpE sc v by0 = 0 → ∀ h', RF h' r u w (sc.set v.toNat (scf sc v + by0)) ins → Keep u.blk h h' → Q 0 h') : ref17uQueue_Bump (some r) v by0 h Q := by
  have hlen := q.so.r.len
  refine seq.cut (fun (b : Bool) h2 => h2 = h ∧ (b = false ↔ 0 ≤ v ∧ v < (sc.length : Int))) ?_ ?_
  · refine ⟨fun hb => ⟨rfl, ?_⟩, fun hb => q.ld0 ⟨rfl, ?_⟩⟩
    · simp only [decide_eq_true_eq] at hb
      exact ⟨fun h => (by simp at h), fun h => by omega⟩
    · simp only [decide_eq_false_iff_not] at hb
      rw [hlen]
      simp only [ge_iff_le, decide_eq_false_iff_not]
      omega
  rintro b h2 ⟨rfl, hb⟩
  refine ⟨fun ht => ?_, fun hf => ?_⟩
  · have he : bumpE sc v by0 = 2 := by
      unfold bumpE
      rw [if_neg (fun h => by rw [hb.2 h] at ht; cases ht)]
    rw [← he]
    exact Kbad (by rw [he]; decide)
  have hv := hb.1 hf
  refine ⟨fun hneg => ?_, fun hpos => ?_⟩
  · simp only [decide_eq_true_eq] at hneg
    have he : bumpE sc v by0 = 1 := by unfold bumpE; rw [if_pos hv, if_pos hneg]
    rw [← he]
    exact Kbad (by rw [he]; decide)
  simp only [decide_eq_false_iff_not] at hpos
  refine q.ld0 (RJ.ld q.so.r (j := v.toNat) (by omega) (by omega) ?_)
  have hmem : at0 sc v.toNat ∈ sc := at_mem (by omega)
  have hr := rng _ hmem
  have hsc : at0 sc v.toNat = scf sc v := rfl
  rw [hsc] at hr ⊢
  rw [w64 (by omega) (by omega)]
  refine ⟨fun hbig => ?_, fun hok => ?_⟩
  · simp only [gt_iff_lt, decide_eq_true_eq] at hbig
    have he : bumpE sc v by0 = 6 := by unfold bumpE; rw [if_pos hv, if_neg hpos, if_pos hbig]
    rw [← he]
    exact Kbad (by rw [he]; decide)
  simp only [gt_iff_lt, decide_eq_false_iff_not] at hok
  have he : bumpE sc v by0 = 0 := by unfold bumpE; rw [if_pos hv, if_neg hpos, if_neg hok]
  refine q.ld0 (RJ.ld q.so.r (j := v.toNat) (by omega) (by omega) ?_)
  rw [hsc, w64 (by omega) (by omega)]
  refine OJ.st q.so (j := v.toNat) (by omega) (by omega) fun h1 o1 k1 _ => ?_
  exact K he h1 (q.setU o1 k1 (by simp)) k1

theorem refRight_spec {Q : Bool → Heap → Prop} (q : QS Z h a s t sc l) (hh : Heaped sc l) (K : ∀ h', Ext h h' → Q true h') : ref17uRight (s, t) h Q := by
  refine mem_ext fun h0 e0 => ?_
  have q := q.ext e0
  have hls := q.lens
  have hll := q.lenl
  have l1 := q.so.r.len
  have l2 := q.to.r.len
  refine loop.inv (fun (s0 : Int) h4 => h4 = h0 ∧ ∃ j : Nat, s0 = (j : Int) ∧ j ≤ sc.length) (fun s0 _ => sc.length - s0.toNat) ⟨rfl, 0, rfl, Nat.zero_le _⟩ ?_
  rintro s0 h4 ⟨rfl, j, rfl, hj⟩
  dsimp only
  rw [l1]
  refine ⟨fun hlt => ?_, fun hge => ?_⟩
  · simp only [decide_eq_true_eq] at hlt
    have hr := q.rng _ (at_mem (show j < sc.length by omega))
    refine seq.cut (fun (b : Bool) h5 => b = false ∧ h5 = h4) ?_ ?_
    · refine RJ.ld q.so.r (j := j) rfl (by omega) ⟨fun hb => absurd hb (by simp; omega), fun _ => RJ.ld q.so.r (j := j) rfl (by omega) ⟨by simp; omega, rfl⟩⟩
    · rintro b h5 ⟨rfl, rfl⟩
      refine ⟨fun hb => by simp at hb, fun _ => ?_⟩
      rw [w64 (by omega) (by omega)]
      rintro i rfl
      exact ⟨⟨rfl, j + 1, by omega, by omega⟩, by simp only [Int.toNat_natCast]; omega⟩
  · refine loop.inv (fun (s0 : Int) h5 => h5 = h4 ∧ ∃ j : Nat, s0 = (j : Int) ∧ j ≤ l.length) (fun s0 _ => l.length - s0.toNat) ⟨rfl, 0, rfl, Nat.zero_le _⟩ ?_
    rintro s0 h5 ⟨rfl, i, rfl, hi⟩
    dsimp only
    rw [l2]
    refine ⟨fun hlt => ?_, fun hge => K h5 e0⟩
    simp only [decide_eq_true_eq] at hlt
    have hil : i < l.length := by omega
    have hv := q.mem _ (at_mem hil)
    refine seq.cut (fun (_ : Unit) h6 => h6 = h5) ?_ ?_
    · refine RJ.ld q.to.r (j := i) rfl hil ?_
      refine seq.cut (fun (b : Bool) h6 => b = false ∧ h6 = h5) ?_ ?_
      · exact ⟨fun hb => absurd hb (by simp; omega), fun _ => ⟨by simp; omega, rfl⟩⟩
      rintro b h6 ⟨rfl, rfl⟩
      refine ⟨fun hb => by simp at hb, fun _ => ?_⟩
      refine loop.inv (fun (s0 : Int) h7 => h7 = h6 ∧ ∃ k : Nat, s0 = (k : Int) ∧ k ≤ i) (fun s0 _ => i - s0.toNat) ⟨rfl, 0, rfl, Nat.zero_le _⟩ ?_
      rintro s0 h7 ⟨rfl, k, rfl, hk⟩
      dsimp only
      refine ⟨fun hlt2 => ?_, fun hge2 => ?_⟩
      · simp only [decide_eq_true_eq] at hlt2
        refine RJ.ld q.to.r (j := k) rfl (by omega) ⟨fun heq => ?_, fun _ => ?_⟩
        · simp only [beq_iff_eq] at heq
          have := q.once k i (by omega) hil heq
          omega
        · rw [w64 (by omega) (by omega)]
          rintro k1 rfl
          exact ⟨⟨rfl, k + 1, by omega, by omega⟩, by simp only [Int.toNat_natCast]; omega⟩
      · refine ⟨fun hpos => ?_, fun _ => rfl⟩
        simp only [gt_iff_lt, decide_eq_true_eq] at hpos
        have ei : IntKind.wrap .i64 (Int.tdiv (IntKind.wrap .i64 ((i : Int) - 1)) 2) = (((i - 1) / 2 : Nat) : Int) := by
          rw [w64 (n := (i : Int) - 1) (by omega) (by omega)]
          have : (i : Int) - 1 = ((i - 1 : Nat) : Int) := by omega
          rw [this]
          have : Int.tdiv ((i - 1 : Nat) : Int) 2 = (((i - 1) / 2 : Nat) : Int) := rfl
          rw [this]
          exact w64 (by omega) (by omega)
        rw [ei]
        have hp : (i - 1) / 2 < l.length := by omega
        refine RJ.ld q.to.r (j := (i - 1) / 2) rfl hp ?_
        have hu := hh i (by omega) hil (by omega)
        refine seq.cut (fun (b : Bool) h8 => b = false ∧ h8 = h7) ?_ ?_
        · refine score_ld q (at_mem hp) (score_ld q (at_mem hil) ⟨fun hb => ?_, fun _ => score_ld q (at_mem hp) (score_ld q (at_mem hil) ⟨fun heq => ⟨?_, rfl⟩, fun _ => ⟨rfl, rfl⟩⟩)⟩)
          · simp only [decide_eq_true_eq] at hb
            exact absurd (.inl hb) hu
          · simp only [beq_iff_eq] at heq
            simp only [gt_iff_lt, decide_eq_false_iff_not]
            exact fun hlt3 => hu (.inr ⟨heq.symm, hlt3⟩)
        · rintro b h8 ⟨rfl, rfl⟩
          exact ⟨fun hb => by simp at hb, fun _ => rfl⟩
    · rintro _ h6 rfl
      rw [w64 (by omega) (by omega)]
      rintro i1 rfl
      exact ⟨⟨rfl, i + 1, by omega, by omega⟩, by simp only [Int.toNat_natCast]; omega⟩
end Go.Sh

namespace Go.Sh
open Go Go.Lift Go.Que
variable {Z : Nat → Prop} {h h' : Heap} {a r : Addr} {s t u w : Sl} {sc l : List Int} {ins : List Bool}

/-- A row of acts. -/
structure RA (h : Heap) (s : Sl) (n : Nat) : Prop where
  len : s.len = n
  cells : ∀ j, j < n → ∃ a x, s.a = some a ∧ cells? h (a.add (j * 3)) 3 0 = some (C_i64ui64ui64 x)
theorem cells_extA {h h' : Heap} (e : Ext h h') {a : Addr} : ∀ {n i : Nat} {l : List Value}, cells? h a n i = some l → cells? h' a n i = some l := by
  intro n
  induction n with
  | zero => intro i l h; simpa [cells?] using h
  | succ n ih =>
    intro i l h
    simp only [cells?] at h ⊢
    split at h
    · rename_i v r h1 h2
      simp only [Option.some.injEq] at h; subst h
      rw [cell_keep e h1 (by simp), ih h2]
    · cases h
theorem RA.ext {n : Nat} (q : RA h s n) (e : Ext h h') : RA h' s n :=
  ⟨q.len, fun j hj => by obtain ⟨a, x, h1, h2⟩ := q.cells j hj; exact ⟨a, x, h1, cells_extA e h2⟩⟩
theorem RA.ld {n : Nat} (q : RA h s n) {i : Int} {j : Nat} {k : Int × Int × Int → Prop} (hij : i = (j : Int)) (hj : j < n) (K : ∀ x, k x) : idxS s i 3 fun a => loadS C_i64ui64ui64 3 a h k := by
  subst hij
  obtain ⟨a, x, h1, h2⟩ := q.cells j hj
  have := q.len
  exact ⟨a, h1, ⟨by omega, by omega⟩, x, by simpa using h2, K x⟩

/-- All that is so between two acts. -/
structure QA (h0 h : Heap) (a r : Addr) (s t u w : Sl) (sc l : List Int) (ins : List Bool) (N m : Nat) : Prop where
  q : QS (fun b => h0.size ≤ b ∧ b ≠ r.block ∧ u.blk ≠ some b ∧ w.blk ≠ some b) h a s t sc l
  hh : Heaped sc l
  f : RF h r u w sc ins
  rb : h0.size ≤ r.block
  ub : ∀ b, u.blk = some b → h0.size ≤ b
  wb : ∀ b, w.blk = some b → h0.size ≤ b
  isin : ∀ k, k < N → (atb ins k = true ↔ (k : Int) ∈ l)
  len : sc.length = N
  few : l.length ≤ m
  e : Ext h0 h
variable {h0 : Heap} {N m : Nat}
theorem QA.ext (g : QA h0 h a r s t u w sc l ins N m) (e : Ext h h') : QA h0 h' a r s t u w sc l ins N m :=
  { g with q := g.q.ext e, f := g.f.ext e, e := g.e.trans e }
/-- The queue was turned, by itself. -/
theorem QA.turn (g : QA h0 h a r s t u w sc l ins N m) {t' : Sl} {sc' l' : List Int} (q : QS (fun b => h0.size ≤ b ∧ b ≠ r.block ∧ u.blk ≠ some b ∧ w.blk ≠ some b) h' a s t' sc' l') (f : Fr (fun b => h0.size ≤ b ∧ b ≠ r.block ∧ u.blk ≠ some b ∧ w.blk ≠ some b) h h') :
    RF h' r u w sc ins ∧ Ext h0 h' :=
  ⟨g.f.fr f (fun z => z.2.1 rfl) (fun b hb z => z.2.2.1 hb) (fun b hb z => z.2.2.2 hb), extFr g.e f (fun b z => z.1)⟩
theorem QS.keepR {r : Addr} {u w : Sl} (q : QS (fun b => h0.size ≤ b ∧ b ≠ r.block ∧ u.blk ≠ some b ∧ w.blk ≠ some b) h a s t sc l) {o : Option Nat} (k : Keep o h h') (ho : o = u.blk ∨ o = w.blk) : QS (fun b => h0.size ≤ b ∧ b ≠ r.block ∧ u.blk ≠ some b ∧ w.blk ≠ some b) h' a s t sc l := by
  have key : ∀ b, (h0.size ≤ b ∧ b ≠ r.block ∧ u.blk ≠ some b ∧ w.blk ≠ some b) → some b ≠ o := by
    rintro b ⟨_, _, z1, z2⟩ e
    rcases ho with h | h
    · exact z1 (by rw [← h, ← e])
    · exact z2 (by rw [← h, ← e])
  exact q.keepO k (key _ q.za) (fun b hb => key b (q.zs b hb)) (fun b hb => key b (q.zt b hb))
theorem extKeep {o : Option Nat} (e : Ext h0 h) (k : Keep o h h') (ho : ∀ b, o = some b → h0.size ≤ b) : Ext h0 h' :=
  ⟨Nat.le_trans e.size k.size, fun b hb _ => (k.same b (Nat.lt_of_lt_of_le hb e.size) (fun e' => by have := ho b e'.symm; omega)).trans (e.same b hb (by simp))⟩

theorem QueueActs_holds {n : Int} {acts : Sl} {m : Nat} {Q : Bool → Heap → Prop} (hx : RA h acts m) (K : ∀ h', Ext h h' → Q true h') : law17uQueueActs n acts h Q := by
  refine speaks17uspec fun h0 e0 => ⟨fun hb => by simp at hb, fun _ => ?_⟩
  have hx := hx.ext e0
  have hm := hx.len
  refine seq.cut (fun (b : Bool) h1 => h1 = h0 ∧ (b = false → n ≤ 60 ∧ m ≤ 200)) ?_ ?_
  · refine ⟨fun hb => ⟨rfl, fun h => by cases h⟩, fun hb => ⟨rfl, fun h => ?_⟩⟩
    simp only [gt_iff_lt, decide_eq_false_iff_not] at hb h
    omega
  rintro b h1 ⟨rfl, hsm⟩
  refine ⟨fun _ => K h1 e0, fun hf => ?_⟩
  obtain ⟨hn60, hm200⟩ := hsm hf
  generalize hNN : (max n 0).toNat = N
  have hN60 : N ≤ 60 := by omega
  refine New_spec (N := N) (by omega) fun s t h2 so to e2 bs bt d3 => ?_
  refine refNew_spec (N := N) (by omega) hN60 fun r u w h3 ins f3 tr e3 rb rb' ub wb => ?_
  have hil : ins.length = N := by rw [f3.len]; simp
  refine lay_spec h1 (so.ext e3) (to.ext e3) (e2.trans e3) (fun b hb => ⟨(bs b hb).1, Nat.lt_of_lt_of_le (bs b hb).2 e3.size⟩) (fun b hb => ⟨(bt b hb).1, Nat.lt_of_lt_of_le (bt b hb).2 e3.size⟩) d3 (fun x hx => by rw [List.eq_of_mem_replicate hx]; decide) (fun v hv => by have := upN_mem.1 hv; simpa using this) (once_upN N) (by simp; omega) (by rw [upN_len]; omega) fun a h4 q4 e4 ab e34 => ?_
  have hz2 : h1.size ≤ h2.size := e2.size
  have q4' : QS (fun b => h1.size ≤ b ∧ b ≠ r.block ∧ u.blk ≠ some b ∧ w.blk ≠ some b) h4 a s t (List.replicate N 0) (upN N) := by
    refine q4.z ⟨by rw [ab]; have := e3.size; omega, by rw [ab]; omega, fun e => ?_, fun e => ?_⟩ (fun b hb => ⟨(bs b hb).1, ?_, fun e => ?_, fun e => ?_⟩) (fun b hb => ⟨(bt b hb).1, ?_, fun e => ?_, fun e => ?_⟩) (fun b hb => ⟨?_, ?_, fun e => ?_, fun e => ?_⟩)
    · have := (ub _ e).2; omega
    · have := (wb _ e).2; omega
    · have := (bs b hb).2; omega
    · have := (bs b hb).2; have := (ub _ e).1; omega
    · have := (bs b hb).2; have := (wb _ e).1; omega
    · have := (bt b hb).2; omega
    · have := (bt b hb).2; have := (ub _ e).1; omega
    · have := (bt b hb).2; have := (wb _ e).1; omega
    · have := e4.size; omega
    · have := e34.size; omega
    · have := (ub _ e).2; have := e34.size; omega
    · have := (wb _ e).2; have := e34.size; omega
  have g4 : QA h1 h4 a r s t u w (List.replicate N 0) (upN N) ins N N :=
    ⟨q4', heaped_upN N, f3.ext e34, by omega, fun b hb => by have := (ub b hb).1; omega, fun b hb => by have := (wb b hb).1; omega, fun k hk => by rw [tr k hk, upN_mem]; exact ⟨fun _ => by omega, fun _ => rfl⟩, by simp, by rw [upN_len]; exact Nat.le_refl _, e4⟩
  clear q4 q4' f3 tr hil so to
  refine loop.inv (fun (s0 : Int) h5 => ∃ (i : Nat) (t : Sl) (sc l : List Int) (ins : List Bool), s0 = (i : Int) ∧ i ≤ m ∧ QA h1 h5 a r s t u w sc l ins N (N + i)) (fun s0 _ => m - s0.toNat) ⟨0, t, _, _, ins, rfl, Nat.zero_le _, g4⟩ ?_
  rintro s0 h5 ⟨i, t, sc, l, ins, rfl, hi, g5⟩
  dsimp only
  rw [hm]
  refine ⟨fun hlt => ?_, fun _ => K h5 (e0.trans g5.e)⟩
  simp only [decide_eq_true_eq] at hlt
  refine RA.ld (hx.ext g5.e) (j := i) rfl (by omega) ?_
  rintro ⟨what, v, by0⟩
  dsimp only
  refine mem_ext fun h6 e6 => ?_
  have g6 := g5.ext e6
  clear g5 g4
  have hil : ins.length = N := by rw [g6.f.len, g6.len]
  have hwl := g6.f.wo.r.len
  refine seq.cut (fun (b : Bool) h7 => h7 = h6 ∧ (b = true ↔ 0 ≤ v ∧ v < (N : Int))) ?_ ?_
  · refine ⟨fun hv => g6.f.ld1 ?_, fun hv => ⟨rfl, ?_⟩⟩
    · simp only [ge_iff_le, decide_eq_true_eq] at hv
      rintro th rfl
      refine ⟨rfl, ?_⟩
      rw [hwl, hil, decide_eq_true_eq]
      exact ⟨fun h => ⟨hv, h⟩, fun h => h.2⟩
    · simp only [ge_iff_le, decide_eq_false_iff_not] at hv
      simp only [Bool.false_eq_true, false_iff]
      exact fun h => hv h.1
  rintro th h7 ⟨rfl, hth⟩
  have hN : N = sc.length := g6.len.symm
  refine seq.cut (fun (_ : Unit) h8 => ∃ (t : Sl) (sc l : List Int) (ins : List Bool), QA h1 h8 a r s t u w sc l ins N (N + i + 1)) ?_ ?_
  · refine ⟨fun _ => ?_, fun _ => ⟨fun _ => ?_, fun _ => ⟨fun _ => ?_, fun _ => ?_⟩⟩⟩
    · -- one is put in
      refine Push_spec g6.q g6.hh (by have := g6.few; omega) (fun hno => ?_) fun hv t' l' h8 q8 f8 hl8 m8 hh8 => ?_
      · have : th = false := by
          cases hb : th
          · rfl
          · have := hth.1 hb; rw [← g6.len] at this; exact absurd this hno
        subst this
        refine ⟨fun hb => by simp at hb, fun _ => ⟨fun hb => by simp at hb, fun _ => ⟨t, sc, l, ins, { g6 with few := by have := g6.few; omega }⟩⟩⟩
      · have : th = true := hth.2 (by rw [hN]; exact hv)
        subst this
        obtain ⟨f9, e9⟩ := g6.turn q8 f8
        refine ⟨fun hb => by simp at hb, fun _ => ⟨fun _ => f9.ld1 (OT.st f9.wo (j := v.toNat) (by omega) (by omega) fun h9 o9 k9 _ => ?_), fun hb => by simp at hb⟩⟩
        refine ⟨t', sc, l', _, q8.keepR k9 (.inr rfl), hh8, f9.setW o9 k9 (by simp), g6.rb, g6.ub, g6.wb, fun k hk => ?_, g6.len, by have := g6.few; omega, extKeep e9 k9 g6.wb⟩
        rw [atb_set _ _ _ _ (by omega), m8]
        by_cases e : k = v.toNat
        · rw [if_pos e]; exact ⟨fun _ => .inr (by omega), fun _ => rfl⟩
        · rw [if_neg e, g6.isin k hk]; exact ⟨.inl, fun h => h.elim id fun h => absurd h (by omega)⟩
    · -- one is taken out
      by_cases hl0 : l.length = 0
      · refine Pop_empty g6.q hl0 (First_spec g6.f fun x hx => ?_)
        have hx1 : x = -1 := by
          rcases hx with h | ⟨b, rfl, hb, hb2, _⟩
          · exact h.1
          · have := (g6.isin b (by omega)).1 hb2
            rw [List.eq_nil_of_length_eq_zero hl0] at this; cases this
        subst hx1
        refine seq.cut (fun (b : Bool) h8 => b = false ∧ h8 = h7) ?_ ?_
        · exact ⟨fun hb => by simp at hb, fun _ => ⟨fun hb => by simp at hb, fun _ => ⟨fun _ => ⟨by simp, rfl⟩, fun hb => by simp at hb⟩⟩⟩
        · rintro b h8 ⟨rfl, rfl⟩
          exact ⟨fun hb => by simp at hb, fun _ => ⟨fun hb => by simp at hb, fun _ => ⟨t, sc, l, ins, { g6 with few := by have := g6.few; omega }⟩⟩⟩
      · have hlp : 0 < l.length := by omega
        have hmem := at_mem hlp
        have hrv := g6.q.mem _ hmem
        have hfirst : ∀ x ∈ l, upto (scf sc) (at0 l 0) x := by
          intro x hx
          obtain ⟨k, hk, rfl⟩ := mem_at hx
          exact From.first g6.hh k hk
        refine Pop_spec g6.q g6.hh hlp fun t' l' h8 q8 f8 hl8 m8 hh8 _ => ?_
        generalize at0 l 0 = v0 at *
        obtain ⟨f9, e9⟩ := g6.turn q8 f8
        refine First_spec f9 fun x hx => ?_
        have hx1 : x = v0 := by
          rcases hx with ⟨_, hno⟩ | ⟨b, rfl, hb, hb2, hb3⟩
          · have := (g6.isin v0.toNat (by omega)).2 (by rw [Int.toNat_of_nonneg hrv.1]; exact hmem)
            rw [hno _ (by omega)] at this; cases this
          · have h1 := hfirst _ ((g6.isin b (by omega)).1 hb2)
            have h2 := hb3 v0.toNat (by omega) ((g6.isin v0.toNat (by omega)).2 (by rw [Int.toNat_of_nonneg hrv.1]; exact hmem))
            rw [Int.toNat_of_nonneg hrv.1] at h2
            exact upto_anti h2 h1
        subst hx1
        refine seq.cut (fun (b : Bool) h9 => b = false ∧ h9 = h8) ?_ ?_
        · have hd : decide (x ≥ 0) = true := by simpa using hrv.1
          rw [hd]
          exact ⟨fun hb => by simp at hb, fun _ => ⟨fun _ => ⟨fun hb => by simp at hb, fun _ => ⟨fun hb => by simp at hb, fun _ => ⟨rfl, rfl⟩⟩⟩, fun hb => by simp at hb⟩⟩
        · rintro b h9 ⟨rfl, rfl⟩
          refine ⟨fun hb => by simp at hb, fun _ => ⟨fun _ => f9.ld1 (OT.st f9.wo (j := x.toNat) (by omega) (by omega) fun h10 o9 k9 _ => ?_), fun hb => by simp at hb⟩⟩
          refine ⟨t', sc, l', _, q8.keepR k9 (.inr rfl), hh8, f9.setW o9 k9 (by simp), g6.rb, g6.ub, g6.wb, fun k hk => ?_, g6.len, by have := g6.few; omega, extKeep e9 k9 g6.wb⟩
          rw [atb_set _ _ _ _ (by omega), m8]
          by_cases e : k = x.toNat
          · rw [if_pos e]; exact ⟨fun h => by simp at h, fun h => absurd (by omega) h.2⟩
          · rw [if_neg e, g6.isin k hk]; exact ⟨fun h => ⟨h, by omega⟩, fun h => h.1⟩
    · -- a score is raised
      refine Bump_spec g6.q g6.hh (fun hb => ?_) fun hb l' h8 q8 f8 hl8 m8 hh8 => ?_
      · refine refBump_spec g6.f g6.q.rng (fun _ => ⟨fun hc => by simp at hc, fun _ => ⟨t, sc, l, ins, { g6 with few := by have := g6.few; omega }⟩⟩) fun hb2 => absurd hb2 hb
      · obtain ⟨f9, e9⟩ := g6.turn q8 f8
        refine refBump_spec f9 g6.q.rng (fun hb2 => absurd hb hb2) fun _ h9 f10 k9 => ⟨fun hc => by simp at hc, fun _ => ?_⟩
        exact ⟨t, _, l', ins, q8.keepR k9 (.inl rfl), hh8, f10, g6.rb, g6.ub, g6.wb, fun k hk => by rw [g6.isin k hk, m8], by simpa using g6.len, by have := g6.few; omega, extKeep e9 k9 g6.ub⟩
    · -- all are halved
      refine Halve_spec g6.q fun l' h8 q8 f8 hl8 m8 hh8 => ?_
      obtain ⟨f9, e9⟩ := g6.turn q8 f8
      refine f9.ld0 ?_
      dsimp only
      rw [f9.so.r.len]
      refine loop.inv (fun (s0 : Int) h9 => ∃ j : Nat, s0 = (j : Int) ∧ j ≤ sc.length ∧ RF h9 r u w (halfTo sc j) ins ∧ QS (fun b => h1.size ≤ b ∧ b ≠ r.block ∧ u.blk ≠ some b ∧ w.blk ≠ some b) h9 a s t (halves sc) l' ∧ Ext h1 h9) (fun s0 _ => sc.length - s0.toNat) ⟨0, rfl, Nat.zero_le _, by simpa [halfTo] using f9, q8, e9⟩ ?_
      rintro s0 h9 ⟨j, rfl, hj, f10, q10, e10⟩
      dsimp only
      refine ⟨fun hlt => ?_, fun hge => ?_⟩
      · simp only [decide_eq_true_eq] at hlt
        refine f10.ld0 (RJ.ld f10.so.r (j := j) rfl (by rw [halfTo_len]; omega) ?_)
        have hat : at0 (halfTo sc j) j = at0 sc j := by rw [halfTo_at (by omega), if_neg (by omega)]
        rw [hat, half_eq (g6.q.rng _ (at_mem (by omega)))]
        refine OJ.st f10.so (j := j) rfl (by rw [halfTo_len]; omega) fun h11 o11 k11 _ => ?_
        rw [halfTo_succ (by omega)] at o11
        rw [w64 (by omega) (by omega)]
        exact ⟨⟨j + 1, by omega, by omega, f10.setU o11 k11 (by rw [halfTo_len, halfTo_len]), q10.keepR k11 (.inl rfl), extKeep e10 k11 g6.ub⟩, by simp only [Int.toNat_natCast]; omega⟩
      · simp only [decide_eq_false_iff_not] at hge
        have : j = sc.length := by omega
        subst this
        rw [halfTo_all] at f10
        exact ⟨t, _, l', ins, q10, hh8, f10, g6.rb, g6.ub, g6.wb, fun k hk => by rw [g6.isin k hk, m8], by rw [← g6.len]; simp [halves], by have := g6.few; omega, e10⟩
  · clear hN hth hwl hil g6
    rintro _ h8 ⟨t, sc, l, ins, g8⟩
    have hil : ins.length = N := by rw [g8.f.len, g8.len]
    have hwl := g8.f.wo.r.len
    refine seq.cut (fun (b : Bool) h9 => b = false ∧ Ext h8 h9) ?_ ?_
    · refine g8.q.ldS (QRight_spec g8.q g8.hh fun h9 e9 => ⟨fun hb => by simp at hb, fun _ => ?_⟩)
      have g9 := g8.ext e9
      refine g9.q.ldS (refRight_spec g9.q g9.hh fun h10 e10 => ⟨fun hb => by simp at hb, fun _ => ?_⟩)
      have g10 := g9.ext e10
      refine ⟨s, g10.q.c0, g10.f.ld0 ⟨?_, e9.trans e10⟩⟩
      rw [g10.q.so.r.len, g10.f.so.r.len]; simp
    · rintro b h9 ⟨rfl, e9⟩
      have g9 := g8.ext e9
      refine ⟨fun hb => by simp at hb, fun _ => g9.f.ld1 ?_⟩
      rw [hwl, hil]
      refine loop.inv (fun (s0 : Int) h10 => ∃ k : Nat, s0 = (k : Int) ∧ k ≤ N ∧ QA h1 h10 a r s t u w sc l ins N (N + i + 1)) (fun s0 _ => N - s0.toNat) ⟨0, rfl, Nat.zero_le _, g9⟩ ?_
      rintro s0 h10 ⟨k, rfl, hk, g10⟩
      dsimp only
      have hl10 := g10.len
      refine ⟨fun hlt => ?_, fun hge => ?_⟩
      · simp only [decide_eq_true_eq] at hlt
        refine OT.ld g10.f.wo (j := k) rfl (by omega) ?_
        refine seq.cut (fun (b : Bool) h11 => b = false ∧ Ext h10 h11) ?_ ?_
        · refine g10.q.ldS (Has_spec g10.q.to.r g10.q.lenl fun b h11 hb e11 => ⟨fun hc => ?_, fun _ => ?_⟩)
          · have : b = atb ins k := by
              rw [← g10.isin k (by omega)] at hb
              cases b <;> cases hx : atb ins k <;> simp_all
            rw [this] at hc; simp at hc
          · have g11 := g10.ext e11
            refine ⟨s, g11.q.c0, RJ.ld g11.q.so.r (j := k) rfl (by omega) (g11.f.ld0 (RJ.ld g11.f.so.r (j := k) rfl (by omega) ⟨by simp, e11⟩))⟩
        · rintro b h11 ⟨rfl, e11⟩
          refine ⟨fun hb => by simp at hb, fun _ => ?_⟩
          rw [w64 (by omega) (by omega)]
          exact ⟨⟨k + 1, by omega, by omega, g10.ext e11⟩, by simp only [Int.toNat_natCast]; omega⟩
      · refine seq.cut (fun (b : Bool) h11 => b = false ∧ Ext h10 h11) ?_ ?_
        · refine g10.q.ldS (Has_spec g10.q.to.r g10.q.lenl fun b h11 hb e11 => ⟨fun hc => ?_, fun _ => ?_⟩)
          · have := (g10.q.mem _ (hb.1 hc)).1; omega
          · have g11 := g10.ext e11
            refine g11.q.ldS (g11.f.ld1 (Has_spec g11.q.to.r g11.q.lenl fun b2 h12 hb2 e12 => ⟨?_, e11.trans e12⟩))
            cases hx : b2
            · rfl
            · have := (g11.q.mem _ (hb2.1 hx)).2
              rw [hwl, hil] at this
              omega
        · rintro b h11 ⟨rfl, e11⟩
          refine ⟨fun hb => by simp at hb, fun _ => ?_⟩
          rw [w64 (by omega) (by omega)]
          exact ⟨⟨i + 1, t, sc, l, ins, by omega, by omega, g10.ext e11⟩, by simp only [Int.toNat_natCast]; omega⟩
end Go.Sh
