/-
  Laws that the proof of this claim's statement leans on, each proved under the conditions that it states.
-/
import Derived.Test.YtmcfhickfcmkkaaGreatDoorUA
set_option linter.unusedVariables false
set_option linter.unusedSimpArgs false
namespace Go.Sh
open Go Go.Lift
def atD (vs : DL) (v : Int) : Rat × Rat := vs.getD v.toNat (0, 0)
def valV (f : Int → Rat × Rat) (l : PL) : Rat × Rat := (valL (fun v => (f v).1) l, valL (fun v => (f v).2) l)
theorem af1 {f : Int → Rat × Rat} : valV f [] = (0, 0) := rfl
theorem x8 {f : Int → Rat × Rat} {l : PL} {m : Int × Rat} : valV f (l ++ [m]) = addD (valV f l) (scD m.2 (f m.1)) := by
  unfold valV addD scD
  rw [wX, wX]
theorem wq : szD (0, 0) = 0 := by unfold szD; simp [alw]
theorem afX (p q : Rat × Rat) : szD (addD p q) ≤ szD p + szD q + 2 := by
  have := ako p.1 q.1; have := ako p.2 q.2
  unfold szD addD at *; simp only; omega
theorem acx (c : Rat) (p : Rat × Rat) : szD (scD c p) ≤ szQ c + szD p + 2 := by
  have := ajZ c p.1; have := ajZ c p.2
  unfold szD scD at *; simp only; omega
theorem ahx {vs : DL} {v : Int} (h : v.toNat < vs.length) : atD vs v = vs[v.toNat] := by
  unfold atD; rw [List.getD_eq_getElem?_getD, List.getElem?_eq_getElem h]; rfl
theorem alN {vs : DL} {B : Nat} (hs : ∀ v ∈ vs, szD v ≤ B) (v : Int) : szD (atD vs v) ≤ B := by
  unfold atD; rw [List.getD_eq_getElem?_getD]
  by_cases h : v.toNat < vs.length
  · rw [List.getElem?_eq_getElem h]; exact hs _ (List.getElem_mem h)
  · rw [List.getElem?_eq_none (by omega)]; show szD (0, 0) ≤ B; rw [wq]; omega
def inV (n : Nat) (l : PL) : Prop := ∀ m ∈ l, 0 ≤ m.1 ∧ m.1 < (n : Int)
section
variable {h0 h : Heap} {a : Addr} {lim : Nat}
end
theorem afZ {p q : Rat} : cmpR p q = 0 ↔ p = q := by
  unfold cmpR
  rw [Int.sign_eq_zero_iff_zero, Rat.num_eq_zero]
  constructor
  · intro h; have : p = (p - q) + q := by grind
    rw [this, h]; grind
  · rintro rfl; grind
theorem yv {p q : Rat × Rat} : (cmpD p q == 0) = decide (p = q) := by
  rw [Bool.eq_iff_iff, beq_iff_eq, decide_eq_true_iff, Prod.ext_iff, ← afZ, ← afZ]
  unfold cmpD
  split
  · rename_i h; simp [h]
  · rename_i h; simp [h]
theorem acr {h : Heap} {x y : X6} {p q : Rat × Rat} {Q : Bool → Heap → Prop} (hx : DQ h x p) (hy : DQ h y q) (hs : szD p + szD q ≤ 3000) (h0 : 0 < h.size) (K : ∀ h', Ext h h' → Q (decide (p = q)) h') : lW x y h Q := by
  refine ak fun h1 e1 => adL (x := x) (y := y) (hx.ext e1) (hy.ext e1) hs (by have := e1.size; omega) fun h2 e2 => ?_
  rw [yv]
  exact K h2 (e1.trans e2)
theorem gQ {h : Heap} {x : X3} {q : Rat} {Q : Bool → Heap → Prop} (ht : Tab h) (hq : RQ h x q) (hs : szQ q ≤ 1000) (K : ∀ h', Ext h h' → Q true h') : bq x h Q := by
  obtain ⟨xs, ys, hX, _, _, l1, l2⟩ := hq.xr
  have := eZ q; have := abu q
  refine nE ht hX (by omega) (by omega) fun b h' hb e => ?_
  rw [hb.2 ⟨q, hq⟩]
  exact K h' e
theorem ahN {h : Heap} {y : E7} {m : Eg} {Q : Bool → Heap → Prop} (ht : Tab h) (q : EQ h y m) (hs : szD m.2 ≤ 1000) (K : ∀ h', Ext h h' → Q (decide (m.1 = 0 → m.2 = (0, 0))) h') : oX y h Q := by
  obtain ⟨q1, q2⟩ := q
  have hz : 0 < h.size := by have := _root_.Go.Lift.R.lt ht rfl (by decide); omega
  refine ak fun h1 e1 => ⟨fun h0 => ?_, fun h0 => ?_⟩
  · have h0 : m.1 = 0 := by rw [← q1]; simpa using h0
    have hcond : decide (m.1 = 0 → m.2 = (0, 0)) = decide (m.2 = (0, 0)) := by rw [decide_eq_decide]; simp [h0]
    rw [hcond] at K
    refine seq.cut (fun b h2 => Ext h h2 ∧ b = decide (m.2 = (0, 0))) ?_ fun b h2 ⟨e2, hb⟩ => by rw [hb]; exact K h2 e2
    refine acr (x := eD y) (y := d0) (q2.ext e1) DQ.zero (by rw [wq]; omega) (by have := e1.size; omega) fun h2 e2 => ⟨fun hb => ⟨e1.trans e2, ?_⟩, fun hb => ⟨e1.trans e2, hb.symm⟩⟩
    have hb : m.2 = (0, 0) := by simpa using hb
    have d1 : y.2.2.2.1.len = 0 := q2.a.den.len_zero.2 (by rw [hb]; rfl)
    have d2 : y.2.2.2.2.2.2.len = 0 := q2.b.den.len_zero.2 (by rw [hb]; rfl)
    rw [d1, d2, w64 (by simp) (by simp), hb]; rfl
  · have h0 : ¬ m.1 = 0 := by rw [← q1]; simpa using h0
    have hcond : decide (m.1 = 0 → m.2 = (0, 0)) = true := decide_eq_true fun h => absurd h h0
    rw [hcond] at K
    unfold szD at hs
    refine seq.cut (fun b h2 => Ext h h2 ∧ b = true) ?_ fun b h2 ⟨e2, hb⟩ => by rw [hb]; exact K h2 e2
    refine gQ (x := dA (eD y)) (R.ext ht e1) (q2.ext e1).a (by omega) fun h2 e2 => ⟨fun _ => ?_, fun h => by cases h⟩
    exact gQ (x := dB (eD y)) (R.ext ht (e1.trans e2)) (q2.ext (e1.trans e2)).b (by omega) fun h3 e3 => ⟨e1.trans (e2.trans e3), rfl⟩
end Go.Sh

namespace Go.Sh
open Go Go.Lift
section
variable {α : Type} {toC : α → List Value} {sz B : Nat} {h h' : Heap} {s x : Sl} {xs ys : List α}
theorem RS.flatR (hsz : ∀ x, (toC x).length = sz) (h0 : 0 < sz) (hone : ∀ x, bT (toC x) = true) (hr : RS toC sz h s xs) (hc : s.len ≤ s.cap) : ∃ zs : List One, flat toC xs = zs.map Subtype.val ∧ R (Subtype.val : One → Value) h (Sl.sc sz s) zs := by
  have ho : bT (flat toC xs) = true := by
    unfold flat bT
    rw [List.all_flatten, List.all_eq_true]
    intro l hl
    obtain ⟨y, _, rfl⟩ := List.mem_map.1 hl
    exact hone y
  obtain ⟨zs, hz⟩ := ad5 ho
  have hlen := congrArg List.length hz
  rw [nr hsz, List.length_map] at hlen
  refine ⟨zs, hz, ?_⟩
  by_cases hx : xs.length = 0
  · have : xs = [] := List.eq_nil_of_length_eq_zero hx
    subst this
    have : zs = [] := List.eq_nil_of_length_eq_zero (by simpa using hlen.symm)
    subst this
    have hl := hr.len
    refine ⟨by simp [Sl.sc, hl], by simp [Sl.sc]; exact Nat.mul_le_mul_right _ hc, ?_⟩
    simp only [Sl.sc, hl, List.length_nil, Nat.zero_mul]
    cases s.a <;> rfl
  · obtain ⟨a, ha, _⟩ := hr.cells 0 (by omega)
    refine R.mk' (by simp only [Sl.sc]; rw [hr.len]; exact hlen) (Nat.mul_le_mul_right _ hc) a ha fun j hj => ?_
    have hj2 : j < xs.length * sz := by omega
    have hi : j / sz < xs.length := by rw [Nat.div_lt_iff_lt_mul h0]; exact hj2
    have hr' : j % sz < sz := Nat.mod_lt _ h0
    obtain ⟨a', ha', hcc⟩ := hr.cells (j / sz) hi
    rw [ha] at ha'; cases ha'
    have hg := cells?_get _ _ _ hcc (j % sz) (by rw [hsz]; exact hr')
    have he : j / sz * sz + j % sz = j := by rw [Nat.mul_comm]; exact Nat.div_add_mod j sz
    rw [b7, Nat.zero_add, he] at hg
    rw [hg]
    have h3 := af9 hsz xs (j / sz) hi (j % sz) hr'
    rw [he, hz, List.getElem?_map, List.getElem?_eq_getElem hj, List.getElem?_eq_getElem (by rw [hsz]; exact hr')] at h3
    simpa using h3.symm
theorem OwnS.cap (ho : OwnS toC sz B h s xs) (h0 : 0 < sz) : s.len ≤ s.cap := by
  obtain ⟨_, zs, _, h2⟩ := ho
  have := h2.r.cap
  simp only [Sl.sc] at this
  exact Nat.le_of_mul_le_mul_right this h0
theorem OwnS.appendR {bytes : Nat} {k : Sl → Heap → Prop} (ho : OwnS toC sz B h s xs) (hsz : ∀ x, (toC x).length = sz) (h0 : 0 < sz) (hone : ∀ x, bT (toC x) = true) (hB : B ≤ h.size) (hx : RS toC sz h x ys) (hc : x.len ≤ x.cap)
    (hb : (xs.length + ys.length) * bytes ≤ 2 ^ 46) (K : ∀ s' h', OwnS toC sz B h' s' (xs ++ ys) → Keep s.blk h h' → (s'.blk = s.blk ∨ ∀ b, s'.blk = some b → h.size ≤ b) → k s' h') : aP sz bytes s x h k := by
  obtain ⟨hl, us, h1, h2⟩ := ho
  obtain ⟨zs, hz, hR⟩ := RS.flatR hsz h0 hone hx hc
  refine aa0 h0 (by rw [hl, hx.len]; exact hb) ?_
  refine h2.append hB hR (fun x => x.2) (by simp) fun s' h' ho' k' hblk s'' hs'' => ?_
  subst hs''
  refine K s'' h' ⟨?_, us ++ zs, by rw [xq, h1, List.map_append, hz], ho'⟩ (by simpa [Sl.sc_blk] using k') ?_
  · have h3 := ho'.r.len
    have h4 := h2.r.len
    have h5 := hR.len
    have hl2 := hx.len
    simp only [Sl.sc, List.length_append] at h3 h4 h5
    have : s''.len * sz = (s.len + x.len) * sz := by rw [h3, ← h4, ← h5, Nat.add_mul]
    have := Nat.eq_of_mul_eq_mul_right h0 this
    simp [this, hl, hl2]
  · rcases hblk with hblk | ⟨hblk, _⟩
    · left; simpa [Sl.sc_blk] using hblk
    · right; intro b hb'
      rw [Sl.sc_blk, hb'] at hblk
      cases hblk
      omega
end
theorem one7 (e : E7) : bT (C7 e) = true := rfl
theorem OwnS.row {α β : Type} {toC : α → List Value} {sz B : Nat} {R : Heap → α → β → Prop} {h : Heap} {s : Sl} {ys : List α} {ms : List β} (ho : OwnS toC sz B h s ys) (hsz : ∀ x, (toC x).length = sz) (h0 : 0 < sz) (ha : All2 (R h) ys ms) : RowQ toC sz R h s ms :=
  ⟨ho.cap h0, ys, ho.rs hsz h0, ha⟩
theorem agG {h : Heap} {m : Nat} {Q : Sl → Heap → Prop} (hm : m ≤ 1048576) (K : ∀ r h', OwnS C7 7 h.size h' r ([] : List E7) → Ext h h' → Q r h') : du Sl.nil (m : Int) h Q := by
  refine seq.cut (fun (_ : Unit) h2 => h2 = h) ⟨fun hc => ?_, fun _ => rfl⟩ ?_
  · simp only [decide_eq_true_eq] at hc; omega
  rintro _ h2 rfl
  refine seq.cut (fun (r : Sl) h3 => OwnS C7 7 h2.size h3 r ([] : List E7) ∧ Ext h2 h3) ?_ (fun r h3 ⟨a, b⟩ => K r h3 a b)
  rintro m1 rfl
  have e1 : IntKind.wrap .i64 ((m : Int) - IntKind.wrap .i64 (((Sl.nil.cap : Nat) : Int) - ((Sl.nil.len : Nat) : Int))) = (m : Int) := by
    simp only [Sl.nil]
    rw [w64 (n := ((0 : Nat) : Int) - ((0 : Nat) : Int)) (by omega) (by omega), w64 (by omega) (by omega)]; omega
  rw [e1]
  refine ⟨fun hp => ?_, fun _ => ⟨⟨rfl, [], rfl, by simpa [Sl.sc, Sl.nil] using (Own.nil (toV := (Subtype.val : One → Value)) (B := h2.size) (h := h2))⟩, Keep.refl _ _⟩⟩
  simp only [gt_iff_lt, decide_eq_true_eq] at hp
  refine ⟨⟨by simp [Sl.nil], by simp [Sl.nil]⟩, ⟨by simp, .inr (by simp [Sl.nil])⟩, ⟨by simp, by simp⟩, ?_⟩
  simp only [Option.getD_none, Option.getD_some, Int.toNat_zero, Sl.nil]
  refine ⟨⟨hp, by omega, by simp; omega⟩, ?_, fun hc => ?_, fun _ => ⟨[], rfl, fun cap T rest hcap hrest => ?_⟩⟩
  · simp [bT, one, Sl.toV]
  · simp only [Int.toNat_natCast] at hc; omega
  · simp only [Int.toNat_natCast] at hcap hrest ⊢
    refine ⟨⟨by simp, by simp⟩, ⟨by simp, .inr (by simp)⟩, ⟨by simp, by simp⟩, ?_, Ext.push _ _⟩
    simp only [Option.getD_none, Option.getD_some, Int.toNat_zero, Nat.sub_zero]
    refine ⟨rfl, [], rfl, ⟨by simp [Sl.sc], by simp [Sl.sc], ?_⟩, .inr ⟨h2.size, _, T, ?_, Nat.le_refl _, by simp; rfl, ?_⟩⟩
    · simp only [Sl.sc, Nat.zero_mul]; split <;> rfl
    · simp only [Sl.sc]; split <;> simp [Addr.add]
    · simp only [Sl.sc]
      simp at hrest ⊢
      omega
theorem ada {h : Heap} {s t : Sl} {ms ns : List Eg} {u : Sl} {Q : Sl → Heap → Prop} (q1 : RowQ C7 7 EQ h s ms) (q2 : RowQ C7 7 EQ h t ns) (hu : R Sl.toV h u [s, t]) (l1 : ms.length ≤ 1000) (l2 : ns.length ≤ 1000)
    (K : ∀ r h', RowQ C7 7 EQ h' r (ms ++ ns) → Ext h h' → Q r h') : cN u h Q := by
  have hsl := hu.len
  have c1 := q1.len; have c2 := q2.len
  have ld : ∀ {h' : Heap} {i : Nat} {k : Sl → Prop}, Ext h h' → i < 2 → (i = 0 → k s) → (i = 1 → k t) → idxS u (i : Int) 1 fun a => Lift.load Sl.toV a h' k := by
    intro h' i k e hi k0 k1
    refine R.load (R.ext hu e) (by omega) (by simp; omega) ?_
    match i, hi with
    | 0, _ => exact k0 rfl
    | 1, _ => exact k1 rfl
  refine loop.inv (fun (z : Int × Int) h2 => h2 = h ∧ ∃ i : Nat, z.2 = (i : Int) ∧ i ≤ 2 ∧ z.1 = ((if i = 0 then 0 else if i = 1 then ms.length else ms.length + ns.length : Nat) : Int)) (fun z _ => 2 - z.2.toNat) ⟨rfl, 0, rfl, by omega, rfl⟩ ?_
  rintro ⟨_, _⟩ h2 ⟨rfl, i, rfl, hi, rfl⟩
  dsimp only
  rw [hsl]
  refine ⟨fun hlt => ?_, fun hge => ?_⟩
  · simp only [List.length_cons, List.length_nil, Nat.zero_add, decide_eq_true_eq] at hlt
    have hi' : i < 2 := by omega
    refine seq.cut (fun (z : Int) h3 => h3 = h2 ∧ z = ((if i + 1 = 1 then ms.length else ms.length + ns.length : Nat) : Int)) ?_ ?_
    · refine ld (Keep.refl _ _) hi' (fun e => ?_) (fun e => ?_)
      · subst e
        rintro _ rfl
        simp only [if_true]
        rw [w64 (by omega) (by omega)]
        refine ⟨fun hc => ?_, fun _ => ⟨trivial, by omega⟩⟩
        simp only [decide_eq_true_eq] at hc; omega
      · subst e
        rintro _ rfl
        simp only [if_true, Nat.one_ne_zero, if_false]
        rw [w64 (by omega) (by omega)]
        refine ⟨fun hc => ?_, fun _ => ⟨trivial, by simp; omega⟩⟩
        simp only [decide_eq_true_eq] at hc; omega
    · rintro z h3 ⟨rfl, rfl⟩
      rw [w64 (by omega) (by omega)]
      refine ⟨⟨rfl, i + 1, by simp, by omega, by simp⟩, by (try dsimp only); omega⟩
  · simp only [List.length_cons, List.length_nil, Nat.zero_add, decide_eq_false_iff_not] at hge
    have : i = 2 := by omega
    subst this
    simp only [Nat.reduceEqDiff, if_false]
    refine agG (by omega) fun r0 h3 o3 e3 => ?_
    obtain ⟨ys, r1, a1⟩ := q1.row
    obtain ⟨zs, r2, a2⟩ := q2.row
    have b1 := a1.length; have b2 := a2.length
    refine loop.inv (fun (z : Sl × Int) h4 => ∃ i : Nat, z.2 = (i : Int) ∧ i ≤ 2 ∧ OwnS C7 7 h2.size h4 z.1 (if i = 0 then [] else if i = 1 then ys else ys ++ zs) ∧ Ext h2 h4) (fun z _ => 2 - z.2.toNat) ⟨0, rfl, by omega, o3, e3⟩ ?_
    rintro ⟨r, _⟩ h4 ⟨i, rfl, hi, o4, e4⟩
    dsimp only at o4 ⊢
    refine ⟨fun hlt => ?_, fun hge => ?_⟩
    · simp only [List.length_cons, List.length_nil, Nat.zero_add, decide_eq_true_eq] at hlt
      have hi' : i < 2 := by omega
      have ext : ∀ {h5 : Heap}, Keep r.blk h4 h5 → Ext h2 h5 := fun k => by
        cases hv : r.blk with
        | none => rw [hv] at k; exact e4.trans k
        | some b => rw [hv] at k; exact e4.fresh (o4.lt hv).1 k
      refine ld e4 hi' (fun e => ?_) (fun e => ?_)
      · subst e
        simp only [if_true] at o4
        refine o4.appendR len7 (by decide) one7 e4.size (RS.ext r1 e4) q1.cap (by simp; omega) fun r' h5 o5 k5 _ => ?_
        rw [w64 (by omega) (by omega)]
        exact ⟨⟨1, rfl, by omega, by simpa using o5, ext k5⟩, by (try dsimp only); omega⟩
      · subst e
        simp only [if_true, Nat.one_ne_zero, if_false] at o4
        refine o4.appendR len7 (by decide) one7 e4.size (RS.ext r2 e4) q2.cap (by omega) fun r' h5 o5 k5 _ => ?_
        rw [w64 (by omega) (by omega)]
        exact ⟨⟨2, rfl, by omega, by simpa using o5, ext k5⟩, by (try dsimp only); omega⟩
    · simp only [List.length_cons, List.length_nil, Nat.zero_add, decide_eq_false_iff_not] at hge
      have : i = 2 := by omega
      subst this
      simp only [Nat.reduceEqDiff, if_false] at o4
      exact K r h4 (o4.row len7 (by decide) ((a1.imp fun y m hm => hm.ext e4).append (a2.imp fun y m hm => hm.ext e4))) e4
end Go.Sh

namespace Go.Sh
open Go Go.Lift
variable {h0 h : Heap} {x y : S5} {t u : TT} {L B : Nat}
end Go.Sh
