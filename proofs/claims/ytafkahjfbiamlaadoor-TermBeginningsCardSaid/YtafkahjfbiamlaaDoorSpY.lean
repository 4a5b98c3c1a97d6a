/-
  Laws that the proof of this claim's statement leans on, each proved under the conditions that it states.
-/
import Derived.Test.YtafkahjfbiamlaaDoorSpX
import Derived.Test.YtafkahjfbiamlaaDoorSpE
set_option linter.unusedVariables false
set_option linter.unusedSimpArgs false
namespace Go.Sh
open Go Go.Lift
variable {Z : Nat → Prop} {h h' : Heap} {a : Addr} {mp : Nat} {v1 v2 v3 : Sl} {t : Tm} {n : N6} {v : Nd}

theorem TT.z {Z' : Nat → Prop} (q : TT Z h a mp v1 v2 v3 t) (za : Z' a.block) (zm : Z' mp) (z1 : ∀ b, v1.blk = some b → Z' b) (z2 : ∀ b, v2.blk = some b → Z' b) (z3 : ∀ b, v3.blk = some b → Z' b) (zn : ∀ b, h.size ≤ b → Z' b) : TT Z' h a mp v1 v2 v3 t :=
  { q with za := za, zm := zm, z1 := z1, z2 := z2, z3 := z3, zn := zn }
theorem Fz.toExt {h0 : Heap} (f : Fz Z h h') (e : Ext h0 h) (hz : ∀ b, Z b → h0.size ≤ b) : Ext h0 h' :=
  ⟨Nat.le_trans e.size f.size, fun b hb hne => (f.same b (Nat.lt_of_lt_of_le hb e.size) (fun h => by have := hz b h; omega)).trans (e.same b hb hne)⟩
theorem MP.fz {mq : Nat} {g : Int → Option Int} (p : MP h mq g) (f : Fz Z h h') (hz : ¬ Z mq) : MP h' mq g := by
  obtain ⟨l, ⟨es, c, h1, h2⟩, h3⟩ := p
  exact ⟨l, ⟨es, c, by rw [f.same mq (Array.getElem?_eq_some_iff.1 h1).1 hz]; exact h1, h2⟩, h3⟩

theorem tNew_spec {bools reals : Int} {Q : Option Addr → Heap → Prop} (K : ∀ a mp h', TT (fun b => h.size ≤ b) h' a mp Sl.nil Sl.nil Sl.nil ⟨if 0 > bools then 0 else bools, if 0 > reals then 0 else reals, [], []⟩ → Ext h h' → Q (some a) h') : term_New bools reals h Q := by
  refine MP.new fun h1 m1 e1 s1 => m1.set fun h2 m2 k2 => m2.set fun h3 m3 k3 => ?_
  intro T
  have e2 : Ext h h2 := e1.fresh (Nat.le_refl _) k2
  have e3 : Ext h h3 := e2.fresh (Nat.le_refl _) k3
  have l3 := m3.lt
  have e4 := Ext.push h3 (.cells [Value.map (some h.size), Sl.toV Sl.nil, Sl.toV Sl.nil, Sl.toV Sl.nil].toArray T (0, 0))
  have cell : ∀ i v, [Value.map (some h.size), Sl.toV Sl.nil, Sl.toV Sl.nil, Sl.toV Sl.nil].toArray[i]? = some v → cell? (h3.push (.cells [Value.map (some h.size), Sl.toV Sl.nil, Sl.toV Sl.nil, Sl.toV Sl.nil].toArray T (0, 0))) ((⟨h3.size, 0, none⟩ : Addr).add i) = some v := by
    intro i v hv; rw [cell_push_new_add]; exact hv
  have frz : ∀ i, frozen? (h3.push (.cells [Value.map (some h.size), Sl.toV Sl.nil, Sl.toV Sl.nil, Sl.toV Sl.nil].toArray T (0, 0))) ((⟨h3.size, 0, none⟩ : Addr).add i) = false := by
    intro i; rw [addr_add _ _ rfl]; exact frozen_none (by simp; exact ⟨rfl, rfl⟩)
  refine K ⟨h3.size, 0, none⟩ h.size _ ?_ (e3.trans e4)
  have hl3 := e3.size
  exact
  { spot := rfl
    c0 := cell 0 _ rfl
    c1 := cell 1 _ rfl
    c2 := cell 2 _ rfl
    c3 := cell 3 _ rfl
    f1 := frz 1
    f2 := frz 2
    f3 := frz 3
    map := by
      refine MP.keep (o := none) ?_ e4 (by simp)
      obtain ⟨f, g1, g2⟩ := m3
      refine ⟨f, g1, fun k => ?_⟩
      rw [g2 k]
      unfold unk
      dsimp only
      by_cases e : k = 2
      · subst e; simp
      · by_cases e' : k = 1
        · subst e'; simp
        · simp [e, e']
    n1 := ⟨rfl, [], by rw [show Sl.sc 6 Sl.nil = Sl.nil by simp [Sl.sc, Sl.nil]]; exact Own.nil⟩
    s2 := Own.nil
    g3 := Own.nil
    gl := rfl
    few := Nat.zero_le _
    ma := by show h.size ≠ h3.size; omega
    m1 := nofun
    m2 := nofun
    m3 := nofun
    a1 := nofun
    a2 := nofun
    a3 := nofun
    d12 := nofun
    d13 := nofun
    d23 := nofun
    za := by show h.size ≤ h3.size; omega
    zm := Nat.le_refl _
    z1 := nofun
    z2 := nofun
    z3 := nofun
    zn := fun b hb => by have := e4.size; omega }

theorem XR.none {b : Bool} : XR h (b, Sl.nil, Sl.nil) [] [] := ⟨R.nil, Lim.nil, R.nil, Lim.nil⟩
/-- A node that is an unknown. -/
theorem ndLeaf {op var : Int} : ND h (op, var, Sl.nil, false, Sl.nil, Sl.nil) ⟨op, var, [], false, [], []⟩ := ⟨rfl, rfl, R.nil, rfl, XR.none, Nat.zero_le _, Nat.zero_le _, Nat.zero_le _⟩
theorem addE_leaf3 {t : Tm} {var : Int} : addE t ⟨3, var, [], false, [], []⟩ = if 0 ≤ var ∧ var < t.nb then 0 else 1 := by
  by_cases h : 0 ≤ var ∧ var < t.nb
  · simp [addE, shp, leafOk, h, sortedV, same, freeV]
  · simp [addE, shp, leafOk, h]
theorem addE_leaf4 {t : Tm} {var : Int} : addE t ⟨4, var, [], false, [], []⟩ = if 0 ≤ var ∧ var < t.nr then 0 else 1 := by
  by_cases h : 0 ≤ var ∧ var < t.nr
  · simp [addE, shp, leafOk, h, sortedV, same, freeV]
  · simp [addE, shp, leafOk, h]
theorem addT_leaf3 {t : Tm} {var : Int} : addT t ⟨3, var, [], false, [], []⟩ = { t with S := t.S ++ [1], G := t.G ++ [false] } := by simp [addT, shp, sortedV, same, groundV]
theorem addT_leaf4 {t : Tm} {var : Int} : addT t ⟨4, var, [], false, [], []⟩ = { t with S := t.S ++ [2], G := t.G ++ [false] } := by simp [addT, shp, sortedV, same, groundV]

theorem speaks9uspec {Q : Bool → Heap → Prop} (ht : Tab h) (K : ∀ h', Ext h h' → Q true h') : law09uspeaks h Q := by
  refine tNew_spec fun a mp h1 q1 e1 => ?_
  have z0 : ∀ b, h.size ≤ b → h.size ≤ b := fun _ h => h
  refine tAdd_spec (R.ext ht e1) q1 (ndLeaf (op := 4) (var := 0)) (by decide) (fun hne => absurd (by rw [addE_leaf4]; rfl) hne) fun _ w1 w2 w3 h2 q2 f2 => ?_
  rw [addT_leaf4] at q2
  have e2 := f2.toExt e1 z0
  refine tAdd_spec (R.ext ht e2) q2 (ndLeaf (op := 4) (var := 1)) (by decide) (fun hne => absurd (by rw [addE_leaf4]; rfl) hne) fun _ x1 x2 x3 h3 q3 f3 => ?_
  rw [addT_leaf4] at q3
  have e3 := f3.toExt e2 z0
  intro T
  have e4 := Ext.push h3 (.cells [Value.int .i64 0, Value.int .i64 1].toArray T (0, 0))
  have hr := (Own.new (toV := Value.int .i64) (h := h3) (ys := [0, 1]) (cs := [Value.int .i64 0, Value.int .i64 1]) (T := T) rfl).r
  have e04 := e3.trans e4
  have q4 := q3.ext e4
  have bad : addE (⟨0, 2, [2, 2], [false, false]⟩ : Tm) ⟨20, 0, [0, 1], false, [], []⟩ = 16 := by
    have h1 : leafOk (⟨0, 2, [2, 2], [false, false]⟩ : Tm) ⟨20, 0, [0, 1], false, [], []⟩ := by simp [leafOk]
    have h2 : ¬ ∃ k ∈ ([0, 1] : List Int), ¬ thereV (⟨0, 2, [2, 2], [false, false]⟩ : Tm) k := by
      rintro ⟨k, hk, hn⟩
      simp at hk
      rcases hk with rfl | rfl <;> exact hn (by simp [thereV])
    simp only [addE, show shp 20 = some (2, 1073741824, 2, 2) by rfl]
    rw [if_neg (fun h => h h1), if_neg h2]
    decide
  refine tAdd_spec (n := (20, 0, ⟨some ⟨h3.size, 0, none⟩, 2, 2⟩, false, Sl.nil, Sl.nil)) (v := ⟨20, 0, [0, 1], false, [], []⟩) (R.ext ht e04) q4 ⟨rfl, rfl, hr, rfl, XR.none, by decide, Nat.zero_le _, Nat.zero_le _⟩ (by decide) (fun _ h5 e5 => ?_) fun he => ?_
  · have hb : addE { (⟨if 0 > (0 : Int) then 0 else 0, if 0 > (2 : Int) then 0 else 2, [], []⟩ : Tm) with S := [] ++ [2] ++ [2], G := [] ++ [false] ++ [false] } ⟨20, 0, [0, 1], false, [], []⟩ = 16 := bad
    refine seq.cut (fun (b : Bool) h6 => h6 = h5 ∧ b = true) ?_ (fun b h6 ⟨e6, eb⟩ => by subst e6 eb; exact K h6 (e04.trans e5))
    refine ⟨fun _ => ⟨fun _ => ⟨fun _ => ?_, fun hc => ?_⟩, fun hc => by simp at hc⟩, fun hc => by simp at hc⟩
    · exact Sort_spec (q4.ext e5) ⟨rfl, rfl⟩
    · rw [hb] at hc; simp at hc
  · have hb : addE { (⟨if 0 > (0 : Int) then 0 else 0, if 0 > (2 : Int) then 0 else 2, [], []⟩ : Tm) with S := [] ++ [2] ++ [2], G := [] ++ [false] ++ [false] } ⟨20, 0, [0, 1], false, [], []⟩ = 16 := bad
    rw [hb] at he; exact absurd he (by decide)
end Go.Sh

namespace Go.Sh
open Go Go.Lift
variable {Z : Nat → Prop} {h h' : Heap} {a : Addr} {mp : Nat} {v1 v2 v3 : Sl} {t : Tm}

/-- A map that is set beside others. -/
theorem MP.two {x y : Int} {k : Option Nat → Heap → Prop} (hh : Heap) (key1 key2 : Int) (K : ∀ mq h', MP h' mq (fun j => if j = key2 then some y else if j = key1 then some x else none) → Ext hh h' → mq = hh.size → k (some mq) h') :
    newM hh fun v h0 => setM .i64 (Value.int .i64) v key1 x h0 fun h1 => setM .i64 (Value.int .i64) v key2 y h1 fun h2 => k v h2 :=
  MP.new fun h1 m1 e1 _ => m1.set fun h2 m2 k2 => m2.set fun h3 m3 k3 => K _ h3 m3 ((e1.fresh (Nat.le_refl _) k2).fresh (Nat.le_refl _) k3) rfl

/-- What is so at each round. -/
structure GI (h0 : Heap) (Z : Nat → Prop) (h : Heap) (a : Addr) (mp m2 m3 : Nat) (i : Nat) : Prop where
  tt : ∃ w1 w2 w3 t, TT Z h a mp w1 w2 w3 t ∧ t.S.length ≤ i ∧ (0 ≤ t.nb ∧ t.nb ≤ 1000 + i ∧ 0 ≤ t.nr ∧ t.nr ≤ 1000 + i) ∧ MP h m2 (unk t)
  ops : MP h m3 (fun j => if j = 2 then some 4 else if j = 1 then some 3 else none)
  ext : Ext h0 h

theorem TermGrows_holds {bools reals : Int} {s : Sl} {xs : List Int} {Q : Bool → Heap → Prop} (ht : Tab h) (hx : RJ h s xs) (K : ∀ h', Ext h h' → Q true h') : law09uTermGrows bools reals s h Q := by
  refine speaks9uspec ht fun h0 e0 => ⟨fun hc => by simp at hc, fun _ => ?_⟩
  have hl := hx.len
  refine seq.cut (fun (b : Bool) h1 => h1 = h0 ∧ (b = false → xs.length ≤ 60 ∧ 0 ≤ bools ∧ 0 ≤ reals ∧ bools ≤ 1000 ∧ reals ≤ 1000)) ?_ ?_
  · refine ⟨fun _ => ⟨rfl, nofun⟩, fun c1 => ⟨fun _ => ⟨rfl, nofun⟩, fun c2 => ⟨fun _ => ⟨rfl, nofun⟩, fun c3 => ⟨fun _ => ⟨rfl, nofun⟩, fun c4 => ⟨rfl, fun c5 => ?_⟩⟩⟩⟩⟩
    simp only [decide_eq_false_iff_not] at c1 c2 c3 c4 c5
    omega
  rintro b h1 ⟨rfl, hb⟩
  refine ⟨fun _ => K h1 e0, fun hf => ?_⟩
  obtain ⟨l1, l2, l3, l4, l5⟩ := hb hf
  refine tNew_spec fun a mp h2 q2 e2 => ?_
  rw [if_neg (by omega : ¬ (0 : Int) > bools), if_neg (by omega : ¬ (0 : Int) > reals)] at q2
  refine MP.two h2 1 2 fun m2 h3 p3 e3 hm2 => MP.two h3 1 2 fun m3 h4 p4 e4 hm3 => ?_
  have e04 : Ext h h4 := ((e0.trans e2).trans e3).trans e4
  have hal := q2.alt
  have hml := q2.map.lt
  have s3 := p3.lt
  have s4 := p4.lt
  have sz3 := e3.size
  have sz4 := e4.size
  have q4 := (q2.ext e3).ext e4
  have zz : TT (fun b => h1.size ≤ b ∧ b ≠ m2 ∧ b ≠ m3) h4 a mp Sl.nil Sl.nil Sl.nil ⟨bools, reals, [], []⟩ :=
    q4.z ⟨q2.za, by omega, by omega⟩ ⟨q2.zm, by omega, by omega⟩ nofun nofun nofun (fun b hb => ⟨by have := e2.size; omega, by omega, by omega⟩)
  have z0 : ∀ b, (h1.size ≤ b ∧ b ≠ m2 ∧ b ≠ m3) → h1.size ≤ b := fun _ h => h.1
  have p3' : MP h4 m2 (unk ⟨bools, reals, [], []⟩) := by
    obtain ⟨f, g1, g2⟩ := p3.keep (o := none) e4 (by simp)
    refine ⟨f, g1, fun k => ?_⟩
    rw [g2 k]
    unfold unk
    dsimp only
    by_cases e : k = 2
    · subst e; simp
    · by_cases e' : k = 1
      · subst e'; simp
      · simp [e, e']
  refine loop.inv (fun (s0 : Int) hh => ∃ i : Nat, s0 = (i : Int) ∧ i ≤ xs.length ∧ GI h1 (fun b => h1.size ≤ b ∧ b ≠ m2 ∧ b ≠ m3) hh a mp m2 m3 i) (fun s0 _ => xs.length - s0.toNat)
    ⟨0, rfl, Nat.zero_le _, ⟨_, _, _, _, zz, Nat.le_refl _, ⟨l2, by show bools ≤ _; omega, l3, by show reals ≤ _; omega⟩, p3'⟩, p4, (e2.trans e3).trans e4⟩ ?_
  rintro s0 hh ⟨i, rfl, hi, ⟨w1, w2, w3, t, qt, tl, tb, pm⟩, po, ex⟩
  dsimp only
  rw [hl]
  refine ⟨fun hlt => ?_, fun hge => K hh (e0.trans ex)⟩
  simp only [decide_eq_true_eq] at hlt
  have hi' : i < xs.length := by omega
  refine seq.cut (fun (_ : Unit) hh' => GI h1 (fun b => h1.size ≤ b ∧ b ≠ m2 ∧ b ≠ m3) hh' a mp m2 m3 (i + 1)) ?_ ?_
  rotate_left
  · rintro _ hh' g
    rw [w64 (by omega) (by omega)]
    exact ⟨⟨i + 1, by omega, by omega, g⟩, by omega⟩
  have hxr := R.ext hx (e0.trans ex)
  refine RJ.ld hxr (j := i) rfl hi' ?_
  generalize hsv : atI xs i = sv
  refine po.look ?_
  dsimp only
  have hrange : -1000000 ≤ t.nb ∧ t.nb ≤ 1000000 ∧ -1000000 ≤ t.nr ∧ t.nr ≤ 1000000 := by omega
  have mono : GI h1 (fun b => h1.size ≤ b ∧ b ≠ m2 ∧ b ≠ m3) hh a mp m2 m3 (i + 1) := ⟨⟨w1, w2, w3, t, qt, by omega, by omega, pm⟩, po, ex⟩
  refine ⟨fun hn => ?_, fun hy => ?_⟩
  · -- no sort
    have h2 : sv ≠ 2 := fun e => by subst e; simp at hn
    have h1' : sv ≠ 1 := fun e => by subst e; simp at hn
    refine Grow_spec qt hrange (fun _ => ⟨fun hc => by simp at hc, fun _ => mono⟩) (fun n hu => by simp [unk, h2, h1'] at hu)
  · -- one more
    have key : ∀ (op cnt : Int), (sv = 1 ∧ op = 3 ∧ cnt = t.nb ∨ sv = 2 ∧ op = 4 ∧ cnt = t.nr) → unk t sv = some cnt := by
      rintro op cnt (⟨rfl, rfl, rfl⟩ | ⟨rfl, rfl, rfl⟩) <;> rfl
    have hop : ∃ op cnt : Int, (sv = 1 ∧ op = 3 ∧ cnt = t.nb ∨ sv = 2 ∧ op = 4 ∧ cnt = t.nr) ∧ (if sv = 2 then some 4 else if sv = 1 then some 3 else none : Option Int) = some op := by
      by_cases e2 : sv = 2
      · exact ⟨4, t.nr, .inr ⟨e2, rfl, rfl⟩, by rw [if_pos e2]⟩
      · by_cases e1 : sv = 1
        · exact ⟨3, t.nb, .inl ⟨e1, rfl, rfl⟩, by rw [if_neg e2, if_pos e1]⟩
        · simp [e2, e1] at hy
    obtain ⟨op, cnt, hcase, hopt⟩ := hop
    have hu := key op cnt hcase
    rw [hopt]
    refine pm.look ?_
    rw [hu]
    dsimp only [Option.getD_some]
    have tab := R.ext ht (e0.trans ex)
    have bad : addE t ⟨op, cnt, [], false, [], []⟩ = 1 := by
      rcases hcase with ⟨_, rfl, rfl⟩ | ⟨_, rfl, rfl⟩
      · rw [addE_leaf3, if_neg (by omega)]
      · rw [addE_leaf4, if_neg (by omega)]
    refine tAdd_spec tab qt (ndLeaf (op := op) (var := cnt)) (by omega) (fun _ h5 e5 => ?_) (fun hc => by rw [bad] at hc; exact absurd hc (by decide))
    rw [bad]
    have q5 := qt.ext e5
    refine Grow_spec q5 hrange (fun hn => by rw [hu] at hn; cases hn) fun n hn h6 q6 f6 => ?_
    rw [hu] at hn
    injection hn with hn
    subst hn
    have nz2 : ¬ (h1.size ≤ m2 ∧ m2 ≠ m2 ∧ m2 ≠ m3) := fun h => h.2.1 rfl
    have nz3 : ¬ (h1.size ≤ m3 ∧ m3 ≠ m2 ∧ m3 ≠ m3) := fun h => h.2.2 rfl
    have pm6 := (pm.keep (o := none) e5 (by simp)).fz f6 nz2
    have po6 := (po.keep (o := none) e5 (by simp)).fz f6 nz3
    have ex6 := f6.toExt (ex.trans e5) z0
    refine pm6.look ?_
    rw [hu]
    dsimp only [Option.getD_some]
    have tab6 := R.ext ht (e0.trans ex6)
    -- the sort of it, and what there is behind it
    have good : ∃ t2 : Tm, (if sv = 1 then { t with nb := t.nb + 1 } else { t with nr := t.nr + 1 } : Tm) = t2 ∧ addE t2 ⟨op, cnt, [], false, [], []⟩ = 0 ∧ addT t2 ⟨op, cnt, [], false, [], []⟩ = { t2 with S := t.S ++ [sv], G := t.G ++ [false] } ∧ t2.S = t.S ∧
        (0 ≤ t2.nb ∧ t2.nb ≤ 1000 + ((i + 1 : Nat) : Int) ∧ 0 ≤ t2.nr ∧ t2.nr ≤ 1000 + ((i + 1 : Nat) : Int)) ∧ ∀ k, (if k = sv then some (cnt + 1) else unk t k) = unk t2 k := by
      rcases hcase with ⟨rfl, rfl, rfl⟩ | ⟨rfl, rfl, rfl⟩
      · refine ⟨_, rfl, ?_, ?_, rfl, ?_, ?_⟩
        · rw [if_pos rfl, addE_leaf3]; exact if_pos ⟨by omega, by show t.nb < t.nb + 1; omega⟩
        · rw [if_pos rfl, addT_leaf3]
        · rw [if_pos rfl]; dsimp only; omega
        · intro k; rw [if_pos rfl]; unfold unk
          by_cases e : k = 1
          · simp [e]
          · simp [e]
      · refine ⟨_, rfl, ?_, ?_, rfl, ?_, ?_⟩
        · rw [if_neg (by decide), addE_leaf4]; exact if_pos ⟨by omega, by show t.nr < t.nr + 1; omega⟩
        · rw [if_neg (by decide), addT_leaf4]
        · rw [if_neg (by decide)]; dsimp only; omega
        · intro k; simp only [show ¬ ((2 : Int) = 1) by decide, if_false]; unfold unk
          by_cases e : k = 2
          · subst e; simp
          · simp [e]
    obtain ⟨t2, ht2, ha2, hT2, hS2, hb2, hu2⟩ := good
    rw [ht2] at q6
    refine tAdd_spec tab6 q6 (ndLeaf (op := op) (var := cnt)) (by rw [hS2]; omega) (fun hne => absurd ha2 hne) fun _ x1 x2 x3 h7 q7 f7 => ?_
    rw [hT2] at q7
    rw [hS2]
    have pm7 := pm6.fz f7 nz2
    have po7 := po6.fz f7 nz3
    have ex7 := f7.toExt ex6 z0
    refine seq.cut (fun (b : Bool) h8 => h8 = h7 ∧ b = false) ?_ ?_
    · refine ⟨fun hc => by simp at hc, fun _ => pm7.look ?_⟩
      rw [hu]
      dsimp only [Option.getD_some]
      refine ⟨fun hc => by simp at hc, fun _ => ⟨fun hc => by simp at hc, fun _ => Sort_spec q7 ?_⟩⟩
      have hlen : ((t.S ++ [sv]).length : Int) = (t.S.length : Int) + 1 := by simp
      dsimp only
      rw [if_pos ⟨by omega, by rw [hlen]; omega⟩]
      have : atI (t.S ++ [sv]) ((t.S.length : Int)).toNat = sv := by
        rw [Int.toNat_natCast, atI_get (by simp)]; simp
      rw [this]
      exact ⟨rfl, by simp⟩
    · rintro b h8 ⟨rfl, rfl⟩
      refine ⟨fun hc => by simp at hc, fun _ => pm7.look ?_⟩
      rw [hu]
      dsimp only [Option.getD_some]
      rw [w64 (by omega) (by omega)]
      refine pm7.set fun h9 pm9 k9 => ?_
      have hmz : m2 ≠ m3 := by omega
      have ham : a.block ≠ m2 := fun e => by have := q7.za; exact this.2.1 e
      have hmm : mp ≠ m2 := fun e => by have := q7.zm; exact this.2.1 e
      have nb : ∀ {sl : Sl}, (∀ b, sl.blk = some b → (h1.size ≤ b ∧ b ≠ m2 ∧ b ≠ m3)) → ∀ b, sl.blk = some b → some b ≠ some m2 := fun hz b hb e => (hz b hb).2.1 (by injection e)
      refine ⟨⟨x1, x2, x3, _, q7.keepO k9 (fun e => ham (by injection e)) (fun e => hmm (by injection e)) (nb q7.z1) (nb q7.z2) (nb q7.z3), ?_, hb2, ?_⟩, po7.keep k9 (fun e => hmz (by injection e with e; exact e.symm)), ?_⟩
      · show (t.S ++ [sv]).length ≤ i + 1
        simp; omega
      · obtain ⟨f, g1, g2⟩ := pm9
        exact ⟨f, g1, fun k => (g2 k).trans (hu2 k)⟩
      · exact ex7.fresh (by have := e2.size; omega) k9
end Go.Sh

namespace Go.Sh
open Go Go.Lift
variable {Z : Nat → Prop} {h h' : Heap} {a : Addr} {mp : Nat} {v1 v2 v3 : Sl} {t : Tm}

structure NDR (h : Heap) (n : N6) (v : Nd) : Prop where
  op : n.1 = v.op
  var : n.2.1 = v.var
  kids : RJ h n.2.2.1 v.kids
  neg : n.2.2.2.1 = v.neg
  x : XR h (n.2.2.2.1, n.2.2.2.2.1, n.2.2.2.2.2) v.xs v.ys
def Few (v : Nd) : Prop := v.kids.length ≤ 12 ∧ v.xs.length ≤ 6 ∧ v.ys.length ≤ 6
theorem NDR.nd {n : N6} {v : Nd} (q : NDR h n v) (f : Few v) : ND h n v := ⟨q.op, q.var, q.kids, q.neg, q.x, by have := f.1; omega, by have := f.2.1; omega, by have := f.2.2; omega⟩
theorem NDR.ext {n : N6} {v : Nd} (q : NDR h n v) (e : Ext h h') : NDR h' n v := ⟨q.op, q.var, R.ext q.kids e, q.neg, q.x.ext e⟩
abbrev RN := RS C_i64ui64usl_bool_sl_sl 6
structure NRows (h : Heap) (s : Sl) (ns : List N6) (vs : List Nd) : Prop where
  rs : RN h s ns
  cap : s.len ≤ s.cap
  len : ns.length = vs.length
  nd : ∀ i (h1 : i < ns.length) (h2 : i < vs.length), NDR h ns[i] vs[i]
theorem NRows.ext {s : Sl} {ns : List N6} {vs : List Nd} (q : NRows h s ns vs) (e : Ext h h') : NRows h' s ns vs := ⟨q.rs.ext e, q.cap, q.len, fun i h1 h2 => (q.nd i h1 h2).ext e⟩
theorem NRows.slen {s : Sl} {ns : List N6} {vs : List Nd} (q : NRows h s ns vs) : s.len = vs.length := by rw [q.rs.len, q.len]
theorem NRows.ld {s : Sl} {ns : List N6} {vs : List Nd} (q : NRows h s ns vs) {i : Int} {j : Nat} {k : N6 → Prop} (hij : i = (j : Int)) (hj : j < vs.length) (K : ∀ n, NDR h n vs[j] → k n) : idxS s i 6 fun a => loadS C_i64ui64usl_bool_sl_sl 6 a h k := by
  have := q.len
  exact RS.ld q.rs hij (by omega) (K _ (q.nd j (by omega) hj))
theorem NRows.take {s : Sl} {ns : List N6} {vs : List Nd} (q : NRows h s ns vs) {i : Int} {j : Nat} {k : Sl → Prop} (hij : i = (j : Int)) (hj : j ≤ vs.length) (K : ∀ s', NRows h s' (ns.take j) (vs.take j) → k s') : sliceOf s none (some i) none 6 k := by
  subst hij
  have hl := q.slen
  have hlen := q.len
  have hcap := q.cap
  refine ⟨⟨by simp, by simp⟩, ⟨by simp, .inr (by simp; omega)⟩, ⟨by simp, by simp⟩, ?_⟩
  simp only [Option.getD_none, Option.getD_some, Int.toNat_zero, Nat.sub_zero, Nat.zero_mul]
  have hadd : ∀ o : Option Addr, o.map (fun a => a.add 0) = o := by
    intro o; cases o <;> simp [Addr.add]
  have heq : (if (s.cap : Int) = 0 then s.a else s.a.map (fun a => a.add 0)) = s.a := by rw [hadd]; simp
  rw [heq]
  refine K _ ⟨⟨by simp; omega, fun i hi => ?_⟩, by simp; omega, by simp [hlen], fun i h1 h2 => ?_⟩
  · simp only [List.length_take] at hi
    obtain ⟨a, ha, hc⟩ := q.rs.cells i (by omega)
    exact ⟨a, ha, by rw [hc]; simp⟩
  · simp only [List.length_take] at h1 h2
    have := q.nd i (by omega) (by omega)
    simpa using this

theorem Great9uspec {s : Sl} {ns : List N6} {vs : List Nd} {Q : Bool → Heap → Prop} (q : NRows h s ns vs) (K1 : ∀ h', Ext h h' → Q true h') (K2 : ∀ h', Ext h h' → vs.length ≤ 40 → (∀ v ∈ vs, Few v) → Q false h') : law09uGreat s h Q := by
  have hl := q.slen
  refine ⟨fun _ => K1 h (Keep.refl _ _), fun hc => ?_⟩
  simp only [decide_eq_false_iff_not] at hc
  have h40 : vs.length ≤ 40 := by omega
  refine loop.inv (fun (s0 : Int) h1 => Ext h h1 ∧ ∃ i : Nat, s0 = (i : Int) ∧ i ≤ vs.length ∧ ∀ v ∈ vs.take i, Few v) (fun s0 _ => vs.length - s0.toNat) ⟨Keep.refl _ _, 0, rfl, Nat.zero_le _, by simp⟩ ?_
  rintro s0 h1 ⟨e1, i, rfl, hi, hf⟩
  dsimp only
  rw [hl]
  refine ⟨fun hlt => ?_, fun hge => ?_⟩
  · simp only [decide_eq_true_eq] at hlt
    have hi' : i < vs.length := by omega
    refine (q.ext e1).ld (j := i) rfl hi' fun n nd => mem_ext fun h2 e2 => ?_
    have nd2 := nd.ext e2
    have kl := nd2.kids.len
    have xl := nd2.x.num.len
    have yl := nd2.x.den.len
    dsimp only at xl yl
    refine seq.cut (fun (b : Bool) h3 => Ext h2 h3 ∧ (b = false → Few vs[i])) ?_ ?_
    · refine ⟨fun _ => ⟨Keep.refl _ _, nofun⟩, fun hk => ?_⟩
      simp only [decide_eq_false_iff_not] at hk
      intro T
      have hr := RS.new (toC := C_bool_sl_sl) (sz := 3) (h := h2) (cs := [Value.bool n.2.2.2.1, Sl.toV n.2.2.2.2.1, Sl.toV n.2.2.2.2.2]) (T := T) (n := 1) (xs := [(n.2.2.2.1, n.2.2.2.2.1, n.2.2.2.2.2)]) bool_sl_sl_len rfl rfl
      refine Great_spec hr (by simp) fun h4 e4 => ⟨(Ext.push _ _).trans e4, fun hb => ?_⟩
      simp only [List.any_cons, List.any_nil, Bool.or_false, bigR, Bool.or_eq_false_iff, decide_eq_false_iff_not] at hb
      exact ⟨by omega, by omega, by omega⟩
    · rintro b h3 ⟨e3, hb⟩
      have e13 := (e1.trans e2).trans e3
      refine ⟨fun _ => K1 h3 e13, fun hbf => ?_⟩
      rw [w64 (by omega) (by omega)]
      refine ⟨⟨e13, i + 1, by omega, by omega, fun v hv => ?_⟩, by omega⟩
      rw [List.take_succ_eq_append_getElem hi'] at hv
      rcases List.mem_append.1 hv with hv | hv
      · exact hf v hv
      · simp only [List.mem_singleton] at hv; rw [hv]; exact hb hbf
  · simp only [decide_eq_false_iff_not] at hge
    have : i = vs.length := by omega
    subst this
    rw [List.take_length] at hf
    exact K2 h1 e1 h40 hf

/-! ### Whether nodes may be -/
def okT : Tm → List Nd → Prop
  | _, [] => True
  | t, v :: l => addE t v = 0 ∧ okT (addT t v) l
theorem addT_len (t : Tm) (v : Nd) : (addT t v).S.length = t.S.length + 1 := by simp [addT]
theorem okT_take (l : List Nd) : ∀ (t : Tm) (k : Nat), okT t l → okT t (l.take k) := by
  induction l with
  | nil => intro t k _; simp [okT]
  | cons v l ih =>
    intro t k h
    cases k with
    | zero => simp [okT]
    | succ k => simp only [List.take_succ_cons, okT]; exact ⟨h.1, ih _ k h.2⟩
/-- More unknowns. -/
structure More (t u : Tm) : Prop where
  S : u.S = t.S
  G : u.G = t.G
  nb : t.nb ≤ u.nb
  nr : t.nr ≤ u.nr
theorem leafOk_more {t u : Tm} (m : More t u) {v : Nd} (h : leafOk t v) : leafOk u v := by
  have h1 := m.nb
  have h2 := m.nr
  unfold leafOk at *
  refine ⟨?_, h.2⟩
  have := h.1
  split
  · rename_i e; rw [if_pos e] at this; omega
  · rename_i e
    rw [if_neg e] at this
    split
    · rename_i e2; rw [if_pos e2] at this; omega
    · rename_i e2; rw [if_neg e2] at this; exact this
theorem addE_zero {t : Tm} {v : Nd} : addE t v = 0 ↔ ∃ s, shp v.op = some s ∧ leafOk t v ∧ (∀ k ∈ v.kids, thereV t k) ∧ ¬ ((v.kids.length : Int) < s.1 ∨ (v.kids.length : Int) > s.2.1) ∧ sortedV t.S v s ≠ 0 ∧ (freeV t.G v.op 0 v.kids = 0 ∨ freeV t.G v.op 0 v.kids = 1 ∧ v.op = 20) := by
  unfold addE
  cases hs : shp v.op with
  | none => simp
  | some s =>
    dsimp only
    constructor
    · intro h
      refine ⟨s, rfl, ?_⟩
      split at h
      · cases h
      split at h
      · cases h
      split at h
      · cases h
      split at h
      · cases h
      split at h
      · cases h
      rename_i h1 h2 h3 h4 h5
      exact ⟨Classical.not_not.1 h1, fun k hk => Classical.not_not.1 fun hc => h2 ⟨k, hk, hc⟩, h3, h4, Classical.not_not.1 h5⟩
    · rintro ⟨s', e, h1, h2, h3, h4, h5⟩
      cases e
      rw [if_neg (fun h => h h1), if_neg (fun ⟨k, hk, hc⟩ => hc (h2 k hk)), if_neg h3, if_neg h4, if_neg (fun h => h h5)]
theorem okT_more (l : List Nd) : ∀ (t u : Tm), More t u → okT t l → okT u l := by
  induction l with
  | nil => intro t u _ _; trivial
  | cons v l ih =>
    intro t u m h
    obtain ⟨s, h1, h2, h3, h4, h5, h6⟩ := addE_zero.1 h.1
    refine ⟨addE_zero.2 ⟨s, h1, leafOk_more m h2, fun k hk => ?_, h4, by rw [m.S]; exact h5, by rw [m.G]; exact h6⟩, ih (addT t v) (addT u v) ⟨?_, ?_, m.nb, m.nr⟩ h.2⟩
    · have := h3 k hk
      unfold thereV at *
      rw [m.S]; exact this
    · simp [addT, m.S]
    · simp [addT, m.G]

/-- The first of nodes is added. -/
theorem Right9uspec {bools reals : Int} {s : Sl} {ns : List N6} {vs : List Nd} {Q : Bool → Heap → Prop} (ht : Tab h) (q : NRows h s ns vs) (h40 : vs.length ≤ 40) (few : ∀ v ∈ vs, Few v)
    (K : ∀ b h', (b = true ↔ okT ⟨if 0 > bools then 0 else bools, if 0 > reals then 0 else reals, [], []⟩ vs) → Ext h h' → Q b h') : term_Right s bools reals h Q := by
  refine tNew_spec fun a mp h1 q1 e1 => ?_
  have hl := q.slen
  generalize (⟨if 0 > bools then 0 else bools, if 0 > reals then 0 else reals, [], []⟩ : Tm) = t0 at *
  have hS0 : t0.S.length = 0 ∨ True := .inr trivial
  refine loop.inv (fun (s0 : Int) h2 => Ext h h2 ∧ ∃ i : Nat, s0 = (i : Int) ∧ i ≤ vs.length ∧ ∃ w1 w2 w3 t, TT (fun b => h.size ≤ b) h2 a mp w1 w2 w3 t ∧ t.S.length ≤ t0.S.length + i ∧ (okT t0 vs ↔ okT t (vs.drop i))) (fun s0 _ => vs.length - s0.toNat)
    ⟨e1, 0, rfl, Nat.zero_le _, _, _, _, _, q1, Nat.le_refl _, by simp⟩ ?_
  rintro s0 h2 ⟨e2, i, rfl, hi, w1, w2, w3, t, qt, tl, iff⟩
  dsimp only
  rw [hl]
  have hq0 : t0.S.length = 0 := by have := q1.n1.1; simpa [Sl.nil] using this.symm
  refine ⟨fun hlt => ?_, fun hge => ?_⟩
  · simp only [decide_eq_true_eq] at hlt
    have hi' : i < vs.length := by omega
    rw [List.drop_eq_getElem_cons hi'] at iff
    refine (q.ext e2).ld (j := i) rfl hi' fun n nd => mem_ext fun h3 e3 => ?_
    have nd3 := (nd.ext e3).nd (few _ (List.getElem_mem hi'))
    refine tAdd_spec (R.ext ht (e2.trans e3)) (qt.ext e3) (n := (n.1, n.2.1, n.2.2.1, n.2.2.2.1, n.2.2.2.2.1, n.2.2.2.2.2)) nd3 (by omega) (fun hne h4 e4 => ⟨fun _ => ?_, fun hc => ?_⟩) (fun he x1 x2 x3 h4 q4 f4 => ⟨fun hc => by simp at hc, fun _ => ?_⟩)
    · exact K false h4 (by rw [iff]; exact ⟨fun h => by simp at h, fun h => absurd h.1 hne⟩) ((e2.trans e3).trans e4)
    · exact absurd (by simpa using hc) hne
    · have e24 := f4.toExt (e2.trans e3) (fun _ h => h)
      rw [w64 (by omega) (by omega)]
      refine ⟨⟨e24, i + 1, by omega, by omega, x1, x2, x3, _, q4, by rw [addT_len]; omega, by rw [iff]; exact ⟨fun h => h.2, fun h => ⟨he, h⟩⟩⟩, by omega⟩
  · simp only [decide_eq_false_iff_not] at hge
    have : i = vs.length := by omega
    subst this
    rw [List.drop_length] at iff
    exact K true h2 ⟨fun _ => iff.2 trivial, fun _ => rfl⟩ e2
end Go.Sh

namespace Go.Sh
open Go Go.Lift
variable {Z : Nat → Prop} {h h' : Heap} {a : Addr} {mp : Nat} {v1 v2 v3 : Sl} {t : Tm}

theorem shp_ground {op : Int} {s : Int × Int × Int × Int} (h : shp op = some s) (hg : op = 5 ∨ 18 ≤ op) : s.2.2.2 = 2 ∧ op ≠ 11 := by
  unfold shp at h
  by_cases h1 : op = 1 ∨ op = 2 ∨ op = 3
  · omega
  rw [if_neg h1] at h
  by_cases h2 : op = 4 ∨ op = 5
  · rw [if_pos h2] at h; cases h; exact ⟨rfl, by omega⟩
  rw [if_neg h2, if_neg (by omega), if_neg (by omega), if_neg (by omega), if_neg (by omega), if_neg (by omega)] at h
  by_cases h3 : op = 19
  · rw [if_pos h3] at h; cases h; exact ⟨rfl, by omega⟩
  rw [if_neg h3] at h
  by_cases h4 : op = 18 ∨ op = 20 ∨ op = 21
  · rw [if_pos h4] at h; cases h; exact ⟨rfl, by omega⟩
  rw [if_neg h4] at h
  cases h
theorem atI_last {l : List Int} {x : Int} : atI (l ++ [x]) l.length = x := by rw [atI_get (by simp)]; simp
theorem atB_last {l : List Bool} {x : Bool} : atB (l ++ [x]) l.length = x := by rw [atB_get (by simp)]; simp
theorem atB_app {l : List Bool} {x : Bool} {k : Nat} (hk : k < l.length) : atB (l ++ [x]) k = atB l k := by rw [atB_get (by simp; omega), atB_get hk]; simp [List.getElem_append, hk]

theorem TermBeginnings_holds {bools reals cut : Int} {s : Sl} {ns : List N6} {vs : List Nd} {Q : Bool → Heap → Prop} (ht : Tab h) (q : NRows h s ns vs) (K : ∀ h', Ext h h' → Q true h') : law09uTermBeginnings bools reals s cut h Q := by
  refine speaks9uspec ht fun h0 e0 => ⟨fun hc => by simp at hc, fun _ => ?_⟩
  have hl := q.slen
  refine seq.cut (fun (b : Bool) h1 => Ext h h1 ∧ (b = false → vs.length ≤ 40 ∧ (∀ v ∈ vs, Few v) ∧ 0 ≤ bools ∧ 0 ≤ reals ∧ bools ≤ 1000 ∧ reals ≤ 1000 ∧ okT ⟨bools, reals, [], []⟩ vs)) ?_ ?_
  · refine Great9uspec (q.ext e0) (fun h1 e1 => ⟨fun _ => ⟨e0.trans e1, nofun⟩, fun hc => by simp at hc⟩) fun h1 e1 h40 few => ⟨fun hc => by simp at hc, fun _ => ?_⟩
    have e01 := e0.trans e1
    refine ⟨fun _ => ⟨e01, nofun⟩, fun c2 => ⟨fun _ => ⟨e01, nofun⟩, fun c3 => ⟨fun _ => ⟨e01, nofun⟩, fun c4 => ⟨fun _ => ⟨e01, nofun⟩, fun c5 => ?_⟩⟩⟩⟩
    simp only [decide_eq_false_iff_not] at c2 c3 c4 c5
    refine Right9uspec (R.ext ht e01) (q.ext e01) h40 few fun b h2 hb e2 => ⟨e01.trans e2, fun hf => ?_⟩
    rw [if_neg (by omega), if_neg (by omega)] at hb
    exact ⟨h40, few, by omega, by omega, by omega, by omega, hb.1 (by simpa using hf)⟩
  rintro b h1 ⟨e1, hb⟩
  refine ⟨fun _ => K h1 e1, fun hf => ?_⟩
  obtain ⟨h40, few, b0, r0, b1, r1, ok⟩ := hb hf
  refine seq.cut (fun (b : Bool) h2 => Ext h h2 ∧ b = false) ?_ ?_
  · rw [hl, w64 (n := (vs.length : Int) + 1) (by omega) (by omega)]
    refine ⟨by omega, ?_⟩
    generalize hm : (IntKind.wrap .i64 (((BitVec.ofInt (IntKind.bits .i64) cut &&& BitVec.ofInt (IntKind.bits .i64) 65535).toNat : Int))) = m
    have hm0 : 0 ≤ m := by
      rw [← hm]
      have : (BitVec.ofInt (IntKind.bits .i64) cut &&& BitVec.ofInt (IntKind.bits .i64) 65535).toNat ≤ 65535 := by
        rw [BitVec.toNat_and]
        exact Nat.and_le_right
      rw [w64 (by omega) (by omega)]
      omega
    have hj : Int.tmod m ((vs.length : Int) + 1) = ((m.toNat % (vs.length + 1) : Nat) : Int) := by
      obtain ⟨n, rfl⟩ := Int.eq_ofNat_of_zero_le hm0
      rw [show ((vs.length : Int) + 1) = ((vs.length + 1 : Nat) : Int) by simp, Int.ofNat_tmod]
      simp
    rw [hj]
    have hlt : m.toNat % (vs.length + 1) < vs.length + 1 := Nat.mod_lt _ (by omega)
    generalize m.toNat % (vs.length + 1) = j at *
    refine (q.ext e1).take (j := j) rfl (by omega) fun s' q' => ?_
    refine Right9uspec (R.ext ht e1) q' (by simp; omega) (fun v hv => few v (List.mem_of_mem_take hv)) fun c h2 hc e2 => ?_
    rw [if_neg (by omega), if_neg (by omega)] at hc
    have ct : c = true := hc.2 (okT_take _ _ _ ok)
    subst ct
    refine ⟨fun hc => by simp at hc, fun _ => ?_⟩
    have e12 := e1.trans e2
    rw [w64 (n := bools + 1) (by omega) (by omega), w64 (n := reals + 2) (by omega) (by omega)]
    refine Right9uspec (R.ext ht e12) (q.ext e12) h40 few fun c h3 hc e3 => ⟨e12.trans e3, ?_⟩
    rw [if_neg (by omega), if_neg (by omega)] at hc
    have ct : c = true := hc.2 (okT_more vs ⟨bools, reals, [], []⟩ _ ⟨rfl, rfl, by show bools ≤ bools + 1; omega, by show reals ≤ reals + 2; omega⟩ ok)
    rw [ct]; rfl
  rintro b h2 ⟨e2, rfl⟩
  refine ⟨fun hc => by simp at hc, fun _ => ?_⟩
  refine tNew_spec fun a mp h3 q3 e3 => ?_
  rw [if_neg (by omega), if_neg (by omega)] at q3
  refine loop.inv (fun (s0 : Int) h4 => Ext h2 h4 ∧ ∃ i : Nat, s0 = (i : Int) ∧ i ≤ vs.length ∧ ∃ w1 w2 w3 t, TT (fun b => h2.size ≤ b) h4 a mp w1 w2 w3 t ∧ t.S.length = i ∧ okT t (vs.drop i)) (fun s0 _ => vs.length - s0.toNat)
    ⟨e3, 0, rfl, Nat.zero_le _, _, _, _, _, q3, rfl, by simpa using ok⟩ ?_
  rintro s0 h4 ⟨e4, i, rfl, hi, w1, w2, w3, t, qt, tl, okt⟩
  dsimp only
  rw [hl]
  refine ⟨fun hlt => ?_, fun hge => K h4 (e2.trans e4)⟩
  simp only [decide_eq_true_eq] at hlt
  have hi' : i < vs.length := by omega
  rw [List.drop_eq_getElem_cons hi'] at okt
  refine seq.cut (fun (_ : Unit) h5 => Ext h2 h5 ∧ ∃ w1 w2 w3 t, TT (fun b => h2.size ≤ b) h5 a mp w1 w2 w3 t ∧ t.S.length = i + 1 ∧ okT t (vs.drop (i + 1))) ?_ ?_
  rotate_left
  · rintro _ h5 ⟨e5, w1, w2, w3, t, qt, tl, okt⟩
    rw [w64 (by omega) (by omega)]
    exact ⟨⟨e5, i + 1, by omega, by omega, w1, w2, w3, t, qt, tl, okt⟩, by omega⟩
  have hnl := q.len
  refine RS.ld (q.rs.ext (e2.trans e4)) (j := i) rfl (by omega) (mem_ext fun h5 e5 => ?_)
  have nd0 := q.nd i (by omega) hi'
  have fv := few _ (List.getElem_mem hi')
  have e25 := e4.trans e5
  generalize ns[i]'(by omega) = n at *
  generalize vs[i] = v at *
  have ndf : ND h5 (n.1, n.2.1, n.2.2.1, n.2.2.2.1, n.2.2.2.2.1, n.2.2.2.2.2) v := (nd0.ext (e2.trans e25)).nd fv
  refine tAdd_spec (R.ext ht (e2.trans e25)) (qt.ext e5) ndf (by omega) (fun hne h6 e6 => absurd okt.1 hne) fun he x1 x2 x3 h6 q6 f6 => ?_
  have e26 := f6.toExt e25 (fun _ h => h)
  refine seq.cut (fun (b : Bool) h7 => h7 = h6 ∧ b = false) ⟨fun hc => by simp at hc, fun _ => ⟨rfl, by rw [tl]; simp⟩⟩ ?_
  rintro b h7 ⟨rfl, rfl⟩
  refine ⟨fun hc => by simp at hc, fun _ => ?_⟩
  have lS := addT_len t v
  have fin : Ext h2 h7 ∧ ∃ w1 w2 w3 t, TT (fun b => h2.size ≤ b) h7 a mp w1 w2 w3 t ∧ t.S.length = i + 1 ∧ okT t (vs.drop (i + 1)) := ⟨e26, x1, x2, x3, _, q6, by omega, okt.2⟩
  have hgl : t.G.length = i := by rw [qt.gl, tl]
  refine Ground_spec q6 ?_
  rw [if_pos ⟨by omega, by omega⟩]
  have hg : atB (addT t v).G (i : Int).toNat = groundV t.G v := by
    show atB (t.G ++ [groundV t.G v]) _ = _
    rw [Int.toNat_natCast, ← hgl, atB_last]
  rw [hg]
  refine ⟨fun _ => fin, fun hgr => ?_⟩
  have hgr : groundV t.G v = true := by simpa using hgr
  simp only [groundV, Bool.and_eq_true, decide_eq_true_eq, List.all_eq_true] at hgr
  obtain ⟨sp, hs, hleaf, hth, hcnt, hso, hfr⟩ := addE_zero.1 he
  obtain ⟨s2, n11⟩ := shp_ground hs hgr.1
  have hsort : sortedV t.S v sp = 2 := by
    unfold sortedV at hso ⊢
    rw [if_neg n11] at hso ⊢
    split
    · exact s2
    · rename_i hc; rw [if_neg hc] at hso; exact absurd rfl hso
  refine Sort_spec q6 ?_
  rw [if_pos ⟨by omega, by omega⟩]
  have hS : atI (addT t v).S (i : Int).toNat = 2 := by
    show atI (t.S ++ [sortedV t.S v ((shp v.op).getD (0, 0, 0, 0))]) _ = _
    rw [Int.toNat_natCast, ← tl, atI_last, hs]
    exact hsort
  rw [hS]
  refine ⟨fun hc => by simp at hc, fun _ => ?_⟩
  have kr := (nd0.ext (e2.trans e26)).kids
  have hkl := kr.len
  refine loop.inv (fun (s1 : Int) h8 => h8 = h7 ∧ ∃ k : Nat, s1 = (k : Int) ∧ k ≤ v.kids.length) (fun s1 _ => v.kids.length - s1.toNat) ⟨rfl, 0, rfl, Nat.zero_le _⟩ ?_
  rintro s1 h8 ⟨rfl, k, rfl, hk⟩
  dsimp only at hkl ⊢
  rw [hkl]
  refine ⟨fun hlt => ?_, fun _ => fin⟩
  simp only [decide_eq_true_eq] at hlt
  have hk' : k < v.kids.length := by omega
  refine RJ.ld kr (j := k) rfl hk' (Ground_spec q6 ?_)
  rw [atI_get hk']
  have h1 := hth _ (List.getElem_mem hk')
  have h2 := hgr.2 _ (List.getElem_mem hk')
  unfold thereV at h1
  rw [if_pos ⟨h1.1, by omega⟩]
  have h3 : atB (addT t v).G (v.kids[k]).toNat = true := by
    show atB (t.G ++ [groundV t.G v]) _ = _
    rw [atB_app (by omega)]; exact h2
  rw [h3]
  refine ⟨fun hc => by simp at hc, fun _ => ?_⟩
  have := ndf.kl
  rw [w64 (by omega) (by omega)]
  exact ⟨⟨rfl, k + 1, by omega, by omega⟩, by omega⟩
end Go.Sh

namespace Go.Sh
open Go Go.Lift
def RowJ (h : Heap) (s : Sl) : Prop := ∃ xs, RJ h s xs
theorem is_i64s {h : Heap} {cs : List Value} (H : (Shape.slice (.int .i64)).Is h cs) : ∃ s : Sl, cs = [Sl.toV s] ∧ RowJ h s := by
  obtain ⟨s, rows, rfl, hr, hall⟩ := H
  have hrow : ∀ i (hi : i < rows.length), ∃ n : Int, rows[i] = [.int .i64 n] := by
    intro i hi
    obtain ⟨n, e, _⟩ := hall _ (List.getElem_mem hi)
    exact ⟨n, e⟩
  let xs : List Int := rows.map fun r => match r with | [.int _ n] => n | _ => 0
  have hlen : xs.length = rows.length := by simp [xs]
  have hx : ∀ i (hi : i < rows.length) (hj : i < xs.length), rows[i] = [.int .i64 xs[i]] := by
    intro i hi hj
    obtain ⟨n, e⟩ := hrow i hi
    have : xs[i] = n := by simp [xs, e]
    rw [this]; exact e
  refine ⟨s, rfl, xs, ?_⟩
  by_cases h0 : rows.length = 0
  · have : xs = [] := List.eq_nil_of_length_eq_zero (by omega)
    rw [this]
    exact R.nil_of (by rw [hr.len, h0]) |> fun r => ⟨by rw [hr.len, h0]; rfl, hr.cap, r.cells⟩
  · obtain ⟨a, ha, _⟩ := hr.cells 0 (by omega)
    refine R.mk' (by rw [hr.len, hlen]) hr.cap a ha fun i hi => ?_
    obtain ⟨a', ha', hc⟩ := hr.cells i (by omega)
    rw [ha] at ha'; cases ha'
    rw [hx i (by omega) hi] at hc
    simp only [Shape.size, Nat.mul_one, cells?] at hc
    split at hc
    · rename_i v r h1 h2
      simp only [Option.some.injEq, List.cons.injEq] at hc
      rw [hc.1, addr_add_add] at h1
      exact h1
    · cases hc
abbrev shNode : Shape := .cat (.int .i64) (.cat (.int .i64) (.cat (.slice (.int .i64)) (.cat shQ .nil)))
def RawNodes (h : Heap) (s : Sl) : Prop := ∃ ns vs, NRows h s ns vs
theorem is_node {h : Heap} {cs : List Value} (H : shNode.Is h cs) : ∃ n : N6, cs = C_i64ui64usl_bool_sl_sl n ∧ ∃ v, NDR h n v := by
  obtain ⟨l1, r1, rfl, ⟨k, rfl, _⟩, l2, r2, rfl, ⟨n, rfl, _⟩, l3, r3, rfl, hb, l4, r4, rfl, hq, rfl⟩ := H
  obtain ⟨s, rfl, xs, hs⟩ := is_i64s hb
  obtain ⟨x, rfl, us, ws, hX⟩ := is_q hq
  exact ⟨(k, n, s, x.1, x.2.1, x.2.2), rfl, ⟨k, n, xs, x.1, us, ws⟩, rfl, rfl, hs, rfl, hX⟩
theorem is_nodes {h : Heap} {cs : List Value} (H : (Shape.slice shNode).Is h cs) : ∃ s : Sl, cs = [Sl.toV s] ∧ RawNodes h s := by
  obtain ⟨s, rows, rfl, hr, hall⟩ := H
  have : ∃ (ns : List N6) (vs : List Nd), rows = ns.map C_i64ui64usl_bool_sl_sl ∧ ns.length = vs.length ∧ ∀ i (h1 : i < ns.length) (h2 : i < vs.length), NDR h ns[i] vs[i] := by
    have hlen := hr.len
    clear hr hlen
    induction rows with
    | nil => exact ⟨[], [], rfl, rfl, fun i hi => absurd hi (by simp)⟩
    | cons r rows ih =>
      obtain ⟨n, hn, v, hv⟩ := is_node (hall r (by simp))
      obtain ⟨ns, vs, h1, h2, h3⟩ := ih fun r hr => hall r (List.mem_cons_of_mem _ hr)
      refine ⟨n :: ns, v :: vs, by simp [hn, h1], by simp [h2], fun i g1 g2 => ?_⟩
      cases i with
      | zero => exact hv
      | succ i => exact h3 i (by simpa using g1) (by simpa using g2)
  obtain ⟨ns, vs, rfl, h2, h3⟩ := this
  refine ⟨s, rfl, ns, vs, ⟨by simpa using hr.len, fun i hi => ?_⟩, hr.cap, h2, h3⟩
  obtain ⟨a, ha, hc⟩ := hr.cells i (by simpa using hi)
  exact ⟨a, ha, by simpa [Shape.size] using hc⟩
end Go.Sh
