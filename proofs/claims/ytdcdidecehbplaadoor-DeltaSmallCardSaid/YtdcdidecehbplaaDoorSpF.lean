/-
  Laws that the proof of this claim's statement leans on, each proved under the conditions that it states.
-/
import Derived.Test.YtdcdidecehbplaaDoorSpE
set_option linter.unusedVariables false
set_option linter.unusedSimpArgs false
namespace Go.Sh
open Go Go.Lift

theorem sign_mul' (a b : Rat) : (a * b).num.sign = a.num.sign * b.num.sign := by
  rw [← mul_mk]
  have hd : a.den * b.den ≠ 0 := Nat.mul_ne_zero a.den_nz b.den_nz
  have h1 := mk_neg (a.num * b.num) hd
  have h2 : (mkRat (a.num * b.num) (a.den * b.den)).num = 0 ↔ a.num * b.num = 0 := by rw [Rat.num_eq_zero, Rat.mkRat_eq_zero hd]
  rw [← Int.sign_mul]
  generalize a.num * b.num = z at *
  generalize (mkRat z (a.den * b.den)).num = w at *
  rcases Int.lt_trichotomy z 0 with h | h | h
  · rw [Int.sign_eq_neg_one_of_neg h, Int.sign_eq_neg_one_of_neg (h1.2 h)]
  · rw [h, h2.2 h]
  · rw [Int.sign_eq_one_of_pos h, Int.sign_eq_one_of_pos]
    have : ¬ w < 0 := fun h' => by have := h1.1 h'; omega
    have : w ≠ 0 := fun h' => by have := h2.1 h'; omega
    omega

theorem DeltaTold_holds {limbs : Int} {x y : X6} {k : X3} {h : Heap} {Q : Bool → Heap → Prop} (ht : Tab h) (hx : Raw6 h x) (hy : Raw6 h y) (hk : Raw3 h k) (K : ∀ h', Ext h h' → Q true h') : law03uDeltaTold limbs x y k h Q := by
  refine new_cells fun cx h1 hcx _ e1 => new_cells fun cy h2 hcy _ e2 => new_cells fun ck h3 hck _ e3 => ?_
  have e03 := e1.trans (e2.trans e3)
  refine speaks3uspec fun h4 e4 => ⟨nofun, fun _ => ?_⟩
  have e04 := e03.trans e4
  -- what lies in the variables
  have CX : ∀ {h' : Heap}, Ext h4 h' → cells? h' cx 6 0 = some (C_bool_sl_sl_bool_sl_sl x) := fun e => cells_ext (e2.trans (e3.trans (e4.trans e))) hcx
  have CY : ∀ {h' : Heap}, Ext h4 h' → cells? h' cy 6 0 = some (C_bool_sl_sl_bool_sl_sl y) := fun e => cells_ext (e3.trans (e4.trans e)) hcy
  have CK : ∀ {h' : Heap}, Ext h4 h' → cells? h' ck 3 0 = some (C_bool_sl_sl k) := fun e => cells_ext (e4.trans e) hck
  clear hcx hcy hck
  refine ⟨x, CX (Keep.refl _ _), y, CY (Keep.refl _ _), k, CK (Keep.refl _ _), ?_⟩
  intro T
  have hr : RR6 (h4.push (.cells [Value.bool x.1, Sl.toV x.2.1, Sl.toV x.2.2.1, Value.bool x.2.2.2.1, Sl.toV x.2.2.2.2.1, Sl.toV x.2.2.2.2.2, Value.bool y.1, Sl.toV y.2.1, Sl.toV y.2.2.1, Value.bool y.2.2.2.1, Sl.toV y.2.2.2.2.1, Sl.toV y.2.2.2.2.2, Value.bool k.1, Sl.toV k.2.1, Sl.toV k.2.2, Value.bool false, Sl.toV Sl.nil, Sl.toV Sl.nil].toArray T (0, 0))) ⟨some ⟨h4.size, 0, none⟩, 3, 3⟩ [x, y, (k.1, k.2.1, k.2.2, false, Sl.nil, Sl.nil)] := RS.new len6 rfl rfl
  have e5 : Ext h4 (h4.push (.cells [Value.bool x.1, Sl.toV x.2.1, Sl.toV x.2.2.1, Value.bool x.2.2.2.1, Sl.toV x.2.2.2.2.1, Sl.toV x.2.2.2.2.2, Value.bool y.1, Sl.toV y.2.1, Sl.toV y.2.2.1, Value.bool y.2.2.2.1, Sl.toV y.2.2.2.2.1, Sl.toV y.2.2.2.2.2, Value.bool k.1, Sl.toV k.2.1, Sl.toV k.2.2, Value.bool false, Sl.toV Sl.nil, Sl.toV Sl.nil].toArray T (0, 0))) := Ext.push _ _
  generalize h4.push (.cells [Value.bool x.1, Sl.toV x.2.1, Sl.toV x.2.2.1, Value.bool x.2.2.2.1, Sl.toV x.2.2.2.2.1, Sl.toV x.2.2.2.2.2, Value.bool y.1, Sl.toV y.2.1, Sl.toV y.2.2.1, Value.bool y.2.2.2.1, Sl.toV y.2.2.2.2.1, Sl.toV y.2.2.2.2.2, Value.bool k.1, Sl.toV k.2.1, Sl.toV k.2.2, Value.bool false, Sl.toV Sl.nil, Sl.toV Sl.nil].toArray T (0, 0)) = h5 at *
  have hraw : ∀ z ∈ [x, y, (k.1, k.2.1, k.2.2, false, Sl.nil, Sl.nil)], Raw6 h z := by
    intro z hz
    simp only [List.mem_cons, List.not_mem_nil, or_false] at hz
    rcases hz with rfl | rfl | rfl
    · exact hx
    · exact hy
    · exact ⟨hk, Raw3.nil⟩
  refine Odd_spec hr (e04.trans e5) (by simp) hraw fun b h6 hb e6 => ⟨fun _ => K h6 (e04.trans (e5.trans e6)), fun hf => ?_⟩
  have hall := hb hf
  obtain ⟨p, hp, sp⟩ := hall x (by simp)
  obtain ⟨q, hq, sq⟩ := hall y (by simp)
  obtain ⟨c2, hc, sc⟩ := hall (k.1, k.2.1, k.2.2, false, Sl.nil, Sl.nil) (by simp)
  have hkc : RQ h k c2.1 := hc.a
  have szc : szQ c2.1 ≤ 6 := by unfold szD at sc; omega
  generalize c2.1 = c at *
  have e46 := e5.trans e6
  have e06 := e04.trans e46
  have sadd := szD_add p q; have ssub := szD_sub p q; have ssc := szD_sc c p
  refine seq.cut (fun t h7 => DD h7 (t.1, t.2.1, t.2.2.1, t.2.2.2.1, t.2.2.2.2.1, t.2.2.2.2.2.1) p ∧ DD h7 t.2.2.2.2.2.2 q ∧ Ext h4 h7) ?_ ?_
  · refine ⟨x, CX e46, y, CY e46, mem_ext fun h7 e7 => OfDD_spec ((hp.ext e06).ext e7) (by omega) fun r1 h8 hr1 e8 => ⟨CY (e46.trans (e7.trans e8)), mem_ext fun h9 e9 => OfDD_spec ((hq.ext e06).ext (e7.trans (e8.trans e9))) (by omega) fun r2 h10 hr2 e10 => mem_ext fun h11 e11 => ?_⟩⟩
    exact ⟨((hr1.ext e9).ext e10).ext e11, hr2.ext e11, e46.trans (e7.trans (e8.trans (e9.trans (e10.trans e11))))⟩
  rintro ⟨x1, x2, x3, x4, x5, x6, y'⟩ h7 ⟨hdx, hdy, e47⟩
  simp only at hdx hdy
  refine seq.cut (fun t h8 => t = true ∧ Ext h4 h8) ?_ ?_
  · refine AddDD_spec hdx hdy (by omega) fun w1 h8 hw1 e8 => ?_
    have e48 := e47.trans e8
    refine (toldG_spec (f := fun v h k => law03uDeltaTold_c1 v cx cy h k) hw1 (by omega) (fun a h' Q' hb' e' ha' k' => ?_) (fun h9 e9 => ?_) : law03utold__law03uDeltaTold_c1 limbs cx cy _ h8 _)
    · have e4' := e48.trans e'
      have e0' := e04.trans e4'
      have ha0 : h.size ≤ a.block := by have := (e04.trans e48).size; omega
      refine mem_ext fun h9 e9 => ⟨x, CX (e4'.trans e9), y, CY (e4'.trans e9), ?_⟩
      refine AddE_spec (ht.tb (e0'.trans e9) ha0) (hb'.ext e9) (hp.df (e0'.trans e9) ha0) (hq.df (e0'.trans e9) ha0) (by omega) fun r h10 hb10 k10 hr10 _ => k' r h10 (by simpa using hb10) ((Keep.of_ext e9).trans k10) (by simpa using hr10)
    · refine ⟨fun _ => ?_, nofun⟩
      have e49 := e48.trans e9
      refine NegDD_spec (hdy.ext (e8.trans e9)) fun w2 h10 hw2 e10 => AddDD_spec ((hdx.ext (e8.trans e9)).ext e10) hw2 (by unfold szD negD at *; simp only [neg_sz]; omega) fun w3 h11 hw3 e11 => ?_
      rw [addneg] at hw3
      have e411 := e49.trans (e10.trans e11)
      refine (toldG_spec (f := fun v h k => law03uDeltaTold_c2 v cx cy h k) hw3 (by omega) (fun a h' Q' hb' e' ha' k' => ?_) (fun h12 e12 => ?_) : law03utold__law03uDeltaTold_c2 limbs cx cy _ h11 _)
      · have e4' := e411.trans e'
        have e0' := e04.trans e4'
        have ha0 : h.size ≤ a.block := by have := (e04.trans e411).size; omega
        refine mem_ext fun h9 e9 => ⟨x, CX (e4'.trans e9), y, CY (e4'.trans e9), ?_⟩
        refine SubE_spec (ht.tb (e0'.trans e9) ha0) (hb'.ext e9) (hp.df (e0'.trans e9) ha0) (hq.df (e0'.trans e9) ha0) (by omega) fun r h10 hb10 k10 hr10 _ => k' r h10 (by simpa using hb10) ((Keep.of_ext e9).trans k10) (by simpa using hr10)
      · refine ⟨fun _ => ?_, nofun⟩
        have e412 := e411.trans e12
        refine ⟨k, CK e412, ?_⟩
        refine OfQ_spec (hkc.ext (e04.trans e412)) (by omega) fun w4 h13 hw4 e13 => ?_
        have e713 : Ext h7 h13 := e8.trans (e9.trans (e10.trans (e11.trans (e12.trans e13))))
        refine ScaleDD_spec hw4 (hdx.ext e713) (by omega) fun w5 h14 hw5 e14 => ?_
        have e414 := e412.trans (e13.trans e14)
        refine (toldG_spec (f := fun v h k => law03uDeltaTold_c3 v ck cx h k) hw5 (by omega) (fun a h' Q' hb' e' ha' k' => ?_) (fun h15 e15 => ?_) : law03utold__law03uDeltaTold_c3 limbs ck cx _ h14 _)
        · have e4' := e414.trans e'
          have e0' := e04.trans e4'
          have ha0 : h.size ≤ a.block := by have := (e04.trans e414).size; omega
          refine mem_ext fun h9 e9 => ⟨k, CK (e4'.trans e9), x, CX (e4'.trans e9), ?_⟩
          refine ScaleE_spec (ht.tb (e0'.trans e9) ha0) (hb'.ext e9) (hkc.rf (e0'.trans e9) ha0) (hp.df (e0'.trans e9) ha0) (by omega) fun r h10 hb10 k10 hr10 _ => k' r h10 (by simpa using hb10) ((Keep.of_ext e9).trans k10) (by simpa using hr10)
        · refine ⟨fun _ => ?_, nofun⟩
          have e415 := e414.trans e15
          have e715 : Ext h7 h15 := e713.trans (e14.trans e15)
          refine ⟨x, CX e415, y, CY e415, ?_⟩
          have hg := ht.lt
          refine CmpE_spec (hp.ext (e04.trans e415)) (hq.ext (e04.trans e415)) (by omega) (by have := (e04.trans e415).size; omega) fun h16 e16 => ?_
          refine CmpDD_spec (hdx.ext (e715.trans e16)) (hdy.ext (e715.trans e16)) (by omega) fun h17 e17 => ⟨fun _ => ?_, fun hn => by simp at hn⟩
          have e417 := e415.trans (e16.trans e17)
          have e717 := e715.trans (e16.trans e17)
          refine ⟨x, CX e417, ?_⟩
          refine TextE_spec (hp.ext (e04.trans e417)) (by omega) fun h18 e18 => TextDD_spec (hdx.ext (e717.trans e18)) (by omega) fun h19 e19 => ⟨fun _ => ?_, fun hn => by simp at hn⟩
          have e419 := e417.trans (e18.trans e19)
          refine ⟨k, CK e419, k, CK e419, ?_⟩
          refine DOf_spec (hkc.ext (e04.trans e419)) fun h20 hd20 e20 => ⟨CK (e419.trans e20), ?_⟩
          refine SameE_spec hd20 hd20 fun h21 e21 => ?_
          rw [decide_eq_true (rfl : (c, (0 : Rat)) = (c, 0))]
          exact ⟨rfl, e419.trans (e20.trans e21)⟩
  · rintro t h8 ⟨rfl, e8⟩
    exact K h8 (e04.trans e8)
end Go.Sh

namespace Go.Sh
open Go Go.Lift

theorem newRS {α : Type} {toC : α → List Value} {sz : Nat} {h : Heap} {cs : List Value} {xs : List α} {k : Addr → Heap → Prop} (n : Nat) (hsz : ∀ x, (toC x).length = sz) (hn : n = xs.length) (hcs : cs = (xs.map toC).flatten)
    (K : ∀ a h', RS toC sz h' ⟨some a, n, n⟩ xs → a.block = h.size → Ext h h' → k a h') : new cs h k := by
  intro T
  exact K _ _ (RS.new hsz hn hcs) rfl (Ext.push _ _)

/-- A bench at hand. -/
structure BB (h0 : Heap) (a : Addr) (lim : Nat) (h : Heap) : Prop where
  tab : Tab h0
  bench : Bench h a lim false
  ext : Ext h0 h
  old : h0.size ≤ a.block
theorem BB.keep {h0 : Heap} {a : Addr} {lim : Nat} {h h' : Heap} (hv : BB h0 a lim h) (hb : Bench h' a lim false) (k : Keep (some a.block) h h') : BB h0 a lim h' :=
  ⟨hv.tab, hb, hv.ext.fresh hv.old k, hv.old⟩
theorem BB.of_ext {h0 : Heap} {a : Addr} {lim : Nat} {h h' : Heap} (hv : BB h0 a lim h) (k : Ext h h') : BB h0 a lim h' :=
  ⟨hv.tab, hv.bench.ext k, hv.ext.trans k, hv.old⟩
theorem BB.tb {h0 : Heap} {a : Addr} {lim : Nat} {h : Heap} (hv : BB h0 a lim h) : TB a.block h := hv.tab.tb hv.ext hv.old
theorem BB.pos {h0 : Heap} {a : Addr} {lim : Nat} {h : Heap} (hv : BB h0 a lim h) : 0 < h.size := by have := hv.bench.lt; omega

section
variable {h0 h : Heap} {a : Addr} {lim : Nat} {x y : X6} {p q : Rat × Rat} {Q : X6 → Heap → Prop}
theorem fitsD_false {lim : Nat} {q : Rat × Rat} (h : szD q ≤ lim) : (false || decide (lim < szD q)) = false := by simp; omega
theorem addDB (hv : BB h0 a lim h) (hx : DF a.block h x p) (hy : DF a.block h y q) (hs : szD p + szD q + 2 ≤ lim) (hl : szD p + szD q ≤ 400)
    (K : ∀ r h', BB h0 a lim h' → Keep (some a.block) h h' → DF a.block h' r (addD p q) → Q r h') : delta_Add (some a) x y h Q := by
  have := szD_add p q
  refine AddE_spec hv.tb hv.bench hx hy hl fun r h' hb k hr _ => ?_
  rw [fitsD_false (by omega)] at hb hr
  exact K r h' (hv.keep hb k) k hr
theorem subDB (hv : BB h0 a lim h) (hx : DF a.block h x p) (hy : DF a.block h y q) (hs : szD p + szD q + 2 ≤ lim) (hl : szD p + szD q ≤ 400)
    (K : ∀ r h', BB h0 a lim h' → Keep (some a.block) h h' → DF a.block h' r (subD p q) → Q r h') : delta_Sub (some a) x y h Q := by
  have := szD_sub p q
  refine SubE_spec hv.tb hv.bench hx hy hl fun r h' hb k hr _ => ?_
  rw [fitsD_false (by omega)] at hb hr
  exact K r h' (hv.keep hb k) k hr
theorem scDB {k : X3} {c : Rat} (hv : BB h0 a lim h) (hk : RF a.block h k c) (hx : DF a.block h x p) (hs : szQ c + szD p + 2 ≤ lim) (hl : szQ c + szD p ≤ 400)
    (K : ∀ r h', BB h0 a lim h' → Keep (some a.block) h h' → DF a.block h' r (scD c p) → Q r h') : delta_Scale (some a) k x h Q := by
  have := szD_sc c p
  refine ScaleE_spec hv.tb hv.bench hk hx hl fun r h' hb k hr _ => ?_
  rw [fitsD_false (by omega)] at hb hr
  exact K r h' (hv.keep hb k) k hr
end

theorem cmpD_add (p q r : Rat × Rat) : cmpD (addD p r) (addD q r) = cmpD p q := by
  unfold cmpD addD; simp only [cmpR_add]
theorem cmpD_swap (p q : Rat × Rat) : cmpD q p = - cmpD p q := by
  unfold cmpD
  rw [cmpR_swap p.1 q.1, cmpR_swap p.2 q.2]
  split <;> split <;> omega
theorem cmpR_mul (k p q : Rat) : cmpR (k * p) (k * q) = cmpR p q * k.num.sign := by
  have h : k * p - k * q = k * (p - q) := by grind
  rw [← cmpR_sub, ← cmpR_sub, h, sign_mul', Int.mul_comm]
theorem cmpD_sc (k : Rat) (p q : Rat × Rat) : cmpD (scD k p) (scD k q) = cmpD p q * k.num.sign := by
  unfold cmpD scD
  simp only [cmpR_mul]
  by_cases hk : k.num.sign = 0
  · simp [hk]
  · by_cases h1 : cmpR p.1 q.1 = 0
    · simp [h1]
    · have h2 : cmpR p.1 q.1 * k.num.sign ≠ 0 := Int.mul_ne_zero h1 hk
      simp [h1, h2]
theorem cmpD_range (p q : Rat × Rat) : -1 ≤ cmpD p q ∧ cmpD p q ≤ 1 := by
  unfold cmpD; split
  · exact cmpR_range _ _
  · exact cmpR_range _ _
theorem sub_addD (p q : Rat × Rat) : subD (addD p q) q = p := by
  unfold subD addD; ext <;> simp only <;> grind
theorem sign_range (z : Int) : -1 ≤ z.sign ∧ z.sign ≤ 1 := by
  rcases Int.lt_trichotomy z 0 with h | h | h
  · rw [Int.sign_eq_neg_one_of_neg h]; omega
  · rw [h]; simp
  · rw [Int.sign_eq_one_of_pos h]; omega
theorem mul_small {a b : Int} (h1 : -1 ≤ a ∧ a ≤ 1) (h2 : -1 ≤ b ∧ b ≤ 1) : -1 ≤ a * b ∧ a * b ≤ 1 := by
  have h3 : a = -1 ∨ a = 0 ∨ a = 1 := by omega
  rcases h3 with rfl | rfl | rfl <;> omega

theorem DeltaRules_holds {x y z : X6} {k : X3} {h : Heap} {Q : Bool → Heap → Prop} (ht : Tab h) (hx : Raw6 h x) (hy : Raw6 h y) (hz : Raw6 h z) (hk : Raw3 h k) (K : ∀ h', Ext h h' → Q true h') : law03uDeltaRules x y z k h Q := by
  refine mem_ext fun h1 e1 => speaks3uspec fun h2 e2 => ⟨nofun, fun _ => ?_⟩
  have e02 := e1.trans e2
  refine newRS (xs := [x, y, z, (k.1, k.2.1, k.2.2, false, Sl.nil, Sl.nil)]) 4 len6 rfl rfl fun l h3 hr hl e3 => ?_
  have e03 := e02.trans e3
  have hraw : ∀ w ∈ [x, y, z, (k.1, k.2.1, k.2.2, false, Sl.nil, Sl.nil)], Raw6 h w := by
    intro w hw
    simp only [List.mem_cons, List.not_mem_nil, or_false] at hw
    rcases hw with rfl | rfl | rfl | rfl
    · exact hx
    · exact hy
    · exact hz
    · exact ⟨hk, Raw3.nil⟩
  refine Odd_spec hr e03 (by simp) hraw fun b h4 hb e4 => ⟨fun _ => K h4 (e03.trans e4), fun hf => ?_⟩
  have hall := hb hf
  obtain ⟨p, hp, sp⟩ := hall x (by simp)
  obtain ⟨q, hq, sq⟩ := hall y (by simp)
  obtain ⟨r, hr3, sr⟩ := hall z (by simp)
  obtain ⟨c2, hc, sc⟩ := hall (k.1, k.2.1, k.2.2, false, Sl.nil, Sl.nil) (by simp)
  have hkc : RQ h k c2.1 := hc.a
  have szc : szQ c2.1 ≤ 6 := by unfold szD at sc; omega
  generalize c2.1 = c at *
  have e04 := e03.trans e4
  refine New_spec fun a h5 hb5 hab e5 => ?_
  have hah : h.size ≤ a.block := by have := e04.size; omega
  have V5 : BB h a 1000 h5 := ⟨ht, hb5, e04.trans e5, hah⟩
  have X : ∀ {h' : Heap}, BB h a 1000 h' → DF a.block h' x p := fun v => hp.df v.ext v.old
  have Y : ∀ {h' : Heap}, BB h a 1000 h' → DF a.block h' y q := fun v => hq.df v.ext v.old
  have Z : ∀ {h' : Heap}, BB h a 1000 h' → DF a.block h' z r := fun v => hr3.df v.ext v.old
  have C : ∀ {h' : Heap}, BB h a 1000 h' → RF a.block h' k c := fun v => hkc.rf v.ext v.old
  have rg := cmpD_range q p
  have rg' := cmpD_range p q
  have a1 := szD_add p r; have a2 := szD_add q r; have a3 := szD_add p q; have a4 := szD_sc c p; have a5 := szD_sc c q
  refine CmpE_spec (X V5).dq (Y V5).dq (by omega) V5.pos fun h6 e6 => ?_
  have V6 := V5.of_ext e6
  refine seq.cut (fun t h7 => t = false ∧ BB h a 1000 h7) ?_ ?_
  · refine addDB V6 (X V6) (Z V6) (by omega) (by omega) fun r1 h7 v7 k7 R1 => ?_
    refine addDB v7 (Y v7) (Z v7) (by omega) (by omega) fun r2 h8 v8 k8 R2 => ?_
    refine CmpE_spec (R1.keep k8).dq R2.dq (by omega) v8.pos fun h9 e9 => ?_
    rw [cmpD_add]
    refine ⟨fun hn => by simp at hn, fun _ => ?_⟩
    have v9 := v8.of_ext e9
    refine CmpE_spec (Y v9).dq (X v9).dq (by omega) v9.pos fun h10 e10 => ?_
    have v10 := v9.of_ext e10
    rw [w64 (by omega) (by omega), cmpD_swap p q]
    refine ⟨fun hn => by simp at hn, fun _ => ?_⟩
    refine addDB v10 (X v10) (Y v10) (by omega) (by omega) fun r3 h11 v11 k11 R3 => ?_
    refine subDB v11 R3 (Y v11) (by omega) (by omega) fun r4 h12 v12 k12 R4 => ?_
    rw [sub_addD] at R4
    refine SameE_spec R4.dq (X v12).dq fun h13 e13 => ?_
    rw [decide_eq_true rfl]
    exact ⟨rfl, v12.of_ext e13⟩
  rintro t h7 ⟨rfl, v7⟩
  refine ⟨nofun, fun _ => ?_⟩
  refine scDB v7 (C v7) (X v7) (by omega) (by omega) fun r1 h8 v8 k8 R1 => ?_
  refine scDB v8 (C v8) (Y v8) (by omega) (by omega) fun r2 h9 v9 k9 R2 => ?_
  refine CmpE_spec (R1.keep k9).dq R2.dq (by omega) v9.pos fun h10 e10 => ?_
  have v10 := v9.of_ext e10
  refine Sign_spec (C v10).rq fun h11 e11 => ?_
  have v11 := v10.of_ext e11
  have ms := mul_small rg' (sign_range c.num)
  rw [cmpD_sc, w64 (by omega) (by omega)]
  refine ⟨fun hn => by simp at hn, fun _ => ?_⟩
  refine mem_ext fun h12 e12 => ?_
  have v12 := v11.of_ext e12
  refine seq.cut (fun t h13 => t = true ∧ BB h a 1000 h13) ?_ ?_
  · have sp' := sp; have sq' := sq; have sr' := sr
    unfold szD at sp' sq' sr'
    refine CmpR_spec (X v12).dq.a (Y v12).dq.a (by omega) v12.pos fun h13 e13 => ?_
    have v13 := v12.of_ext e13
    refine ⟨fun _ => ⟨rfl, v13⟩, fun hne => ?_⟩
    have hne' : cmpR p.1 q.1 ≠ 0 := by simpa using hne
    have hw : DQ h13 (x.1, x.2.1, x.2.2.1, z.2.2.2.1, z.2.2.2.2.1, z.2.2.2.2.2) (p.1, r.2) := ⟨(X v13).dq.a, (Z v13).dq.b⟩
    refine CmpE_spec hw (Y v13).dq (by unfold szD; simp only; omega) v13.pos fun h14 e14 => ⟨?_, v13.of_ext e14⟩
    unfold cmpD
    simp [hne']
  · rintro t h13 ⟨rfl, v13⟩
    exact K _ v13.ext
end Go.Sh

namespace Go.Sh
open Go Go.Lift

abbrev One := { v : Value // one v = true }
def Sl.sc (sz : Nat) (s : Sl) : Sl := ⟨s.a, s.len * sz, s.cap * sz⟩
theorem Sl.sc_blk {sz : Nat} {s : Sl} : (Sl.sc sz s).blk = s.blk := rfl

/-- An append of rows of several cells, out of one of as many cells. -/
theorem appendS_sc {sz bytes : Nat} (hsz : 0 < sz) {s x : Sl} {h : Heap} {k : Sl → Heap → Prop} (hb : (s.len + x.len) * bytes ≤ 2 ^ 46)
    (H : appendS 1 0 (Sl.sc sz s) (Sl.sc sz x) h fun s' h' => ∀ s'', Sl.sc sz s'' = s' → k s'' h') : appendS sz bytes s x h k := by
  obtain ⟨vs, h1, h2, _, h4, h5⟩ := H
  simp only [Sl.sc, Nat.mul_one] at h1 h4 h5
  refine ⟨vs, h1, h2, hb, fun hf => ?_, fun hg => ?_⟩
  · have h6 := h4 (by rw [← Nat.add_mul]; exact Nat.mul_le_mul_right _ hf)
    cases ha : s.a with
    | none =>
      rw [ha] at h6
      exact h6 _ (by simp [Sl.sc, Nat.add_mul])
    | some a =>
      rw [ha] at h6
      exact ⟨h6.1, h6.2 _ (by simp [Sl.sc, Nat.add_mul])⟩
  · obtain ⟨old, h6, h7⟩ := h5 (by rw [← Nat.add_mul]; exact Nat.mul_lt_mul_of_pos_right hg hsz)
    refine ⟨old, h6, fun cap T rest hc hr => ?_⟩
    exact h7 (cap * sz) T rest (by rw [← Nat.add_mul]; exact Nat.mul_le_mul_right _ hc) (by rw [hr, Nat.sub_mul, Nat.add_mul]) _ (by simp [Sl.sc, Nat.add_mul])

def flat {α : Type} (toC : α → List Value) (xs : List α) : List Value := (xs.map toC).flatten
theorem flat_append {α : Type} {toC : α → List Value} {xs ys : List α} : flat toC (xs ++ ys) = flat toC xs ++ flat toC ys := by simp [flat]
theorem flat_len {α : Type} {toC : α → List Value} {sz : Nat} (hsz : ∀ x, (toC x).length = sz) (xs : List α) : (flat toC xs).length = xs.length * sz := by
  induction xs with
  | nil => simp [flat]
  | cons x xs ih => simp [flat] at ih ⊢; rw [ih, hsz, Nat.add_mul]; omega
theorem flat_get {α : Type} {toC : α → List Value} {sz : Nat} (hsz : ∀ x, (toC x).length = sz) : ∀ (xs : List α) (i : Nat) (hi : i < xs.length) (j : Nat) (hj : j < sz), (flat toC xs)[i * sz + j]? = (toC xs[i])[j]? := by
  intro xs
  induction xs with
  | nil => intro i hi; simp at hi
  | cons x xs ih =>
    intro i hi j hj
    have e : flat toC (x :: xs) = toC x ++ flat toC xs := by simp [flat]
    rw [e]
    cases i with
    | zero => rw [List.getElem?_append_left (by rw [hsz]; omega)]; simp
    | succ i =>
      rw [List.getElem?_append_right (by rw [hsz, Nat.add_mul]; omega), hsz]
      have := ih i (by simpa using hi) j hj
      rw [show (i + 1) * sz + j - sz = i * sz + j by rw [Nat.add_mul]; omega]
      simpa using this

structure OwnS {α : Type} (toC : α → List Value) (sz B : Nat) (h : Heap) (s : Sl) (xs : List α) : Prop where
  len : s.len = xs.length
  own : ∃ ys : List One, flat toC xs = ys.map Subtype.val ∧ Own (Subtype.val : One → Value) B h (Sl.sc sz s) ys

theorem ones_of {l : List Value} (h : oneCells l = true) : ∃ ys : List One, l = ys.map Subtype.val := by
  induction l with
  | nil => exact ⟨[], rfl⟩
  | cons v l ih =>
    simp only [oneCells, List.all_cons, Bool.and_eq_true] at h
    obtain ⟨ys, rfl⟩ := ih h.2
    exact ⟨⟨v, h.1⟩ :: ys, rfl⟩

section
variable {α : Type} {toC : α → List Value} {sz B : Nat} {h h' : Heap} {s : Sl} {xs : List α}

theorem OwnS.nil {T n : Nat} : OwnS toC sz h.size (h.push (.cells ([] : List Value).toArray T (0, 0))) ⟨some ⟨h.size, 0, none⟩, 0, 0⟩ ([] : List α) := by
  refine ⟨rfl, [], rfl, ?_⟩
  have := Own.new (toV := (Subtype.val : One → Value)) (ys := []) (cs := []) (h := h) (T := T) rfl
  simpa [Sl.sc] using this
theorem OwnS.keep (ho : OwnS toC sz B h s xs) {o : Option Nat} (k : Keep o h h') (hne : ∀ b, s.blk = some b → some b ≠ o) : OwnS toC sz B h' s xs := by
  obtain ⟨hl, ys, h1, h2⟩ := ho
  exact ⟨hl, ys, h1, h2.keep k hne⟩
theorem OwnS.ext (ho : OwnS toC sz B h s xs) (k : Ext h h') : OwnS toC sz B h' s xs := ho.keep k (fun _ _ => by simp)
theorem OwnS.lt (ho : OwnS toC sz B h s xs) {b : Nat} (hb : s.blk = some b) : B ≤ b ∧ b < h.size := by
  obtain ⟨hl, ys, h1, h2⟩ := ho
  exact h2.lt hb
theorem OwnS.rs (ho : OwnS toC sz B h s xs) (hsz : ∀ x, (toC x).length = sz) (h0 : 0 < sz) : RS toC sz h s xs := by
  obtain ⟨hl, ys, h1, h2⟩ := ho
  have hlen := congrArg List.length h1
  rw [flat_len hsz, List.length_map] at hlen
  refine ⟨hl, fun i hi => ?_⟩
  have hyi : ∀ j, j < sz → i * sz + j < ys.length := by
    intro j hj
    have : (i + 1) * sz ≤ xs.length * sz := Nat.mul_le_mul_right _ hi
    rw [Nat.add_mul] at this
    omega
  obtain ⟨a, ha, _⟩ := h2.r.get (hyi 0 h0)
  refine ⟨a, ha, ?_⟩
  have hh := cells?_mk (h := h) (a := a.add (i * sz)) (toC xs[i]) 0 fun j hj => ?_
  · rwa [hsz] at hh
  rw [hsz] at hj
  obtain ⟨a', ha', hc⟩ := h2.r.get (hyi j hj)
  rw [ha] at ha'; cases ha'
  rw [show (a.add (i * sz)).add (0 + j) = a.add (i * sz + j) by simp only [Addr.add]; by_cases h1 : i * sz = 0 <;> by_cases h2 : j = 0 <;> simp [h1, h2, Nat.add_assoc]]
  rw [hc]
  have h3 := flat_get hsz xs i hi j hj
  rw [h1, List.getElem?_map, List.getElem?_eq_getElem (hyi j hj), List.getElem?_eq_getElem (by rw [hsz]; exact hj)] at h3
  simpa using h3

/-- One more row. -/
theorem OwnS.append1 {bytes : Nat} {x : α} {cs : List Value} {k : Sl → Heap → Prop} (ho : OwnS toC sz B h s xs) (hsz : ∀ x, (toC x).length = sz) (h0 : 0 < sz) (hone : oneCells (toC x) = true) (hB : B ≤ h.size) (hcs : cs = toC x)
    (hb : (xs.length + 1) * bytes ≤ 2 ^ 46) (K : ∀ s' h', OwnS toC sz B h' s' (xs ++ [x]) → Keep s.blk h h' → (s'.blk = s.blk ∨ ∀ b, s'.blk = some b → h.size ≤ b) → k s' h') : new cs h fun a h1 => appendS sz bytes s (⟨some a, 1, 1⟩ : Sl) h1 k := by
  subst hcs
  intro T
  obtain ⟨hl, ys, h1, h2⟩ := ho
  obtain ⟨zs, hz⟩ := ones_of hone
  have e := Ext.push h (.cells (toC x).toArray T (0, 0))
  have hz2 := Own.new (toV := (Subtype.val : One → Value)) (ys := zs) (cs := toC x) (h := h) (T := T) hz
  have hzl : zs.length = sz := by have := congrArg List.length hz; rw [hsz, List.length_map] at this; exact this.symm
  refine appendS_sc h0 (by rw [hl]; exact hb) ?_
  have hx : Sl.sc sz (⟨some ⟨h.size, 0, none⟩, 1, 1⟩ : Sl) = ⟨some ⟨h.size, 0, none⟩, zs.length, zs.length⟩ := by simp [Sl.sc, hzl]
  rw [hx]
  refine (h2.ext e).append (by have := e.size; omega) hz2.r (fun x => x.2) (by simp) fun s' h' ho' k' hblk s'' hs'' => ?_
  subst hs''
  have kk : Keep s.blk h h' := (Keep.of_ext e).trans (by simpa [Sl.sc_blk] using k')
  refine K s'' h' ⟨?_, ys ++ zs, by rw [flat_append, h1, List.map_append, ← hz]; simp [flat], ho'⟩ kk ?_
  · have h3 := ho'.r.len
    have h4 := h2.r.len
    simp only [Sl.sc, List.length_append, hzl] at h3 h4
    have : s''.len * sz = (s.len + 1) * sz := by rw [h3, ← h4, Nat.add_mul, Nat.one_mul]
    have := Nat.eq_of_mul_eq_mul_right h0 this
    simp [this, hl]
  · rcases hblk with hblk | ⟨hblk, _⟩
    · left; simpa [Sl.sc_blk] using hblk
    · right; intro b hb'
      rw [Sl.sc_blk, hb'] at hblk
      cases hblk
      have := e.size; omega
end
end Go.Sh

namespace Go.Sh
open Go Go.Lift

/-- Digits, not in a block. -/
def DNb (k : Nat) (h : Heap) (s : Sl) (n : Nat) : Prop := DN h s n ∧ (n ≠ 0 → s.blk ≠ some k)
theorem DN.zero_of {h h' : Heap} {s : Sl} (hn : DN h s 0) : DN h' s 0 := by
  have := hn.len_zero.2 rfl
  exact ⟨[], R.nil_of this, by intro z hz; simp at hz, by simp [Nrm], rfl⟩
theorem DNb.ext {k : Nat} {h h' : Heap} {s : Sl} {n : Nat} (hn : DNb k h s n) (e : Ext h h') : DNb k h' s n := ⟨hn.1.ext e, hn.2⟩
theorem DNb.keep {k : Nat} {h h' : Heap} {s : Sl} {n : Nat} (hn : DNb k h s n) (e : Keep (some k) h h') : DNb k h' s n := by
  by_cases h0 : n = 0
  · subst h0
    exact ⟨hn.1.zero_of, hn.2⟩
  · exact ⟨hn.1.keepO e (fun b hb hc => hn.2 h0 (by cases hc; exact hb)), hn.2⟩
theorem DN.lt {h : Heap} {s : Sl} {n : Nat} (hn : DN h s n) (h0 : n ≠ 0) {b : Nat} (hb : s.blk = some b) : b < h.size := by
  obtain ⟨xs, h1, h2, h3, h4⟩ := hn
  cases ha : s.a with
  | none => simp [Sl.blk, ha] at hb
  | some a =>
    have : xs ≠ [] := by rintro rfl; exact h0 h4.symm
    have := h1.lt ha this
    simp [Sl.blk, ha] at hb
    omega
theorem DN.b {k : Nat} {h : Heap} {s : Sl} {n : Nat} (hn : DN h s n) (hk : h.size ≤ k) : DNb k h s n := ⟨hn, fun h0 hb => by have := hn.lt h0 hb; omega⟩
theorem DN.fb {k : Nat} {h0 h : Heap} {s : Sl} {n : Nat} (hn : DN h s n) (hf : ∀ b, s.blk = some b → h0.size ≤ b) (hk : k < h0.size) : DNb k h s n := ⟨hn, fun _ hb => by have := hf _ hb; omega⟩

structure RDb (k : Nat) (h : Heap) (x : X3) (q : Rat) : Prop where
  d : RD h x q
  num : DNb k h x.2.1 q.num.natAbs
  den : DNb k h x.2.2 q.den
theorem RDb.ext {k : Nat} {h h' : Heap} {x : X3} {q : Rat} (hn : RDb k h x q) (e : Ext h h') : RDb k h' x q := ⟨hn.d.ext e, hn.num.ext e, hn.den.ext e⟩
theorem RDb.keep {k : Nat} {h h' : Heap} {x : X3} {q : Rat} (hn : RDb k h x q) (e : Keep (some k) h h') : RDb k h' x q :=
  ⟨⟨(hn.num.keep e).1, (hn.den.keep e).1, hn.d.neg⟩, hn.num.keep e, hn.den.keep e⟩
theorem RDb.move {k : Nat} {h : Heap} {x : X3} {q : Rat} (hn : RD h x q) (hk : h.size ≤ k) : RDb k h x q := ⟨hn, hn.num.b hk, hn.den.b hk⟩
theorem RDb.fresh {k : Nat} {h0 h : Heap} {x : X3} {q : Rat} (hn : RD h x q) (hf : Fr h0 x) (hk : k < h0.size) : RDb k h x q := ⟨hn, hn.num.fb hf.1 hk, hn.den.fb hf.2 hk⟩
structure DDb (k : Nat) (h : Heap) (x : X6) (p : Rat × Rat) : Prop where
  a : RDb k h (dA x) p.1
  b : RDb k h (dB x) p.2
theorem DDb.d {k : Nat} {h : Heap} {x : X6} {p : Rat × Rat} (hn : DDb k h x p) : DD h x p := ⟨hn.a.d, hn.b.d⟩
theorem DDb.ext {k : Nat} {h h' : Heap} {x : X6} {p : Rat × Rat} (hn : DDb k h x p) (e : Ext h h') : DDb k h' x p := ⟨hn.a.ext e, hn.b.ext e⟩
theorem DDb.keep {k : Nat} {h h' : Heap} {x : X6} {p : Rat × Rat} (hn : DDb k h x p) (e : Keep (some k) h h') : DDb k h' x p := ⟨hn.a.keep e, hn.b.keep e⟩
theorem DDb.move {k : Nat} {h : Heap} {x : X6} {p : Rat × Rat} (hn : DD h x p) (hk : h.size ≤ k) : DDb k h x p := ⟨RDb.move hn.a hk, RDb.move hn.b hk⟩
theorem DDb.fresh {k : Nat} {h0 h : Heap} {x : X6} {p : Rat × Rat} (hn : DD h x p) (hf : Fr6 h0 x) (hk : k < h0.size) : DDb k h x p := ⟨RDb.fresh hn.a hf.1 hk, RDb.fresh hn.b hf.2 hk⟩

theorem new1DF {h : Heap} {n : Nat} {k : Addr → Heap → Prop} (h0 : n ≠ 0) (hn : n < 10) (K : ∀ a h', DN h' ⟨some a, 1, 1⟩ n → a.block = h.size → Ext h h' → k a h') : new [Value.int .i64 (n : Int)] h k := by
  intro T
  have := (Own.new (toV := fun m : Nat => Value.int .i64 (m : Int)) (ys := [n]) (cs := [Value.int .i64 (n : Int)]) (h := h) (T := T) rfl).r
  exact K _ _ ⟨[n], this, by intro z hz; simp at hz; omega, by simp [Nrm]; omega, by simp [val]⟩ rfl (Ext.push _ _)

theorem OfRF_spec {h : Heap} {x : Bool × Sl × Sl} {xs ys : List Nat} {Q : (Bool × Sl × Sl) → Heap → Prop} (hx : XR h x xs ys) (lx : xs.length ≤ 1000) (ly : ys.length ≤ 1000)
    (K : ∀ r h', DN h' r.2.1 (val 4294967296 xs) → DN h' r.2.2 (if val 4294967296 ys = 0 then 1 else val 4294967296 ys) → r.1 = x.1 → Fr h r → Ext h h' → Q r h') : ref02uOf x h Q := by
  refine mem_ext fun h1 e1 => ?_
  refine seq.cut (fun t h2 => DN h2 t.2.1 (val 4294967296 xs) ∧ DN h2 t.2.2 (val 4294967296 ys) ∧ t.1 = x.1 ∧ Fr h t ∧ Ext h h2) ?_ ?_
  · refine mem_ext fun h2 e2 => ?_
    have X := (hx.ext e1).ext e2
    refine Of10uspec X.num X.lnum lx fun r1 h3 hr1 e3 f1 => mem_ext fun h4 e4 => ?_
    have Y := (X.ext e3).ext e4
    refine Of10uspec Y.den Y.lden ly fun r2 h5 hr2 e5 f2 => mem_ext fun h6 e6 => ?_
    have s1 := e1.size; have s2 := e2.size; have s3 := e3.size; have s4 := e4.size
    exact ⟨((hr1.ext e4).ext e5).ext e6, hr2.ext e6, rfl, ⟨fun b hb => by have := f1 b hb; omega, fun b hb => by have := f2 b hb; omega⟩, e1.trans (e2.trans (e3.trans (e4.trans (e5.trans e6))))⟩
  · rintro ⟨t1, t2, t3⟩ h2 ⟨ht2, ht3, ht1, hf, e2⟩
    simp only at ht1 ht2 ht3
    dsimp only
    refine seq.cut (fun t h3 => DN h3 t.2.1 (val 4294967296 xs) ∧ DN h3 t.2.2 (if val 4294967296 ys = 0 then 1 else val 4294967296 ys) ∧ t.1 = x.1 ∧ Fr h t ∧ Ext h h3) ?_ ?_
    · refine ⟨fun hz => ?_, fun hz => ?_⟩
      · simp only [beq_iff_eq] at hz
        have h0 : val 4294967296 ys = 0 := ht3.len_zero.1 (by omega)
        rw [if_pos h0]
        refine new1DF (n := 1) (by decide) (by decide) fun a h3 hd hab e3 => ⟨ht2.ext e3, hd, ht1, ⟨hf.1, fun b hb => ?_⟩, e2.trans e3⟩
        have := e2.size
        simp [Sl.blk] at hb
        omega
      · have h0 : val 4294967296 ys ≠ 0 := fun h0 => by
          have := ht3.len_zero.2 h0
          simp [this] at hz
        rw [if_neg h0]
        exact ⟨ht2, ht3, ht1, hf, e2⟩
    · rintro ⟨u1, u2, u3⟩ h3 ⟨hu2, hu3, hu1, hf, e3⟩
      exact K _ h3 hu2 hu3 hu1 hf e3
theorem OfQF_spec {h : Heap} {x : Bool × Sl × Sl} {q : Rat} {Q : (Bool × Sl × Sl) → Heap → Prop} (hx : RQ h x q) (hs : szQ q ≤ 1000)
    (K : ∀ r h', RD h' r q → Fr h r → Ext h h' → Q r h') : ref02uOf x h Q := by
  obtain ⟨xs, ys, hX, v1, v2, l1, l2⟩ := hx.xr
  have := nl_num_le q; have := nl_dn_le q
  refine OfRF_spec hX (by omega) (by omega) fun r h' h1 h2 h3 hf e => K r h' ⟨by rw [← v1]; exact h1, ?_, by rw [h3]; exact hx.neg⟩ hf e
  rw [v2, dn_den] at h2; exact h2
theorem OfDDF_spec {h : Heap} {x : X6} {p : Rat × Rat} {Q : X6 → Heap → Prop} (hx : DQ h x p) (hs : szD p ≤ 1000) (K : ∀ r h', DD h' r p → Fr6 h r → Ext h h' → Q r h') : ref03uOf x h Q := by
  unfold szD at hs
  refine mem_ext fun h1 e1 => OfQF_spec (hx.ext e1).a (by omega) fun r1 h2 hr1 f1 e2 => OfQF_spec ((hx.ext e1).ext e2).b (by omega) fun r2 h3 hr2 f2 e3 => K _ h3 ⟨hr1.ext e3, hr2⟩ ⟨?_, ?_⟩ (e1.trans (e2.trans e3))
  · exact f1.mono e1.size
  · exact f2.mono (by have := e1.size; have := e2.size; omega)

/-! ### Beside a bench at hand -/
section
variable {h0 h : Heap} {a : Addr} {lim : Nat} {x y : Bool × Sl × Sl} {p q : Rat} {Q : (Bool × Sl × Sl) → Heap → Prop}
theorem addRB (hv : BB h0 a lim h) (hx : RF a.block h x p) (hy : RF a.block h y q) (hs : szQ p + szQ q + 2 ≤ lim) (hl : szQ p + szQ q ≤ 400)
    (K : ∀ r h', BB h0 a lim h' → Keep (some a.block) h h' → RF a.block h' r (p + q) → Q r h') : ratio_Add (some a) x y h Q := by
  have := sz_add p q
  refine AddQ_spec hv.tb hv.bench hx.rq hy.rq (by omega) fun r h' hb k hr _ => ?_
  rw [fits_false (by omega)] at hb hr
  exact K r h' (hv.keep hb k) k hr
theorem subRB (hv : BB h0 a lim h) (hx : RF a.block h x p) (hy : RF a.block h y q) (hs : szQ p + szQ q + 2 ≤ lim) (hl : szQ p + szQ q ≤ 400)
    (K : ∀ r h', BB h0 a lim h' → Keep (some a.block) h h' → RF a.block h' r (p - q) → Q r h') : ratio_Sub (some a) x y h Q := by
  have := sz_sub p q
  refine SubQ_spec hv.tb hv.bench hx.rq hy.rq (by omega) fun r h' hb k hr _ => ?_
  rw [fits_false (by omega)] at hb hr
  exact K r h' (hv.keep hb k) k hr
theorem mulRB (hv : BB h0 a lim h) (hx : RF a.block h x p) (hy : RF a.block h y q) (hs : szQ p + szQ q + 2 ≤ lim) (hl : szQ p + szQ q ≤ 400)
    (K : ∀ r h', BB h0 a lim h' → Keep (some a.block) h h' → RF a.block h' r (p * q) → Q r h') : ratio_Mul (some a) x y h Q := by
  have := sz_mul p q
  refine MulQ_spec hv.tb hv.bench hx.rq hy.rq (by omega) fun r h' hb k hr _ => ?_
  rw [fits_false (by omega)] at hb hr
  exact K r h' (hv.keep hb k) k hr
theorem divRB (hv : BB h0 a lim h) (hx : RF a.block h x p) (hy : RF a.block h y q) (hq : q ≠ 0) (hs : szQ p + szQ q + 3 ≤ lim) (hl : szQ p + szQ q ≤ 400)
    (K : ∀ r h', BB h0 a lim h' → Keep (some a.block) h h' → RF a.block h' r (p / q) → Q r h') : ratio_Div (some a) x y h Q := by
  have := sz_div p q hq
  refine DivQ_spec hv.tb hv.bench hx.rq hy.rq (by omega) (fun h => absurd h hq) fun _ r h' hb k hr _ => ?_
  rw [fits_false (by omega)] at hb hr
  exact K r h' (hv.keep hb k) k hr
end

/-! ### The small delta -/
theorem cmpR_neg {p q : Rat} : cmpR p q < 0 ↔ p < q := by
  unfold cmpR
  rw [Int.sign_neg_iff]
  have h1 : ¬ (p - q).num < 0 ↔ 0 ≤ p - q := by rw [← Rat.num_nonneg]; omega
  constructor
  · intro h
    have : ¬ 0 ≤ p - q := fun h2 => h1.2 h2 h
    grind
  · intro h
    apply Classical.byContradiction
    intro h2
    have := h1.1 h2
    grind
theorem cmpR_pos {p q : Rat} : 0 < cmpR p q ↔ q < p := by
  rw [← cmpR_neg, cmpR_swap p q]; omega
theorem cmpR_zero' {u v : Rat} : cmpR (u + -v) 0 = cmpR u v := by
  unfold cmpR
  rw [show u + -v - 0 = u - v by grind]

abbrev PP := (Rat × Rat) × (Rat × Rat)
/-- Does the pair turn round some day? -/
def turns (p : PP) : Prop := p.1.1 < p.2.1 ∧ p.2.2 < p.1.2
instance (p : PP) : Decidable (turns p) := by unfold turns; exact inferInstance
def turnAt (p : PP) : Rat := (p.2.1 - p.1.1) / (p.1.2 - p.2.2)
def stepS (l : Rat) (p : PP) : Rat := if turns p then (if turnAt p < l then turnAt p else l) else l
def least (ps : List PP) : Rat := ps.foldl stepS 1
theorem least_append (ps : List PP) (p : PP) : least (ps ++ [p]) = stepS (least ps) p := by simp [least, List.foldl_append]
theorem stepS_le (l : Rat) (p : PP) : stepS l p ≤ l := by
  unfold stepS; split
  · split <;> grind
  · grind
theorem stepS_at {l : Rat} {p : PP} (h : turns p) : stepS l p ≤ turnAt p := by
  unfold stepS; rw [if_pos h]; split <;> grind
theorem foldS_le (ps : List PP) (l : Rat) : ps.foldl stepS l ≤ l := by
  induction ps generalizing l with
  | nil => simp
  | cons p ps ih => simp only [List.foldl_cons]; have h1 := ih (stepS l p); have h2 := stepS_le l p; grind
theorem foldS_at (ps : List PP) (l : Rat) {p : PP} (hp : p ∈ ps) (h : turns p) : ps.foldl stepS l ≤ turnAt p := by
  induction ps generalizing l with
  | nil => simp at hp
  | cons q ps ih =>
    simp only [List.foldl_cons]
    rcases List.mem_cons.1 hp with rfl | hp
    · have h1 := foldS_le ps (stepS l p); have h2 := stepS_at (l := l) h; grind
    · exact ih _ hp
theorem least_at {ps : List PP} {p : PP} (hp : p ∈ ps) (h : turns p) : least ps ≤ turnAt p := foldS_at ps 1 hp h
theorem turnAt_pos {p : PP} (h : turns p) : 0 < turnAt p := by
  unfold turnAt
  have h1 : 0 < p.2.1 - p.1.1 := by have := h.1; grind
  have h2 : 0 < p.1.2 - p.2.2 := by have := h.2; grind
  rw [Rat.div_def]
  exact Rat.mul_pos h1 (Rat.inv_pos.2 h2)
theorem foldS_pos (ps : List PP) (l : Rat) (h : 0 < l) : 0 < ps.foldl stepS l := by
  induction ps generalizing l with
  | nil => simpa
  | cons p ps ih =>
    refine ih _ ?_
    unfold stepS; split
    · rename_i ht; split
      · exact turnAt_pos ht
      · exact h
    · exact h
theorem least_pos (ps : List PP) : 0 < least ps := foldS_pos ps 1 (by decide)
/-- Where it is not above, it is not above at so small a delta. -/
theorem least_keeps {ps : List PP} {p : PP} {e : Rat} (hp : p ∈ ps) (h0 : 0 < e) (h1 : e ≤ least ps) (hc : cmpD p.1 p.2 ≤ 0) : p.1.1 + p.1.2 * e ≤ p.2.1 + p.2.2 * e := by
  unfold cmpD at hc
  split at hc
  · rename_i h
    have h2 : p.1.1 = p.2.1 := by
      have a1 : ¬ cmpR p.1.1 p.2.1 < 0 := by omega
      have a2 : ¬ 0 < cmpR p.1.1 p.2.1 := by omega
      rw [cmpR_neg] at a1; rw [cmpR_pos] at a2
      grind
    have h3 : p.1.2 ≤ p.2.2 := by
      have a2 : ¬ 0 < cmpR p.1.2 p.2.2 := by omega
      rw [cmpR_pos] at a2; grind
    have h4 : p.1.2 * e ≤ p.2.2 * e := Rat.mul_le_mul_of_nonneg_right h3 (by grind)
    grind
  · have h2 : p.1.1 < p.2.1 := by rw [← cmpR_neg]; omega
    by_cases h3 : p.2.2 < p.1.2
    · have ht : turns p := ⟨h2, h3⟩
      have h4 := least_at hp ht
      have h5 : e ≤ turnAt p := by grind
      have h6 : 0 < p.1.2 - p.2.2 := by grind
      have h7 : e * (p.1.2 - p.2.2) ≤ turnAt p * (p.1.2 - p.2.2) := Rat.mul_le_mul_of_nonneg_right h5 (by grind)
      have h8 : turnAt p * (p.1.2 - p.2.2) = p.2.1 - p.1.1 := by
        unfold turnAt
        exact Rat.div_mul_cancel (by grind)
      rw [h8] at h7
      grind
    · have h4 : p.1.2 * e ≤ p.2.2 * e := Rat.mul_le_mul_of_nonneg_right (by grind) (by grind)
      grind
end Go.Sh
