/-
  Laws that the proof of this claim's statement leans on, each proved under the conditions that it states.
-/
import Derived.Test.YtdcdidecehbplaaDoorSpE
set_option linter.unusedVariables false
set_option linter.unusedSimpArgs false
namespace Go.Sh
open Go Go.Lift

theorem sign_mul' (a b : Rat) : (a * b).num.sign = a.num.sign * b.num.sign := by
  rw [← mul_mk]
  have hd : a.den * b.den ≠ 0 := Nat.mul_ne_zero a.den_nz b.den_nz
  have h1 := mk_neg (a.num * b.num) hd
  have h2 : (mkRat (a.num * b.num) (a.den * b.den)).num = 0 ↔ a.num * b.num = 0 := by rw [Rat.num_eq_zero, Rat.mkRat_eq_zero hd]
  rw [← Int.sign_mul]
  generalize a.num * b.num = z at *
  generalize (mkRat z (a.den * b.den)).num = w at *
  rcases Int.lt_trichotomy z 0 with h | h | h
  · rw [Int.sign_eq_neg_one_of_neg h, Int.sign_eq_neg_one_of_neg (h1.2 h)]
  · rw [h, h2.2 h]
  · rw [Int.sign_eq_one_of_pos h, Int.sign_eq_one_of_pos]
    have : ¬ w < 0 := fun h' => by have := h1.1 h'; omega
    have : w ≠ 0 := fun h' => by have := h2.1 h'; omega
    omega

theorem DeltaTold_holds {limbs : Int} {x y : X6} {k : X3} {h : Heap} {Q : Bool → Heap → Prop} (ht : Tab h) (hx : Raw6 h x) (hy : Raw6 h y) (hk : Raw3 h k) (K : ∀ h', Ext h h' → Q true h') : law03uDeltaTold limbs x y k h Q := by
  refine new_cells fun cx h1 hcx _ e1 => new_cells fun cy h2 hcy _ e2 => new_cells fun ck h3 hck _ e3 => ?_
  have e03 := e1.trans (e2.trans e3)
  refine speaks3uspec fun h4 e4 => ⟨nofun, fun _ => ?_⟩
  have e04 := e03.trans e4
  -- what lies in the variables
  have CX : ∀ {h' : Heap}, Ext h4 h' → cells? h' cx 6 0 = some (C_bool_sl_sl_bool_sl_sl x) := fun e => cells_ext (e2.trans (e3.trans (e4.trans e))) hcx
  have CY : ∀ {h' : Heap}, Ext h4 h' → cells? h' cy 6 0 = some (C_bool_sl_sl_bool_sl_sl y) := fun e => cells_ext (e3.trans (e4.trans e)) hcy
  have CK : ∀ {h' : Heap}, Ext h4 h' → cells? h' ck 3 0 = some (C_bool_sl_sl k) := fun e => cells_ext (e4.trans e) hck
  clear hcx hcy hck
  refine ⟨x, CX (Keep.refl _ _), y, CY (Keep.refl _ _), k, CK (Keep.refl _ _), ?_⟩
  intro T
  have hr : RR6 (h4.push (.cells [Value.bool x.1, Sl.toV x.2.1, Sl.toV x.2.2.1, Value.bool x.2.2.2.1, Sl.toV x.2.2.2.2.1, Sl.toV x.2.2.2.2.2, Value.bool y.1, Sl.toV y.2.1, Sl.toV y.2.2.1, Value.bool y.2.2.2.1, Sl.toV y.2.2.2.2.1, Sl.toV y.2.2.2.2.2, Value.bool k.1, Sl.toV k.2.1, Sl.toV k.2.2, Value.bool false, Sl.toV Sl.nil, Sl.toV Sl.nil].toArray T (0, 0))) ⟨some ⟨h4.size, 0, none⟩, 3, 3⟩ [x, y, (k.1, k.2.1, k.2.2, false, Sl.nil, Sl.nil)] := RS.new len6 rfl rfl
  have e5 : Ext h4 (h4.push (.cells [Value.bool x.1, Sl.toV x.2.1, Sl.toV x.2.2.1, Value.bool x.2.2.2.1, Sl.toV x.2.2.2.2.1, Sl.toV x.2.2.2.2.2, Value.bool y.1, Sl.toV y.2.1, Sl.toV y.2.2.1, Value.bool y.2.2.2.1, Sl.toV y.2.2.2.2.1, Sl.toV y.2.2.2.2.2, Value.bool k.1, Sl.toV k.2.1, Sl.toV k.2.2, Value.bool false, Sl.toV Sl.nil, Sl.toV Sl.nil].toArray T (0, 0))) := Ext.push _ _
  generalize h4.push (.cells [Value.bool x.1, Sl.toV x.2.1, Sl.toV x.2.2.1, Value.bool x.2.2.2.1, Sl.toV x.2.2.2.2.1, Sl.toV x.2.2.2.2.2, Value.bool y.1, Sl.toV y.2.1, Sl.toV y.2.2.1, Value.bool y.2.2.2.1, Sl.toV y.2.2.2.2.1, Sl.toV y.2.2.2.2.2, Value.bool k.1, Sl.toV k.2.1, Sl.toV k.2.2, Value.bool false, Sl.toV Sl.nil, Sl.toV Sl.nil].toArray T (0, 0)) = h5 at *
  have hraw : ∀ z ∈ [x, y, (k.1, k.2.1, k.2.2, false, Sl.nil, Sl.nil)], Raw6 h z := by
    intro z hz
    simp only [List.mem_cons, List.not_mem_nil, or_false] at hz
    rcases hz with rfl | rfl | rfl
    · exact hx
    · exact hy
    · exact ⟨hk, Raw3.nil⟩
  refine Odd_spec hr (e04.trans e5) (by simp) hraw fun b h6 hb e6 => ⟨fun _ => K h6 (e04.trans (e5.trans e6)), fun hf => ?_⟩
  have hall := hb hf
  obtain ⟨p, hp, sp⟩ := hall x (by simp)
  obtain ⟨q, hq, sq⟩ := hall y (by simp)
  obtain ⟨c2, hc, sc⟩ := hall (k.1, k.2.1, k.2.2, false, Sl.nil, Sl.nil) (by simp)
  have hkc : RQ h k c2.1 := hc.a
  have szc : szQ c2.1 ≤ 6 := by unfold szD at sc; omega
  generalize c2.1 = c at *
  have e46 := e5.trans e6
  have e06 := e04.trans e46
  have sadd := szD_add p q; have ssub := szD_sub p q; have ssc := szD_sc c p
  refine seq.cut (fun t h7 => DD h7 (t.1, t.2.1, t.2.2.1, t.2.2.2.1, t.2.2.2.2.1, t.2.2.2.2.2.1) p ∧ DD h7 t.2.2.2.2.2.2 q ∧ Ext h4 h7) ?_ ?_
  · refine ⟨x, CX e46, y, CY e46, mem_ext fun h7 e7 => OfDD_spec ((hp.ext e06).ext e7) (by omega) fun r1 h8 hr1 e8 => ⟨CY (e46.trans (e7.trans e8)), mem_ext fun h9 e9 => OfDD_spec ((hq.ext e06).ext (e7.trans (e8.trans e9))) (by omega) fun r2 h10 hr2 e10 => mem_ext fun h11 e11 => ?_⟩⟩
    exact ⟨((hr1.ext e9).ext e10).ext e11, hr2.ext e11, e46.trans (e7.trans (e8.trans (e9.trans (e10.trans e11))))⟩
  rintro ⟨x1, x2, x3, x4, x5, x6, y'⟩ h7 ⟨hdx, hdy, e47⟩
  simp only at hdx hdy
  refine seq.cut (fun t h8 => t = true ∧ Ext h4 h8) ?_ ?_
  · refine AddDD_spec hdx hdy (by omega) fun w1 h8 hw1 e8 => ?_
    have e48 := e47.trans e8
    refine (toldG_spec (f := fun v h k => law03uDeltaTold_c1 v cx cy h k) hw1 (by omega) (fun a h' Q' hb' e' ha' k' => ?_) (fun h9 e9 => ?_) : law03utold__law03uDeltaTold_c1 limbs cx cy _ h8 _)
    · have e4' := e48.trans e'
      have e0' := e04.trans e4'
      have ha0 : h.size ≤ a.block := by have := (e04.trans e48).size; omega
      refine mem_ext fun h9 e9 => ⟨x, CX (e4'.trans e9), y, CY (e4'.trans e9), ?_⟩
      refine AddE_spec (ht.tb (e0'.trans e9) ha0) (hb'.ext e9) (hp.df (e0'.trans e9) ha0) (hq.df (e0'.trans e9) ha0) (by omega) fun r h10 hb10 k10 hr10 _ => k' r h10 (by simpa using hb10) ((Keep.of_ext e9).trans k10) (by simpa using hr10)
    · refine ⟨fun _ => ?_, nofun⟩
      have e49 := e48.trans e9
      refine NegDD_spec (hdy.ext (e8.trans e9)) fun w2 h10 hw2 e10 => AddDD_spec ((hdx.ext (e8.trans e9)).ext e10) hw2 (by unfold szD negD at *; simp only [neg_sz]; omega) fun w3 h11 hw3 e11 => ?_
      rw [addneg] at hw3
      have e411 := e49.trans (e10.trans e11)
      refine (toldG_spec (f := fun v h k => law03uDeltaTold_c2 v cx cy h k) hw3 (by omega) (fun a h' Q' hb' e' ha' k' => ?_) (fun h12 e12 => ?_) : law03utold__law03uDeltaTold_c2 limbs cx cy _ h11 _)
      · have e4' := e411.trans e'
        have e0' := e04.trans e4'
        have ha0 : h.size ≤ a.block := by have := (e04.trans e411).size; omega
        refine mem_ext fun h9 e9 => ⟨x, CX (e4'.trans e9), y, CY (e4'.trans e9), ?_⟩
        refine SubE_spec (ht.tb (e0'.trans e9) ha0) (hb'.ext e9) (hp.df (e0'.trans e9) ha0) (hq.df (e0'.trans e9) ha0) (by omega) fun r h10 hb10 k10 hr10 _ => k' r h10 (by simpa using hb10) ((Keep.of_ext e9).trans k10) (by simpa using hr10)
      · refine ⟨fun _ => ?_, nofun⟩
        have e412 := e411.trans e12
        refine ⟨k, CK e412, ?_⟩
        refine OfQ_spec (hkc.ext (e04.trans e412)) (by omega) fun w4 h13 hw4 e13 => ?_
        have e713 : Ext h7 h13 := e8.trans (e9.trans (e10.trans (e11.trans (e12.trans e13))))
        refine ScaleDD_spec hw4 (hdx.ext e713) (by omega) fun w5 h14 hw5 e14 => ?_
        have e414 := e412.trans (e13.trans e14)
        refine (toldG_spec (f := fun v h k => law03uDeltaTold_c3 v ck cx h k) hw5 (by omega) (fun a h' Q' hb' e' ha' k' => ?_) (fun h15 e15 => ?_) : law03utold__law03uDeltaTold_c3 limbs ck cx _ h14 _)
        · have e4' := e414.trans e'
          have e0' := e04.trans e4'
          have ha0 : h.size ≤ a.block := by have := (e04.trans e414).size; omega
          refine mem_ext fun h9 e9 => ⟨k, CK (e4'.trans e9), x, CX (e4'.trans e9), ?_⟩
          refine ScaleE_spec (ht.tb (e0'.trans e9) ha0) (hb'.ext e9) (hkc.rf (e0'.trans e9) ha0) (hp.df (e0'.trans e9) ha0) (by omega) fun r h10 hb10 k10 hr10 _ => k' r h10 (by simpa using hb10) ((Keep.of_ext e9).trans k10) (by simpa using hr10)
        · refine ⟨fun _ => ?_, nofun⟩
          have e415 := e414.trans e15
          have e715 : Ext h7 h15 := e713.trans (e14.trans e15)
          refine ⟨x, CX e415, y, CY e415, ?_⟩
          have hg := ht.lt
          refine CmpE_spec (hp.ext (e04.trans e415)) (hq.ext (e04.trans e415)) (by omega) (by have := (e04.trans e415).size; omega) fun h16 e16 => ?_
          refine CmpDD_spec (hdx.ext (e715.trans e16)) (hdy.ext (e715.trans e16)) (by omega) fun h17 e17 => ⟨fun _ => ?_, fun hn => by simp at hn⟩
          have e417 := e415.trans (e16.trans e17)
          have e717 := e715.trans (e16.trans e17)
          refine ⟨x, CX e417, ?_⟩
          refine TextE_spec (hp.ext (e04.trans e417)) (by omega) fun h18 e18 => TextDD_spec (hdx.ext (e717.trans e18)) (by omega) fun h19 e19 => ⟨fun _ => ?_, fun hn => by simp at hn⟩
          have e419 := e417.trans (e18.trans e19)
          refine ⟨k, CK e419, k, CK e419, ?_⟩
          refine DOf_spec (hkc.ext (e04.trans e419)) fun h20 hd20 e20 => ⟨CK (e419.trans e20), ?_⟩
          refine SameE_spec hd20 hd20 fun h21 e21 => ?_
          rw [decide_eq_true (rfl : (c, (0 : Rat)) = (c, 0))]
          exact ⟨rfl, e419.trans (e20.trans e21)⟩
  · rintro t h8 ⟨rfl, e8⟩
    exact K h8 (e04.trans e8)
end Go.Sh
