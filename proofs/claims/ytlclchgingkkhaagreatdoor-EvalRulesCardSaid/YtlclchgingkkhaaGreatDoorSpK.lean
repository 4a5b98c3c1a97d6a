/-
  Laws that the proof of this claim's statement leans on, each proved under the conditions that it states.
-/
import Derived.Test.YtlclchgingkkhaaGreatDoorSpJ
import Derived.Test.YtlclchgingkkhaaGreatDoorSpI
set_option linter.unusedVariables false
set_option linter.unusedSimpArgs false
namespace Go.Sh
open Go Go.Lift
theorem cell_sp {h : Heap} {a : Addr} {v : Value} (hc : cell? h a = some v) : a.spot = none := by
  unfold cell? at hc
  split at hc
  · cases hs : a.spot with
    | none => rfl
    | some x => rw [hs] at hc; simp at hc
  · cases hc
variable {K : Nat → Prop} {h : Heap} {s : Sl} {es : List EV}
theorem ld_num {a : Addr} {y : V4} {k : X3 → Prop} (hc : cells? h a 4 0 = some (CV4 y)) (H : k (vr y)) : loadS C_bool_sl_sl 3 (a.add 1) h k := by
  have hs : a.spot = none := by
    have := cells?_get _ _ _ hc 0 (by rw [lenV]; omega)
    rw [Nat.zero_add, addr_add_zero] at this
    exact cell_sp this
  refine ⟨vr y, ?_, H⟩
  rw [cells_add hs]
  exact (take_drop_cells (n := 1) (m := 3) hc).2
def kidsV (vals : List EV) (kids : List Int) : List EV := kids.map fun k => vals.getD k.toNat (false, 0)
theorem OwnS.cap {α : Type} {toC : α → List Value} {sz B : Nat} {h : Heap} {s : Sl} {xs : List α} (ho : OwnS toC sz B h s xs) (h0 : 0 < sz) : s.len ≤ s.cap := by
  obtain ⟨hl, ys, h1, h2⟩ := ho
  have := h2.r.cap
  simp only [Sl.sc] at this
  exact Nat.le_of_mul_le_mul_right this h0
theorem OwnS.keepExt {α : Type} {toC : α → List Value} {sz : Nat} {h0 h h' : Heap} {s : Sl} {xs : List α} (e : Ext h0 h) (ho : OwnS toC sz h0.size h s xs) (k : Keep s.blk h h') : Ext h0 h' := by
  cases hb : s.blk with
  | none => rw [hb] at k; exact e.trans k
  | some b => rw [hb] at k; exact e.fresh (ho.lt hb).1 k
theorem VL.ldE {h' : Heap} (v : VL K h s es) (e : Ext h h') {i : Int} {j : Nat} {k : V4 → Prop} (hij : i = (j : Int)) (hj : j < es.length) (H : ∀ y, VK K h y es[j] → k y) : idxS s i 4 fun a => loadS CV4 4 a h' k := by
  obtain ⟨ys, h1, h2⟩ := v.row
  have hl := h2.length
  exact (h1.ext e).ld hij (by omega) (H _ (h2.get j (by omega) hj))
theorem kids_spec {a : Addr} {n : N6} {kids : List Int} {w : Sl} {vals : List EV} {Q : Sl → Heap → Prop} (hk : RJ h n.2.2.1 kids) (hl : kids.length ≤ 1000) (ho : cell? h (a.add 4) = some (Sl.toV w)) (v : VL K h w vals)
    (hin : ∀ k ∈ kids, 0 ≤ k ∧ k < (vals.length : Int)) (H : ∀ s h', Ext h h' → VL K h' s (kidsV vals kids) → s.len ≤ s.cap → Q s h') : eval_look_kids (some a) n h Q := by
  have hlen := hk.len
  refine mem_ext fun h0 e0 => ?_
  refine loop.inv (fun (t : Sl × Int) h' => ∃ i : Nat, t.2 = (i : Int) ∧ i ≤ kids.length ∧ Ext h0 h' ∧ ∃ ys : List V4, OwnS CV4 4 h0.size h' t.1 ys ∧ All2 (VK K h) ys (kidsV vals (kids.take i))) (fun t _ => kids.length - t.2.toNat)
    ⟨0, rfl, by omega, Keep.refl _ _, [], ⟨rfl, [], rfl, by rw [show Sl.sc 4 Sl.nil = Sl.nil by simp [Sl.sc, Sl.nil]]; exact Own.nil⟩, .nil⟩ ?_
  rintro ⟨r, t⟩ h1 ⟨i, ht, hi, e1, ys, o1, a1⟩
  dsimp only at ht o1
  subst ht
  have e01 := e0.trans e1
  have hys := a1.length
  have hkl : (kidsV vals (kids.take i)).length = i := by simp [kidsV, Nat.min_eq_left hi]
  refine ⟨fun hlt => ?_, fun hge => ?_⟩
  · have hlt := of_decide_eq_true hlt
    dsimp only at hlt
    have hi' : i < kids.length := by omega
    obtain ⟨k0, k1⟩ := hin kids[i] (List.getElem_mem hi')
    have hj : kids[i].toNat < vals.length := by omega
    refine (R.ext hk e01).idx (by dsimp only; omega) (by dsimp only; omega) fun a' _ hc => ⟨kids[i], hc, a, rfl, w, cell_keep e01 ho (by simp), v.ldE e01 (j := kids[i].toNat) (by omega) hj fun y hy => ?_⟩
    refine o1.append1 (x := y) lenV (by decide) rfl e1.size rfl (by omega) fun s' h2 o2 k2 _ => ?_
    have e2 := OwnS.keepExt e1 o1 k2
    rw [w64 (by dsimp only; omega) (by dsimp only; omega)]
    refine ⟨⟨i + 1, by dsimp only; omega, by omega, e2, ys ++ [y], o2, ?_⟩, by dsimp only; omega⟩
    rw [List.take_succ_eq_append_getElem hi']
    unfold kidsV
    rw [List.map_append]
    refine a1.append (.cons ?_ .nil)
    dsimp only
    rw [List.getD_eq_getElem?_getD, List.getElem?_eq_getElem hj]
    exact hy
  · have hge := of_decide_eq_false hge
    dsimp only at hge
    have : i = kids.length := by omega
    subst this
    rw [List.take_length] at a1
    exact H _ _ e01 ⟨ys, o1.rs lenV (by decide), a1.imp fun _ _ q => q.ext e01⟩ (o1.cap (by decide))
theorem reckon_spec {hN : Heap} {b : Addr} {lim : Nat} {op : Int} (ho : op = 18 ∨ op = 19) {e f : EV} {Q : X3 → Heap → Prop} (hv : BB hN b lim h) (v : VL K h s [e, f]) (hc : s.len ≤ s.cap) (hK : K b.block) (hs : szQ e.2 + szQ f.2 + 2 ≤ lim) (hs2 : szQ e.2 + szQ f.2 ≤ 3000)
    (H : ∀ r h', BB hN b lim h' → Keep (some b.block) h h' → RQ h' r (if op = 18 then e.2 + f.2 else e.2 - f.2) → Fr h r → Q r h') : eval_reckon (some b) op s h Q := by
  have hlen := v.len
  refine mem_ext fun h0 e0 => MF.new fun mp h1 m1 e1 hm => m1.set e1 hm fun h2 m2 e2 => m2.set e2 hm fun h3 m3 e3 => m3.set e3 hm fun h4 m4 e4 => m4.set e4 hm fun h5 m5 e5 => ?_
  have e05 := e0.trans e5
  clear m1 m2 m3 m4 e1 e2 e3 e4
  have go : ∀ (f' : FnV), (∀ (x y : X3) (p q : Rat) (h' : Heap) (J : X3 → Heap → Prop), Ext h h' → RQ h' x p → RQ h' y q → p = e.2 → q = f.2 →
        (∀ r h'', BB hN b lim h'' → Keep (some b.block) h' h'' → RQ h'' r (if op = 18 then e.2 + f.2 else e.2 - f.2) → Fr h' r → J r h'') →
        (f' = FnV.mk 64 [] [] ∧ ratio_Div (some b) x y h' J) ∨ (f' = FnV.mk 117 [] [] ∧ ratio_Sub (some b) x y h' J) ∨ (f' = FnV.mk 118 [] [] ∧ ratio_Mul (some b) x y h' J) ∨ (f' = FnV.mk 124 [] [] ∧ ratio_Add (some b) x y h' J)) →
      ∀ v_1 : FnV × Bool, v_1.1 = f' →
      iteB (((s.len : Nat) : Int) == 1) (
       idxS s 0 4 fun a =>
       loadS C_bool_sl_sl 3 (a.add 1) h5 fun v_2 =>
       ratio_Neg (v_2.1, v_2.2.1, v_2.2.2) h5 fun v_3 h0u6 =>
       Q (v_3.1, v_3.2.1, v_3.2.2) h0u6
      ) (
       idxS s 0 4 fun a_1 =>
       loadS C_bool_sl_sl 3 (a_1.add 1) h5 fun v_4 =>
       mem h5 fun h0u7 =>
       sliceOf s (some 1) none none 4 fun v_5 =>
       loop (fun (s0 : Int × Bool × Sl × Sl) h0u8 (K0 : (Int × Bool × Sl × Sl) → Heap → Prop) =>
        iteB (decide (s0.1 < ((v_5.len : Nat) : Int))) (
         idxS v_5 s0.1 4 fun a_2 =>
         loadS C_bool_bool_sl_sl 4 a_2 h0u8 fun v_6 =>
         mem h0u8 fun h0u9 =>
         dyn (fun (K0u1 : (Bool × Sl × Sl) → Heap → Prop) =>
          (v_1.1 = FnV.mk 64 [] [] ∧ ratio_Div (some b) (s0.2.1, s0.2.2.1, s0.2.2.2) (v_6.2.1, v_6.2.2.1, v_6.2.2.2) h0u9 K0u1) ∨
          (v_1.1 = FnV.mk 117 [] [] ∧ ratio_Sub (some b) (s0.2.1, s0.2.2.1, s0.2.2.2) (v_6.2.1, v_6.2.2.1, v_6.2.2.2) h0u9 K0u1) ∨
          (v_1.1 = FnV.mk 118 [] [] ∧ ratio_Mul (some b) (s0.2.1, s0.2.2.1, s0.2.2.2) (v_6.2.1, v_6.2.2.1, v_6.2.2.2) h0u9 K0u1) ∨
          (v_1.1 = FnV.mk 124 [] [] ∧ ratio_Add (some b) (s0.2.1, s0.2.2.1, s0.2.2.2) (v_6.2.1, v_6.2.2.1, v_6.2.2.2) h0u9 K0u1)
         ) fun v_7 h0u10 =>
         K0 (IntKind.wrap .i64 (s0.1 + 1), v_7.1, v_7.2.1, v_7.2.2) h0u10
        ) (
         Q (s0.2.1, s0.2.2.1, s0.2.2.2) h0u8
        )
       ) (0, v_4.1, v_4.2.1, v_4.2.2) h0u7
      ) := by
    rintro f' hf v_1 rfl
    simp only [List.length_cons, List.length_nil] at hlen
    refine ⟨fun g => ?_, fun _ => ?_⟩
    · rw [hlen] at g; simp at g
    refine (v.ext e05).at (j := 0) rfl (by simp) fun a y hc4 hy => ld_num hc4 (mem_ext fun h6 e6 => slice_from1 v hc fun t vt => ?_)
    have e06 := e05.trans e6
    have htl := vt.len
    simp only [List.length_cons, List.length_nil] at htl
    refine loop.inv (fun (t : Int × X3) h' => (t.1 = 0 ∧ h' = h6 ∧ t.2 = vr y) ∨ (t.1 = 1 ∧ BB hN b lim h' ∧ Keep (some b.block) h h' ∧ RQ h' t.2 (if op = 18 then e.2 + f.2 else e.2 - f.2) ∧ Fr h t.2)) (fun t _ => 1 - t.1.toNat) (.inl ⟨rfl, rfl, rfl⟩) ?_
    rintro ⟨i, x⟩ h' (⟨hi, hh, hx⟩ | ⟨hi, hb', hk', hr', hf'⟩)
    · dsimp only at hi hx
      subst hi hh hx
      refine ⟨fun _ => ?_, fun g => by have g := of_decide_eq_false g; dsimp only at g; omega⟩
      refine (vt.ext e06).ld (j := 0) rfl (by simp) fun z hz => mem_ext fun h7 e7 => ?_
      refine hf (vr y) (vr z) e.2 f.2 h7 _ (e06.trans e7) ((hy.n.rq.ext e6).ext e7) (hz.n.rq.ext e7) rfl rfl fun r h8 b8 k8 r8 f8 => ⟨.inr ⟨rfl, b8, (Keep.of_ext (e06.trans e7)).trans k8, r8, f8.mono (e06.trans e7).size⟩, by show 1 - (IntKind.wrap .i64 ((0 : Int) + 1)).toNat < 1 - (0 : Int).toNat; decide⟩
    · dsimp only at hi hr' hf'
      subst hi
      exact ⟨fun g => by have g := of_decide_eq_true g; dsimp only at g; omega, fun _ => H x h' hb' hk' hr' hf'⟩
  rcases ho with rfl | rfl
  · refine m5.look (v := FnV.mk 124 [] []) rfl (go _ (fun x y p q h' J e' hx hy hp hq hJ => .inr (.inr (.inr ⟨rfl, ?_⟩))) _ rfl)
    subst hp hq
    have hb' := hv.of_ext e'
    have := sz_add e.2 f.2
    refine AddQ_spec hb'.tb hb'.bench hx hy (by omega) fun r h'' hb k hr hf => ?_
    rw [fits_false (by omega)] at hb hr
    exact hJ r h'' (hb'.keep hb k) k hr.rq hf
  · refine m5.look (v := FnV.mk 117 [] []) rfl (go _ (fun x y p q h' J e' hx hy hp hq hJ => .inr (.inl ⟨rfl, ?_⟩)) _ rfl)
    subst hp hq
    have hb' := hv.of_ext e'
    have := sz_sub e.2 f.2
    refine SubQ_spec hb'.tb hb'.bench hx hy (by omega) fun r h'' hb k hr hf => ?_
    rw [fits_false (by omega)] at hb hr
    exact hJ r h'' (hb'.keep hb k) k hr.rq hf
end Go.Sh

namespace Go.Sh
open Go Go.Lift
structure EA (hN : Heap) (b a : Addr) (lim : Nat) (bs : List Bool) (rs : List Rat) (w bools reals : Sl) (K : Nat → Prop) (vals : List EV) (h : Heap) : Prop where
  bb : BB hN b lim h
  c0 : cell? h (a.add 0) = some (Value.pointer (some b))
  c1 : cell? h (a.add 1) = some (Sl.toV bools)
  c2 : cell? h (a.add 2) = some (Sl.toV reals)
  c4 : cell? h (a.add 4) = some (Sl.toV w)
  bo : R Value.bool h bools bs
  re : ∃ ys, RS C_bool_sl_sl 3 h reals ys ∧ All2 (RK K h) ys rs
  vl : VL K h w vals
  Kb : K b.block
  Kl : ∀ k, K k → k < h.size
structure EN where
  op : Int
  var : Int
  kids : List Int
  q : Rat
def evalV (bs : List Bool) (rs : List Rat) (vals : List EV) (v : EN) : EV :=
  let L := kidsV vals v.kids
  if v.op = 3 then (bs.getD v.var.toNat false, 0) else if v.op = 4 then (false, rs.getD v.var.toNat 0) else if v.op = 5 then (false, v.q) else if v.op = 11 then (if (L.getD 0 (false, 0)).1 then L.getD 1 (false, 0) else L.getD 2 (false, 0))
  else if v.op = 18 then (false, (L.getD 0 (false, 0)).2 + (L.getD 1 (false, 0)).2) else if v.op = 19 then (false, (L.getD 0 (false, 0)).2 - (L.getD 1 (false, 0)).2) else (logicV v.op L, 0)
structure EO (lim nb nr : Nat) (vals : List EV) (v : EN) : Prop where
  op : 3 ≤ v.op ∧ v.op ≤ 19
  kids : ∀ k ∈ v.kids, 0 ≤ k ∧ k < (vals.length : Int)
  kl : v.kids.length ≤ 1000
  o3 : v.op = 3 → 0 ≤ v.var ∧ v.var < (nb : Int)
  o4 : v.op = 4 → 0 ≤ v.var ∧ v.var < (nr : Int)
  o1 : 6 ≤ v.op → 1 ≤ v.kids.length
  o11 : v.op = 11 → v.kids.length = 3
  o18 : v.op = 18 ∨ v.op = 19 → v.kids.length = 2 ∧ 90 ≤ lim
  sz : ∀ e ∈ vals, szQ e.2 ≤ 40
variable {hN : Heap} {b a : Addr} {lim : Nat} {bs : List Bool} {rs : List Rat} {w bools reals : Sl} {K : Nat → Prop} {vals : List EV} {h : Heap}
theorem kidsV_len (vals : List EV) (kids : List Int) : (kidsV vals kids).length = kids.length := by simp [kidsV]
theorem kidsV_sz {m : Nat} {kids : List Int} (hs : ∀ e ∈ vals, szQ e.2 ≤ m) : ∀ e ∈ kidsV vals kids, szQ e.2 ≤ m := by
  intro e he
  obtain ⟨k, _, rfl⟩ := List.mem_map.1 he
  rw [List.getD_eq_getElem?_getD]
  cases hg : vals[k.toNat]? with
  | none =>
    show szQ (0 : Rat) ≤ m
    have : szQ ((0 : Int) : Rat) = 0 := by unfold szQ; rw [dn_int, rat_int_num, nl_zero]; simp [nl_zero]
    have : szQ (0 : Rat) = 0 := by simpa using this
    omega
  | some x => exact hs x (List.mem_of_getElem? hg)
theorem value_spec {n : N6} {v : EN} {Q : V4 → Heap → Prop} (q : EA hN b a lim bs rs w bools reals K vals h) (hop : n.1 = v.op) (hvar : n.2.1 = v.var) (hk : RJ h n.2.2.1 v.kids) (hq : v.op = 5 → RK K h (n.2.2.2.1, n.2.2.2.2.1, n.2.2.2.2.2) v.q) (hok : EO lim bs.length rs.length vals v)
    (H : ∀ y h', BB hN b lim h' → Keep (some b.block) h h' → VK K h' y (evalV bs rs vals v) → Q y h') : eval_look_value (some a) n h Q := by
  have o := hok.op
  have hb : ∀ k, some b.block = some k → K k := fun k e => by cases e; exact q.Kb
  refine mem_ext fun h0 e0 => kids_spec (n := (n.1, n.2.1, n.2.2.1, n.2.2.2.1, n.2.2.2.2.1, n.2.2.2.2.2)) (R.ext hk e0) hok.kl (cell_keep e0 q.c4 (by simp)) (q.vl.ext e0) hok.kids fun s h1 e1 vs hc => ?_
  have e01 := e0.trans e1
  have ll := kidsV_len vals v.kids
  have lz := kidsV_sz (kids := v.kids) hok.sz
  rw [hop, hvar]
  unfold evalV at H
  dsimp only at H
  refine seq.cut (fun t h' => t = false ∧ h' = h1) ?_ ?_
  · rintro t ht
    have ht : t = false := by rw [ht]; simp; omega
    subst ht
    refine ⟨nofun, fun _ => ?_⟩
    rintro t ht
    exact ⟨by rw [ht]; simp; omega, rfl⟩
  rintro t h' ⟨ht, hh⟩
  rw [hh]; subst ht; clear hh h'
  refine ⟨nofun, fun _ => ?_⟩
  refine ⟨fun g => ?_, fun g => ?_⟩
  · have g : v.op = 3 := by simpa using g
    rw [if_pos g] at H
    obtain ⟨v0, v1⟩ := hok.o3 g
    refine ⟨a, rfl, bools, cell_keep e01 q.c1 (by simp), (R.ext q.bo e01).idx v0 v1 fun a' _ hc' => ⟨_, hc', ?_⟩⟩
    refine H _ _ (q.bb.of_ext e01) (Keep.of_ext e01) ⟨?_, RK.zero⟩
    rw [List.getD_eq_getElem?_getD, List.getElem?_eq_getElem (by omega)]
    rfl
  have g3 : ¬ v.op = 3 := by simpa using g
  rw [if_neg g3] at H
  refine ⟨fun g => ?_, fun g => ?_⟩
  · have g : v.op = 4 := by simpa using g
    rw [if_pos g] at H
    obtain ⟨v0, v1⟩ := hok.o4 g
    obtain ⟨ys, r1, r2⟩ := q.re
    have rl := r2.length
    refine ⟨a, rfl, reals, cell_keep e01 q.c2 (by simp), (r1.ext e01).ld (j := v.var.toNat) (by omega) (by omega) ?_⟩
    refine H _ _ (q.bb.of_ext e01) (Keep.of_ext e01) ⟨rfl, ?_⟩
    have hj : v.var.toNat < rs.length := by omega
    have := r2.get v.var.toNat (by omega) hj
    rw [List.getD_eq_getElem?_getD, List.getElem?_eq_getElem hj]
    exact this.ext e01
  have g4 : ¬ v.op = 4 := by simpa using g
  rw [if_neg g4] at H
  refine ⟨fun g => ?_, fun g => ?_⟩
  · have g : v.op = 5 := by simpa using g
    rw [if_pos g] at H
    exact H _ _ (q.bb.of_ext e01) (Keep.of_ext e01) ⟨rfl, (hq g).ext e01⟩
  have g5 : ¬ v.op = 5 := by simpa using g
  rw [if_neg g5] at H
  refine ⟨fun g => ?_, fun g => ?_⟩
  · have g : v.op = 11 := by simpa using g
    rw [if_pos g] at H
    have l3 := hok.o11 g
    refine vs.at (j := 0) rfl (by omega) fun a0 y0 c0 w0 => ⟨_, cell_t c0, ⟨fun hb0 => ?_, fun hb0 => ?_⟩⟩
    · refine vs.ld (j := 1) rfl (by omega) fun y hy => H _ _ (q.bb.of_ext e01) (Keep.of_ext e01) ?_
      rw [List.getD_eq_getElem?_getD, List.getElem?_eq_getElem (by omega), Option.getD_some, if_pos (by rw [← w0.t]; exact hb0), List.getD_eq_getElem?_getD, List.getElem?_eq_getElem (by omega)]
      exact hy
    · refine vs.ld (j := 2) rfl (by omega) fun y hy => H _ _ (q.bb.of_ext e01) (Keep.of_ext e01) ?_
      rw [List.getD_eq_getElem?_getD, List.getElem?_eq_getElem (by omega), Option.getD_some, if_neg (by rw [← w0.t, hb0]; simp), List.getD_eq_getElem?_getD, List.getElem?_eq_getElem (by omega)]
      exact hy
  have g11 : ¬ v.op = 11 := by simpa using g
  rw [if_neg g11] at H
  refine seq.cut (fun t h' => t = decide (v.op = 18 ∨ v.op = 19) ∧ h' = h1) ?_ ?_
  · rintro t rfl
    refine ⟨fun g => ⟨by have : v.op = 18 := by simpa using g
                         simp [this], rfl⟩, fun g => ?_⟩
    have n18 : ¬ v.op = 18 := by simpa using g
    rintro t rfl
    refine ⟨fun g => ⟨by have : v.op = 19 := by simpa using g
                         simp [this], rfl⟩, fun g => ?_⟩
    have n19 : ¬ v.op = 19 := by simpa using g
    rintro t rfl
    refine ⟨fun g => ?_, fun g => ?_⟩
    · have : v.op = 20 := by simpa using g
      omega
    · rintro t ht
      refine ⟨?_, rfl⟩
      rw [ht]
      have : ¬ v.op = 21 := by omega
      simp [n18, n19, this]
  rintro t h' ⟨rfl, hh⟩
  rw [hh]; clear hh h'
  refine ⟨fun g => ?_, fun g => ?_⟩
  · have g := of_decide_eq_true g
    obtain ⟨l2, hlim⟩ := hok.o18 g
    refine ⟨a, rfl, some b, cell_keep e01 q.c0 (by simp), ?_⟩
    obtain ⟨e, f, hL⟩ : ∃ e f, kidsV vals v.kids = [e, f] := by
      match hL : kidsV vals v.kids with
      | [e, f] => exact ⟨e, f, rfl⟩
      | [] => rw [hL] at ll; simp at ll; omega
      | [_] => rw [hL] at ll; simp at ll; omega
      | _ :: _ :: _ :: _ => rw [hL] at ll; simp at ll; omega
    rw [hL] at vs lz H
    have z1 := lz e (by simp); have z2 := lz f (by simp)
    refine reckon_spec g (q.bb.of_ext e01) vs hc q.Kb (by omega) (by omega) fun r h2 b2 k2 r2 f2 => H _ _ b2 ((Keep.of_ext e01).trans k2) ?_
    have rk : RK K h2 r (if v.op = 18 then e.2 + f.2 else e.2 - f.2) := RK.fresh r2 f2 fun k hk => Nat.lt_of_lt_of_le (q.Kl k hk) e01.size
    rcases g with g | g
    · rw [if_pos g] at rk ⊢
      exact ⟨rfl, rk⟩
    · have : ¬ v.op = 18 := by omega
      rw [if_neg this] at rk ⊢
      rw [if_pos g]
      exact ⟨rfl, rk⟩
  · have g := of_decide_eq_false g
    have n18 : ¬ v.op = 18 := fun e => g (.inl e)
    have n19 : ¬ v.op = 19 := fun e => g (.inr e)
    rw [if_neg n18, if_neg n19] at H
    refine logic_spec (by omega) vs hc (by have := hok.kl; omega) (by have := hok.o1 (by omega); omega) (fun e he => by have := lz e he; omega) (Nat.lt_of_lt_of_le q.bb.pos e01.size) fun h2 e2 => ?_
    exact H _ _ (q.bb.of_ext (e01.trans e2)) (Keep.of_ext (e01.trans e2)) ⟨rfl, RK.zero⟩
end Go.Sh

namespace Go.Sh
open Go Go.Lift
abbrev C6 := C_i64ui64usl_bool_sl_sl
theorem lenC6 (x : N6) : (C6 x).length = 6 := rfl
def tms (t0 : Tm) (N : List Nd) (i : Nat) : Tm := (N.take i).foldl addT t0
theorem tms_succ (t0 : Tm) {N : List Nd} {i : Nat} (hi : i < N.length) : tms t0 N (i + 1) = addT (tms t0 N i) N[i] := by
  unfold tms
  rw [List.take_succ_eq_append_getElem hi, List.foldl_append]
  rfl
theorem tms_len (t0 : Tm) (N : List Nd) : ∀ i, i ≤ N.length → (tms t0 N i).S.length = t0.S.length + i
  | 0, _ => rfl
  | i + 1, h => by
    rw [tms_succ t0 h]
    simp only [addT, List.length_append, List.length_singleton]
    rw [tms_len t0 N i (by omega)]
    omega
def Adds (t0 : Tm) (N : List Nd) : Prop := ∀ i (hi : i < N.length), addE (tms t0 N i) N[i] = 0
def okB (t : Tm) (v : Nd) : Bool :=
  match shp v.op with
  | none => false
  | some s => decide (v.op ≠ 5) && (if v.op = 3 then decide (0 ≤ v.var ∧ v.var < t.nb) else if v.op = 4 then decide (0 ≤ v.var ∧ v.var < t.nr) else decide (v.var = 0)) && decide (v.xs = [] ∧ v.ys = [] ∧ v.neg = false) &&
      v.kids.all (fun k => decide (0 ≤ k ∧ k < (t.S.length : Int))) && decide (s.1 ≤ (v.kids.length : Int) ∧ (v.kids.length : Int) ≤ s.2.1) && decide (sortedV t.S v s ≠ 0) && decide (freeV t.G v.op 0 v.kids = 0)
theorem okB_add {t : Tm} {v : Nd} (h : okB t v = true) : addE t v = 0 := by
  unfold okB at h
  unfold addE
  split at h
  · cases h
  · rename_i s hs
    simp only [Bool.and_eq_true, decide_eq_true_eq, List.all_eq_true] at h
    obtain ⟨⟨⟨⟨⟨⟨h1, h2⟩, h3⟩, h4⟩, h5⟩, h6⟩, h7⟩ := h
    have hl : leafOk t v := by
      refine ⟨?_, by rw [if_neg h1]; exact h3⟩
      split at h2
      · rename_i e; rw [if_pos e]; exact of_decide_eq_true h2
      · rename_i e
        rw [if_neg e]
        split at h2
        · rename_i e'; rw [if_pos e']; exact of_decide_eq_true h2
        · rename_i e'; rw [if_neg e']; exact of_decide_eq_true h2
    simp only [hs]
    rw [if_neg (fun h => h hl), if_neg (by rintro ⟨k, hk, hn⟩; exact hn (h4 k hk)), if_neg (by omega), if_neg h6, if_neg (fun h => h (.inl h7))]
def checkT : Tm → List Nd → Bool
  | _, [] => true
  | t, v :: r => okB t v && checkT (addT t v) r
theorem checkT_adds : ∀ {N : List Nd} {t0 : Tm}, checkT t0 N = true → Adds t0 N
  | [], _, _, i, hi => by simp at hi
  | v :: r, t0, h, i, hi => by
    simp only [checkT, Bool.and_eq_true] at h
    cases i with
    | zero => exact okB_add h.1
    | succ i => exact checkT_adds h.2 i (by simpa using hi)
variable {h : Heap} {nodes : Sl} {ns : List N6} {N : List Nd}
theorem tRight_spec {nb nr : Int} {Q : Bool → Heap → Prop} (ht : Tab h) (hr : RS C6 6 h nodes ns) (ha : All2 (ND h) ns N) (hl : N.length ≤ 900) (had : Adds ⟨if 0 > nb then 0 else nb, if 0 > nr then 0 else nr, [], []⟩ N) (K : ∀ h', Ext h h' → Q true h') : term_Right nodes nb nr h Q := by
  have hlen := hr.len; have al := ha.length
  refine tNew_spec fun a mp h1 q1 e1 => ?_
  generalize (⟨if 0 > nb then 0 else nb, if 0 > nr then 0 else nr, [], []⟩ : Tm) = t0 at *
  have hS0 : t0.S.length = 0 → True := fun _ => trivial
  refine loop.inv (fun t h' => ∃ (i : Nat) (w1 w2 w3 : Sl), t = (i : Int) ∧ i ≤ N.length ∧ TT (fun b => h.size ≤ b) h' a mp w1 w2 w3 (tms t0 N i) ∧ Ext h h') (fun t _ => N.length - t.toNat) ⟨0, _, _, _, rfl, by omega, q1, e1⟩ ?_
  rintro t h2 ⟨i, w1, w2, w3, rfl, hi, q2, e2⟩
  refine ⟨fun hlt => ?_, fun _ => K h2 e2⟩
  have hlt := of_decide_eq_true hlt
  have hi' : i < N.length := by omega
  have hf := q2.few
  refine (hr.ext e2).ld (j := i) rfl (by omega) (mem_ext fun h3 e3 => ?_)
  have e03 := e2.trans e3
  have tl := tms_len t0 N i (by omega)
  have hnd := (ha.get i (by omega) hi').ext e03
  have q3 := q2.ext e3
  refine tAdd_spec (R.ext ht e03) q3 (n := _) (v := N[i]) ⟨hnd.op, hnd.var, hnd.kids, hnd.neg, hnd.x, hnd.kl, hnd.xl, hnd.yl⟩ ?_ (fun hne => absurd (had i hi') hne) fun _ x1 x2 x3 h4 q4 f4 => ?_
  · have h0 : t0.S.length = 0 := q1.n1.1.symm
    omega
  refine ⟨fun g => by simp at g, fun _ => ?_⟩
  rw [w64 (by omega) (by omega)]
  rw [← tms_succ t0 hi'] at q4
  exact ⟨⟨i + 1, x1, x2, x3, by omega, by omega, q4, f4.toExt e03 fun _ h => h⟩, by omega⟩
theorem RightR {x : X3} {q : Rat} {Q : Bool → Heap → Prop} (ht : Tab h) (hx : RQ h x q) (hs : szQ q ≤ 1000) (K : ∀ h', Ext h h' → Q true h') : ratio_Right x h Q := by
  obtain ⟨xs, ys, hX, v1, v2, l1, l2⟩ := hx.xr
  have := nl_num_le q; have := nl_dn_le q
  exact RightQ_spec ht hX (by omega) (by omega) fun b h' hb e => by rw [hb.2 ⟨q, hx⟩]; exact K h' e
theorem odd_spec {reals : Sl} {ys : List X3} {rs : List Rat} {Q : Bool → Heap → Prop} (ht : Tab h) (hr : RS C_bool_sl_sl 3 h reals ys) (ha : All2 (RQ h) ys rs) (hl : rs.length ≤ 1000) (hs : ∀ q ∈ rs, szQ q ≤ 1000) (K : ∀ h', Ext h h' → Q false h') : slices_ContainsFunc_api_Ratio_api_Ratio__eval_All_c1 reals h Q := by
  have hlen := hr.len; have al := ha.length
  unfold slices_ContainsFunc_api_Ratio_api_Ratio__eval_All_c1 slices_IndexFunc_api_Ratio_api_Ratio__eval_All_c1
  refine loop.inv (fun t h' => ∃ i : Nat, t = (i : Int) ∧ i ≤ rs.length ∧ Ext h h') (fun t _ => rs.length - t.toNat) ⟨0, rfl, by omega, Keep.refl _ _⟩ ?_
  rintro t h1 ⟨i, rfl, hi, e1⟩
  refine ⟨fun hlt => ?_, fun hge => K h1 e1⟩
  have hlt := of_decide_eq_true hlt
  have hi' : i < rs.length := by omega
  refine (hr.ext e1).ld (j := i) rfl (by omega) (mem_ext fun h2 e2 => ?_)
  have e02 := e1.trans e2
  refine RightR (R.ext ht e02) ((ha.get i (by omega) hi').ext e02) (hs _ (List.getElem_mem hi')) fun h3 e3 => ⟨nofun, fun _ => ?_⟩
  rw [w64 (by omega) (by omega)]
  exact ⟨⟨i + 1, by omega, by omega, e02.trans e3⟩, by omega⟩
end Go.Sh

namespace Go.Sh
open Go Go.Lift
theorem Env.keepB {h0 h h' : Heap} {L : List (Nat × List Value)} {n : Nat} (q : Env h0 h L) (k : Keep (some n) h h') (hn : h0.size ≤ n) (hne : ∀ x ∈ L, x.1 ≠ n) : Env h0 h' L :=
  ⟨q.ext.fresh hn k, q.ge, q.nd, fun x hx => by
    obtain ⟨T, hT⟩ := q.at' x hx
    exact ⟨T, by rw [k.same x.1 (Blk.lt ⟨T, hT⟩) (by simpa using hne x hx)]; exact hT⟩⟩
theorem Env.keepO {h0 h h' : Heap} {L : List (Nat × List Value)} {o : Option Nat} (q : Env h0 h L) (k : Keep o h h') (ho : ∀ n, o = some n → h0.size ≤ n ∧ ∀ x ∈ L, x.1 ≠ n) : Env h0 h' L := by
  cases o with
  | none => exact q.more k
  | some n => exact q.keepB k (ho n rfl).1 (ho n rfl).2
theorem Env.storeK {h0 h : Heap} {L : List (Nat × List Value)} {v : Value} {k : Heap → Prop} (q : Env h0 h L) (n i : Nat) {a : Addr} {b : Nat} {cs : List Value} (ha : a = ⟨b, i, none⟩) (hn : L[n]? = some (b, cs)) (hi : i < cs.length) (K : ∀ h', Env h0 h' (L.set n (b, cs.set i v)) → Keep (some b) h h' → k h') : Lift.store a v h k := by
  subst ha
  have qb := q.blk n hn
  obtain ⟨T, hT⟩ := qb
  have qb : Blk h b cs := ⟨T, hT⟩
  refine ⟨⟨cs[i], by rw [qb.cell]; exact List.getElem?_eq_getElem hi⟩, frozen_none hT, K _ (q.upd n hn (Keep.setCell h ⟨b, i, none⟩ v) ⟨T, ?_⟩) (Keep.setCell h ⟨b, i, none⟩ v)⟩
  have := block_set (i := i) hT v
  simpa using this
theorem new_and {cs : List Value} {h : Heap} {A C : Addr → Heap → Prop} (h1 : new cs h A) (h2 : new cs h C) : new cs h fun a h' => A a h' ∧ C a h' := fun T => ⟨h1 T, h2 T⟩
theorem RK.push {K : Nat → Prop} {h h' : Heap} {s s' : Sl} {x : X3} {q : Rat} (hx : RK (fun k => K k ∨ s.blk = some k) h x q) (e : Keep s.blk h h') (hb : s'.blk = s.blk ∨ ∀ b, s'.blk = some b → h.size ≤ b) : RK (fun k => K k ∨ s'.blk = some k) h' x q := by
  have h4 : RK (fun k => (K k ∨ s.blk = some k) ∨ s'.blk = some k) h x q := hx.raise fun k hk => by
    rcases hk with hk | hk
    · exact .inl hk
    · rcases hb with hb | hb
      · exact .inl (.inr (hb ▸ hk))
      · exact .inr (hb k hk)
  have h5 : RK (fun k => (K k ∨ s.blk = some k) ∨ s'.blk = some k) h' x q := h4.keep e fun k hk => .inl (.inr hk)
  exact ⟨h5.rq, fun k hk => h5.num k (hk.elim (fun h => .inl (.inl h)) .inr), fun k hk => h5.den k (hk.elim (fun h => .inl (.inl h)) .inr)⟩
def valsAt (bs : List Bool) (rs : List Rat) (E : List EN) (i : Nat) : List EV := (E.take i).foldl (fun vs v => vs ++ [evalV bs rs vs v]) []
theorem valsAt_succ (bs : List Bool) (rs : List Rat) {E : List EN} {i : Nat} (hi : i < E.length) : valsAt bs rs E (i + 1) = valsAt bs rs E i ++ [evalV bs rs (valsAt bs rs E i) E[i]] := by
  unfold valsAt
  rw [List.take_succ_eq_append_getElem hi, List.foldl_append]
  rfl
theorem valsAt_len (bs : List Bool) (rs : List Rat) (E : List EN) : ∀ i, i ≤ E.length → (valsAt bs rs E i).length = i
  | 0, _ => rfl
  | i + 1, h => by rw [valsAt_succ bs rs (by omega), List.length_append, valsAt_len bs rs E i (by omega)]; rfl
structure NE (h : Heap) (n : N6) (v : Nd) (e : EN) : Prop where
  nd : ND h n v
  op : v.op = e.op
  var : v.var = e.var
  kids : v.kids = e.kids
  q : e.op = 5 → RQ h (n.2.2.2.1, n.2.2.2.2.1, n.2.2.2.2.2) e.q
variable {hN h : Heap} {b : Addr} {lim : Nat} {nodes bools reals : Sl} {ns : List N6} {N : List Nd} {E : List EN} {bs : List Bool} {rs : List Rat} {ys : List X3}
theorem All_spec {Q : Sl × Int → Heap → Prop} (hv : BB hN b lim h) (hr : RS C6 6 hN nodes ns) (hl : ns.length ≤ 900) (l1 : N.length = ns.length) (l2 : E.length = ns.length) (hne : ∀ i (h1 : i < ns.length), NE hN ns[i] (N[i]'(by omega)) (E[i]'(by omega)))
    (hbo : R Value.bool h bools bs) (hbb : ∀ a, bools.a = some a → a.block ≠ b.block) (hre : RS C_bool_sl_sl 3 h reals ys) (hrb : ∀ a, reals.a = some a → a.block ≠ b.block) (hra : All2 (RQ hN) ys rs) (hrl : rs.length ≤ 100) (hrs : ∀ q ∈ rs, szQ q ≤ 100)
    (had : Adds ⟨(bs.length : Int), (rs.length : Int), [], []⟩ N) (hok : ∀ i (hi : i < E.length), EO lim bs.length rs.length (valsAt bs rs E i) E[i])
    (H : ∀ w h', BB hN b lim h' → Keep (some b.block) h h' → VL (fun _ => False) h' w (valsAt bs rs E E.length) → (∀ k, w.blk = some k → h.size ≤ k) → Q (w, 0) h') : eval_All (some b) nodes bools reals h Q := by
  have hrl2 := hra.length; have rl := hre.len; have bl := hbo.len; have nl' := hr.len
  have eN := hv.ext
  refine seq.cut (fun t h' => t = false ∧ Ext h h') ?_ ?_
  · rw [bl, rl, hrl2]
    refine tRight_spec (N := N) (R.ext hv.tab eN) (hr.ext eN) (All2.ofGet' l1.symm fun i h1 h2 => (hne i h1).nd.ext eN) (by omega) ?_ fun h1 e1 => ⟨nofun, fun _ => ?_⟩
    · rw [if_neg (by omega), if_neg (by omega)]; exact had
    · refine odd_spec (rs := rs) (R.ext hv.tab (eN.trans e1)) (hre.ext e1) (hra.imp fun _ _ q => q.ext (eN.trans e1)) (by omega) (fun q hq => by have := hrs q hq; omega) fun h2 e2 => ⟨rfl, e1.trans e2⟩
  rintro t h1 ⟨rfl, e1⟩
  refine ⟨nofun, fun _ => ?_⟩
  have q0 : Env hN h1 [] := ⟨eN.trans e1, by simp, by simp, by simp⟩
  have hb1 := hv.bench.lt
  have s1 := e1.size
  intro T
  have hT : (h1.push (.cells [Value.pointer (some b), Sl.toV bools, Sl.toV reals, Sl.toV nodes, Sl.toV Sl.nil].toArray T (0, 0)) : Heap)[h1.size]? = some (.cells [Value.pointer (some b), Sl.toV bools, Sl.toV reals, Sl.toV nodes, Sl.toV Sl.nil].toArray T (0, 0)) := Array.getElem?_push_size
  have e2 : Ext h1 (h1.push (.cells [Value.pointer (some b), Sl.toV bools, Sl.toV reals, Sl.toV nodes, Sl.toV Sl.nil].toArray T (0, 0))) := Ext.push _ _
  have z2 : (h1.push (.cells [Value.pointer (some b), Sl.toV bools, Sl.toV reals, Sl.toV nodes, Sl.toV Sl.nil].toArray T (0, 0)) : Heap).size = h1.size + 1 := by simp
  have q2 : Env hN (h1.push (.cells [Value.pointer (some b), Sl.toV bools, Sl.toV reals, Sl.toV nodes, Sl.toV Sl.nil].toArray T (0, 0))) [(h1.size, [Value.pointer (some b), Sl.toV bools, Sl.toV reals, Sl.toV nodes, Sl.toV Sl.nil])] :=
    ⟨q0.ext.trans e2, fun x hx => by simp at hx; subst hx; exact q0.ext.size, by simp, fun x hx => by simp at hx; subst hx; exact ⟨T, hT⟩⟩
  generalize (h1.push (.cells [Value.pointer (some b), Sl.toV bools, Sl.toV reals, Sl.toV nodes, Sl.toV Sl.nil].toArray T (0, 0)) : Heap) = h2 at *
  clear hT
  have e02 := e1.trans e2
  have bN : hN.size ≤ b.block := hv.old
  have hNs := q0.ext.size
  refine loop.inv (fun t h' => ∃ (i : Nat) (w : Sl) (ws : List V4), t = (i : Int) ∧ i ≤ E.length ∧ BB hN b lim h' ∧ Keep (some b.block) h1 h' ∧ Env hN h' [(h1.size, [Value.pointer (some b), Sl.toV bools, Sl.toV reals, Sl.toV nodes, Sl.toV w])] ∧
      OwnS CV4 4 h2.size h' w ws ∧ All2 (VK (fun k => (k = b.block ∨ k = h1.size) ∨ w.blk = some k) h') ws (valsAt bs rs E i)) (fun t _ => E.length - t.toNat)
    ⟨0, Sl.nil, [], rfl, by omega, hv.of_ext e02, Keep.of_ext e2, q2, ⟨rfl, [], rfl, by rw [show Sl.sc 4 Sl.nil = Sl.nil by simp [Sl.sc, Sl.nil]]; exact Own.nil⟩, .nil⟩ ?_
  rintro t h3 ⟨i, w, ws, rfl, hi, b3, k3, q3, o3, a3⟩
  have vlen := valsAt_len bs rs E i hi
  have wsl := a3.length
  refine ⟨fun hlt => ?_, fun hge => ?_⟩
  · have hlt := of_decide_eq_true hlt
    have hi' : i < E.length := by omega
    refine (hr.ext b3.ext).ld (j := i) (by omega) (by omega) (mem_ext fun h4 e4 => ?_)
    have b4 := b3.of_ext e4
    have q4 := q3.more e4
    have o4 := o3.ext e4
    have a4 := a3.imp fun _ _ q => q.ext e4
    have k4 : Keep (some b.block) h h4 := (Keep.of_ext e1).trans (k3.trans (Keep.of_ext e4))
    refine q4.load (x := w) 0 4 rfl rfl rfl ?_
    have ne := hne i (by omega)
    have KN : ∀ k, ((k = b.block ∨ k = h1.size) ∨ w.blk = some k) → hN.size ≤ k := by
      rintro k ((rfl | rfl) | hk)
      · exact bN
      · exact hNs
      · have := (o4.lt hk).1; omega
    have wb : ∀ k, w.blk = some k → k ≠ b.block ∧ k ≠ h1.size := fun k hk => by have := (o4.lt hk).1; omega
    have ea : EA hN b ⟨h1.size, 0, none⟩ lim bs rs w bools reals (fun k => (k = b.block ∨ k = h1.size) ∨ w.blk = some k) (valsAt bs rs E i) h4 :=
      { bb := b4
        c0 := by rw [show ((⟨h1.size, 0, none⟩ : Addr).add 0) = ⟨h1.size, 0, none⟩ by rfl, (q4.blk 0 rfl).cell]; rfl
        c1 := by rw [show ((⟨h1.size, 0, none⟩ : Addr).add 1) = ⟨h1.size, 1, none⟩ by rfl, (q4.blk 0 rfl).cell]; rfl
        c2 := by rw [show ((⟨h1.size, 0, none⟩ : Addr).add 2) = ⟨h1.size, 2, none⟩ by rfl, (q4.blk 0 rfl).cell]; rfl
        c4 := by rw [show ((⟨h1.size, 0, none⟩ : Addr).add 4) = ⟨h1.size, 4, none⟩ by rfl, (q4.blk 0 rfl).cell]; rfl
        bo := hbo.keep k4 fun a ha => by simpa using hbb a ha
        re := ⟨ys, hre.keep k4 fun _ a ha => by simpa using hrb a ha, hra.imp fun _ _ q => (RK.of_rq q KN).ext b4.ext⟩
        vl := ⟨ws, o4.rs lenV (by decide), a4⟩
        Kb := .inl (.inl rfl)
        Kl := by
          rintro k ((rfl | rfl) | hk)
          · exact b4.bench.lt
          · have := (q4.blk 0 rfl).lt; exact this
          · exact (o4.lt hk).2 }
    refine value_spec ea (v := E[i]) (ne.nd.op.trans ne.op) (ne.nd.var.trans ne.var) (by rw [← ne.kids]; exact R.ext ne.nd.kids b4.ext) (fun h5 => (RK.of_rq (ne.q h5) KN).ext b4.ext) (hok i hi') fun y h5 b5 k5 y5 => ?_
    have q5 := q4.keepB k5 bN (by simp; omega)
    have o5 : OwnS CV4 4 h2.size h5 w ws := o4.keep k5 fun k hk => by simpa using (wb k hk).1
    have a5 : All2 (VK (fun k => (k = b.block ∨ k = h1.size) ∨ w.blk = some k) h5) ws (valsAt bs rs E i) := a4.imp fun _ _ q => q.keep k5 fun k hk => by cases hk; exact .inl (.inl rfl)
    have kk := k3.trans ((Keep.of_ext e4).trans k5)
    have s5 := (q5.blk 0 rfl).lt
    refine ⟨by rw [show ((⟨h1.size, 0, none⟩ : Addr).add 4) = ⟨h1.size, 4, none⟩ by rfl, (q5.blk 0 rfl).cell]; rfl, ?_⟩
    refine new_and (fun T' => ?_) ?_
    · have q6 := q5.more (Ext.push h5 (.cells [Value.bool y.1, Value.bool y.2.1, Sl.toV y.2.2.1, Sl.toV y.2.2.2].toArray T' (0, 0)))
      rw [show ((⟨h1.size, 0, none⟩ : Addr).add 4) = ⟨h1.size, 4, none⟩ by rfl, (q6.blk 0 rfl).cell]; rfl
    refine o5.append1 (x := y) lenV (by decide) rfl (by omega) rfl (by omega) fun w' h6 o6 k6 hbk => ?_
    have q6 := q5.keepO k6 fun k hk => by have := (o5.lt hk).1; refine ⟨by omega, ?_⟩; simp; omega
    have kk6 : Keep (some b.block) h1 h6 := by
      cases hw : w.blk with
      | none => rw [hw] at k6; exact kk.trans (Keep.of_ext k6)
      | some k => rw [hw] at k6; exact kk.fresh (by have := (o5.lt hw).1; omega) k6
    have b6 : BB hN b lim h6 := by
      refine ⟨b5.tab, ?_, ?_, b5.old⟩
      · exact b5.bench.keep k6 fun e => (wb _ e.symm).1 rfl
      · cases hw : w.blk with
        | none => rw [hw] at k6; exact b5.ext.trans k6
        | some k => rw [hw] at k6; exact b5.ext.fresh (KN k (.inr hw)) k6
    refine q6.storeK 0 4 rfl rfl (by show 4 < 5; omega) fun h7 q7 k7 => ?_
    rw [w64 (by omega) (by omega)]
    have wb' : ∀ k, w'.blk = some k → k ≠ h1.size := fun k hk => by have := (o6.lt hk).1; omega
    have o7 := o6.keep k7 fun k hk => by have := wb' k hk; simpa using this
    have a7 : All2 (VK (fun k => (k = b.block ∨ k = h1.size) ∨ w'.blk = some k) h7) (ws ++ [y]) (valsAt bs rs E (i + 1)) := by
      rw [valsAt_succ bs rs hi']
      have P : ∀ z e, VK (fun k => (k = b.block ∨ k = h1.size) ∨ w.blk = some k) h5 z e → VK (fun k => (k = b.block ∨ k = h1.size) ∨ w'.blk = some k) h7 z e := fun z e v => by
        have v6 : VK (fun k => (k = b.block ∨ k = h1.size) ∨ w'.blk = some k) h6 z e := ⟨v.t, v.n.push k6 hbk⟩
        exact v6.keep k7 fun k hk => by cases hk; exact .inl (.inr rfl)
      exact (a5.imp P).append (.cons (P _ _ y5) .nil)
    refine ⟨⟨i + 1, w', ws ++ [y], by omega, by omega, ?_, kk6.fresh (Nat.le_refl _) k7, q7, o7, a7⟩, by omega⟩
    exact ⟨b6.tab, b6.bench.keep k7 (by simp; omega), b6.ext.fresh hNs k7, b6.old⟩
  · have hge := of_decide_eq_false hge
    have hi' : i = E.length := by omega
    subst hi'
    refine Over_spec b3.bench ⟨nofun, fun _ => ?_⟩
    refine q3.load (x := w) 0 4 rfl rfl rfl ?_
    exact H w h3 b3 ((Keep.of_ext e1).trans k3) ⟨ws, o3.rs lenV (by decide), a3.imp fun _ _ v => v.raise (fun _ h => h.elim)⟩ fun k hk => by have := (o3.lt hk).1; omega
end Go.Sh

namespace Go.Sh
open Go Go.Lift
variable {hN h : Heap} {b : Addr} {lim : Nat} {nodes eqs bools reals : Sl} {ns : List N6} {N : List Nd} {E : List EN} {bs : List Bool} {rs : List Rat} {ys : List X3} {ks : List Int}
theorem True_spec {Q : Bool × Int → Heap → Prop} (hv : BB hN b lim h) (hr : RS C6 6 hN nodes ns) (hl : ns.length ≤ 900) (l1 : N.length = ns.length) (l2 : E.length = ns.length) (hne : ∀ i (h1 : i < ns.length), NE hN ns[i] (N[i]'(by omega)) (E[i]'(by omega)))
    (hbo : R Value.bool h bools bs) (hbb : ∀ a, bools.a = some a → a.block ≠ b.block) (hre : RS C_bool_sl_sl 3 h reals ys) (hrb : ∀ a, reals.a = some a → a.block ≠ b.block) (hra : All2 (RQ hN) ys rs) (hrl : rs.length ≤ 100) (hrs : ∀ q ∈ rs, szQ q ≤ 100)
    (had : Adds ⟨(bs.length : Int), (rs.length : Int), [], []⟩ N) (hok : ∀ i (hi : i < E.length), EO lim bs.length rs.length (valsAt bs rs E i) E[i])
    (hq : R (Value.int .i64) hN eqs ks) (hkl : ks.length ≤ 1000) (hk : ∀ k ∈ ks, 0 ≤ k ∧ k < (E.length : Int)) (hs : ∀ k ∈ ks, atI (tms ⟨(bs.length : Int), (rs.length : Int), [], []⟩ N N.length).S k.toNat = 1)
    (H : ∀ h', Ext hN h' → Q (ks.all fun k => ((valsAt bs rs E E.length).getD k.toNat (false, 0)).1, 0) h') : eval_True (some b) (Sl.nil, Sl.nil, nodes, eqs, false, false) bools reals h Q := by
  have hrl2 := hra.length; have rl := hre.len; have bl := hbo.len; have nl' := hr.len; have ql := hq.len
  refine mem_ext fun h0 e0 => ?_
  refine All_spec (hv.of_ext e0) hr hl l1 l2 hne (R.ext hbo e0) hbb (hre.ext e0) hrb hra hrl hrs had hok fun w h1 b1 k1 vl f1 => ?_
  refine ⟨fun g => absurd g (by simp), fun _ => ?_⟩
  rw [bl, rl, hrl2]
  refine tNew_spec fun a mp h2 q2 e2 => ?_
  rw [if_neg (by omega), if_neg (by omega)] at q2
  have h00 : (⟨(bs.length : Int), (rs.length : Int), [], []⟩ : Tm).S.length = 0 := rfl
  generalize (⟨(bs.length : Int), (rs.length : Int), [], []⟩ : Tm) = t0 at *
  refine loop.inv (fun t h' => ∃ (i : Nat) (w1 w2 w3 : Sl), t = (i : Int) ∧ i ≤ N.length ∧ TT (fun b => h1.size ≤ b) h' a mp w1 w2 w3 (tms t0 N i) ∧ Ext h1 h') (fun t _ => N.length - t.toNat) ⟨0, _, _, _, rfl, by omega, q2, e2⟩ ?_
  rintro t h3 ⟨i, w1, w2, w3, rfl, hi, q3, e3⟩
  refine ⟨fun hlt => ?_, fun hge => ?_⟩
  · have hlt : (i : Int) < ((nodes.len : Nat) : Int) := of_decide_eq_true hlt
    have hi' : i < N.length := by omega
    refine (hr.ext (b1.ext.trans e3)).ld (j := i) rfl (by omega) (mem_ext fun h4 e4 => ?_)
    have e04 := e3.trans e4
    have tl := tms_len t0 N i (by omega)
    have hnd := (hne i (by omega)).nd.ext (b1.ext.trans e04)
    refine tAdd_spec (R.ext b1.tab (b1.ext.trans e04)) (q3.ext e4) (n := _) (v := N[i]) ⟨hnd.op, hnd.var, hnd.kids, hnd.neg, hnd.x, hnd.kl, hnd.xl, hnd.yl⟩ (by omega) (fun hne => absurd (had i hi') hne) fun _ x1 x2 x3 h5 q5 f5 => ?_
    rw [w64 (by omega) (by omega)]
    rw [← tms_succ t0 hi'] at q5
    exact ⟨⟨i + 1, x1, x2, x3, by omega, by omega, q5, f5.toExt e04 fun _ h => h⟩, by omega⟩
  · have hge : ¬ (i : Int) < ((nodes.len : Nat) : Int) := of_decide_eq_false hge
    have hi' : i = N.length := by omega
    subst hi'
    have tl := tms_len t0 N N.length (by omega)
    have vlen := valsAt_len bs rs E E.length (by omega)
    refine loop.inv (fun (t : Bool × Int) h' => ∃ j : Nat, t = ((ks.take j).all fun k => ((valsAt bs rs E E.length).getD k.toNat (false, 0)).1, (j : Int)) ∧ j ≤ ks.length ∧ h' = h3) (fun t _ => ks.length - t.2.toNat) ⟨0, rfl, by omega, rfl⟩ ?_
    rintro t h' ⟨j, rfl, hj, rfl⟩
    refine ⟨fun hlt => ?_, fun hge => ?_⟩
    · have hlt := of_decide_eq_true hlt
      have hj' : j < ks.length := by dsimp only at hlt; omega
      have hkj := hk ks[j] (List.getElem_mem hj')
      refine seq.cut (fun (t : Bool) hh => t = ((ks.take (j + 1)).all fun k => ((valsAt bs rs E E.length).getD k.toNat (false, 0)).1) ∧ hh = h') ?_ ?_
      · refine (R.ext hq (b1.ext.trans e3)).idx (i := (j : Int)) (by omega) (by omega) fun a' _ hc' => ⟨_, hc', ?_⟩
        refine Sort_spec q3 ?_
        simp only [Int.toNat_natCast]
        rw [if_pos (by omega), hs ks[j] (List.getElem_mem hj')]
        refine ⟨fun g => absurd g (by decide), fun _ => ?_⟩
        rw [List.take_succ_eq_append_getElem hj', List.all_append]
        refine ⟨fun ht => ?_, fun ht => ?_⟩
        · have ht := ht
          refine (vl.ext e3).at (j := ks[j].toNat) (by omega) (by omega) fun a1 y hc1 hy => ⟨_, cell_t hc1, ?_⟩
          rw [ht, hy.t]
          simp [List.getElem?_eq_getElem (show ks[j].toNat < (valsAt bs rs E E.length).length by omega)]
        · have ht := ht
          rw [ht]
          simp
      rintro t hh ⟨rfl, rfl⟩
      rw [w64 (by omega) (by omega)]
      exact ⟨⟨j + 1, by simp, by omega, rfl⟩, by dsimp only; omega⟩
    · have hge := of_decide_eq_false hge
      dsimp only at hge
      have : j = ks.length := by omega
      subst this
      rw [List.take_length]
      exact H _ (b1.ext.trans e3)
end Go.Sh
