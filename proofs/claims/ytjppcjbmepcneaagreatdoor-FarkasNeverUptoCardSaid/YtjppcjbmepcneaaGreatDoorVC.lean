/-
  Laws that the proof of this claim's statement leans on, each proved under the conditions that it states.
-/
import Derived.Test.YtjppcjbmepcneaaGreatDoorVB
set_option linter.unusedVariables false
set_option linter.unusedSimpArgs false
namespace Go.Sh
open Go Go.Lift
structure GoodA (t : PB) : Prop where
  ok : ∀ a ∈ t.as, AtOk t a
  no : ∀ i j (hi : i < t.as.length) (hj : j < t.as.length), i < j → (t.as[i]'hi).v ≠ (t.as[j]'hj).v
section
variable {h0 h : Heap} {p : S7} {t : PB} {ss : List Sl} {c0 c1 cf : Addr} {mp : Nat}
theorem atoms_spec {Q : Bool → Heap → Prop} (ht : Tab h0) (e0 : Ext h0 h) (hn : p.1 = t.n) (hm : p.2.1 = t.m) (hq : RowQ C9 9 AQ h0 p.2.2.2.1 t.as) (z : ∀ a ∈ t.as, szD a.b ≤ 6) (hl : t.as.length ≤ 1000) (hf : cell? h cf = some (FnV.toV (FnV.mk 146 [] [Value.pointer (some c0), Value.pointer (some c1)])))
    (hc : cells? h c0 7 0 = some (P7 p)) (h1 : cell? h c1 = some (Value.map (some mp))) (hmp : MPg Value.bool h mp fun _ => none) (n0 : c0.block ≠ mp) (n1 : c1.block ≠ mp) (nf : cf.block ≠ mp) (hmp0 : h0.size ≤ mp)
    (K : ∀ b h', (GoodA t → b = false) → Keep (some mp) h h' → Q b h') : slices_ContainsFunc_api_Atom_api_Atom__cnf_Right_c4 p.2.2.2.1 cf h Q := by
  have hlen := hq.len
  refine findI (body := fun s0 h0 R => idxS p.2.2.2.1 s0 9 fun a => loadS C9 9 a h0 fun v => cnf_Right_c4 (v.1, v.2.1, v.2.2.1, v.2.2.2.1, v.2.2.2.2.1, v.2.2.2.2.2.1, v.2.2.2.2.2.2.1, v.2.2.2.2.2.2.2.1, v.2.2.2.2.2.2.2.2) cf h0 R) (n := t.as.length)
    (I := fun i h' => Keep (some mp) h h' ∧ ∃ g, MPg Value.bool h' mp g ∧ ∀ k : Int, (∀ j (hj : j < t.as.length), j < i → (t.as[j]'hj).v ≠ k) → g k = none) (F := fun i h' => Keep (some mp) h h' ∧ ¬ GoodA t) (by rw [hlen]) (by omega) ⟨Keep.refl _ _, _, hmp, fun _ _ => rfl⟩ (fun i h' hi hI R R1 R2 => ?_) (fun i h' _ hF => K _ h' (fun e => absurd e hF.2) hF.1) (fun h' hI => K _ h' (fun _ => by decide) hI.1)
  obtain ⟨kk, g, mg, hg⟩ := hI
  have e0' : Ext h0 h' := e0.fresh hmp0 kk
  refine hq.ldE e0' rfl hi fun y hy => mem_ext fun h2 e2 => ?_
  have k2 : Keep (some mp) h h2 := kk.trans (Keep.of_ext e2)
  have kn : ∀ {x : Addr}, x.block ≠ mp → some x.block ≠ some mp := fun h e => h (Option.some.inj e)
  refine ⟨_, cell_keep k2 hf (kn nf), c0, c1, rfl, ?_⟩
  refine atomic_spec (y := y) ht (e0'.trans e2) hn hm hy (z _ (List.getElem_mem _)) (cells_keep k2 (kn n0) hc) (cell_keep k2 h1 (kn n1)) (mg.keep e2 (by simp)) n1 fun b h3 hb m3 k3 => ?_
  cases b with
  | true =>
    refine R2 h3 ⟨k2.trans k3, _, m3, fun k hk => ?_⟩
    have : ¬ k = (t.as[i]'hi).v := fun e => hk i hi (by omega) e.symm
    rw [if_neg this]
    exact hg k fun j hj hji => hk j hj (by omega)
  | false =>
    refine R1 h3 ⟨k2.trans k3, fun G => ?_⟩
    have := hb (G.ok _ (List.getElem_mem _)) (hg _ fun j hj hji => G.no j i hj hi hji)
    cases this
structure Ready (h hz : Heap) (p : S7) (vr va : FnV) (mp : Nat) (row atom : Addr) : Prop where
  ext : Ext h hz
  r0 : ∃ u, cell? hz row = some u
  a0 : ∃ u, cell? hz atom = some u
  rf : frozen? hz row = false
  af : frozen? hz atom = false
  ra : row.block ≠ atom.block
  rn : h.size ≤ row.block
  an : h.size ≤ atom.block
  w : ∃ pr pa seen : Addr, vr = FnV.mk 145 [] [Value.pointer (some pr)] ∧ va = FnV.mk 146 [] [Value.pointer (some pa), Value.pointer (some seen)] ∧ cells? hz pr 7 0 = some (P7 p) ∧ cells? hz pa 7 0 = some (P7 p) ∧ cell? hz seen = some (Value.map (some mp)) ∧
    pr.block ≠ row.block ∧ pr.block ≠ atom.block ∧ pa.block ≠ row.block ∧ pa.block ≠ atom.block ∧ seen.block ≠ row.block ∧ seen.block ≠ atom.block ∧ pa.block ≠ mp ∧ seen.block ≠ mp
  m : MPg Value.bool hz mp fun _ => none
  mr : row.block ≠ mp
  ma : atom.block ≠ mp
  mn : h.size ≤ mp
structure Done (h hz : Heap) (p : S7) (mp : Nat) (row atom : Addr) : Prop where
  ext : Ext h hz
  w : ∃ pr pa seen : Addr, cell? hz row = some (FnV.toV (FnV.mk 145 [] [Value.pointer (some pr)])) ∧ cell? hz atom = some (FnV.toV (FnV.mk 146 [] [Value.pointer (some pa), Value.pointer (some seen)])) ∧ cells? hz pr 7 0 = some (P7 p) ∧ cells? hz pa 7 0 = some (P7 p) ∧ cell? hz seen = some (Value.map (some mp)) ∧ pa.block ≠ mp ∧ seen.block ≠ mp
  m : MPg Value.bool hz mp fun _ => none
  ma : atom.block ≠ mp
  mn : h.size ≤ mp
theorem Ready.go {hz : Heap} {vr va : FnV} {row atom : Addr} {k : Heap → Prop} (q : Ready h hz p vr va mp row atom) (K : ∀ h', Done h h' p mp row atom → k h') :
    Lift.store row (FnV.toV vr) hz fun h' => Lift.store atom (FnV.toV va) h' k := by
  obtain ⟨u, hu⟩ := q.r0
  obtain ⟨w, hw⟩ := q.a0
  obtain ⟨pr, pa, seen, rfl, rfl, c1, c2, c3, d1, d2, d3, d4, d5, d6, d7, d8⟩ := q.w
  refine ⟨⟨u, hu⟩, q.rf, ?_⟩
  have k1 := Keep.setCell hz row (FnV.toV (FnV.mk 145 [] [Value.pointer (some pr)]))
  have g1 := cell_set_same (v := FnV.toV (FnV.mk 145 [] [Value.pointer (some pr)])) hu
  have f1 : frozen? (setCell hz row (FnV.toV (FnV.mk 145 [] [Value.pointer (some pr)]))) atom = false := by rw [frozen_set]; exact q.af
  generalize setCell hz row (FnV.toV (FnV.mk 145 [] [Value.pointer (some pr)])) = h1 at *
  have kn : ∀ {x y : Addr}, x.block ≠ y.block → some x.block ≠ some y.block := fun h e => h (Option.some.inj e)
  have kn' : ∀ {x y : Addr}, y.block ≠ x.block → some x.block ≠ some y.block := fun h e => h (Option.some.inj e).symm
  have w1 := cell_keep k1 hw (kn' q.ra)
  refine ⟨⟨w, w1⟩, f1, ?_⟩
  have k2 := Keep.setCell h1 atom (FnV.toV (FnV.mk 146 [] [Value.pointer (some pa), Value.pointer (some seen)]))
  have g2 := cell_set_same (v := FnV.toV (FnV.mk 146 [] [Value.pointer (some pa), Value.pointer (some seen)])) w1
  generalize setCell h1 atom (FnV.toV (FnV.mk 146 [] [Value.pointer (some pa), Value.pointer (some seen)])) = h2 at *
  refine K h2 ⟨(q.ext.fresh q.rn k1).fresh q.an k2, ⟨pr, pa, seen, cell_keep k2 g1 (kn q.ra), g2, cells_keep k2 (kn d2) (cells_keep k1 (kn d1) c1), cells_keep k2 (kn d4) (cells_keep k1 (kn d3) c2), cell_keep k2 (cell_keep k1 c3 (kn d5)) (kn d6), d7, d8⟩, ?_, q.ma, q.mn⟩
  exact (q.m.keep k1 fun e => q.mr (Option.some.inj e).symm).keep k2 fun e => q.ma (Option.some.inj e).symm
theorem mkRowed {Q : FnV → Heap → Prop} (K : ∀ pr h', cells? h' pr 7 0 = some (P7 p) → pr.block = h.size → Ext h h' → h'.size = h.size + 1 → Q (FnV.mk 145 [] [Value.pointer (some pr)]) h') : cnf_rowed p h Q := by
  refine new_cs fun a h' c e1 e2 e3 => ?_
  refine K a h' ?_ e1 e2 e3
  have := cells?_mk (h := h') (a := a) (P7 p) 0 (fun j hj => by rw [Nat.zero_add]; exact (c.cell j hj).1)
  exact this
theorem mkAtomic {Q : FnV → Heap → Prop} (K : ∀ pa seen mp h', cells? h' pa 7 0 = some (P7 p) → cell? h' seen = some (Value.map (some mp)) → MPg Value.bool h' mp (fun _ => none) → pa.block = h.size → mp = h.size + 1 → seen.block = h.size + 2 → Ext h h' → h'.size = h.size + 3 → Q (FnV.mk 146 [] [Value.pointer (some pa), Value.pointer (some seen)]) h') : cnf_atomic p h Q := by
  refine new_cs fun a h1 c e1 e2 e3 => ?_
  have hc1 : cells? h1 a 7 0 = some (P7 p) := by
    have := cells?_mk (h := h1) (a := a) (P7 p) 0 (fun j hj => by rw [Nat.zero_add]; exact (c.cell j hj).1)
    exact this
  refine MPg.new (toV := Value.bool) fun h2 m2 e4 n2 => ?_
  refine new_cell fun s h3 hs hsb _ hsf e5 n3 => ?_
  refine ⟨⟨_, hs⟩, hsf, ?_⟩
  have k4 := Keep.setCell h3 s (Value.map (some h1.size))
  have g4 := cell_set_same (v := Value.map (some h1.size)) hs
  have n4 : (setCell h3 s (Value.map (some h1.size))).size = h3.size := by simp [setCell]
  generalize setCell h3 s (Value.map (some h1.size)) = h4 at *
  have e14 : Ext h1 h4 := (e4.trans e5).fresh (by have := e4.size; omega) k4
  refine K a s h1.size h4 (cells_ext e14 hc1) g4 ?_ e1 (by omega) (by omega) (e2.trans e14) (by omega)
  exact (m2.keep e5 (by simp)).keep k4 fun e => by have := Option.some.inj e; omega
end
end Go.Sh

namespace Go.Sh
open Go Go.Lift
section
variable {h0 h : Heap} {p : S7} {t : PB} {ss : List Sl}
theorem Ready.mk' {hz hr ha hw ht : Heap} {pr pa seen row atom : Addr} {mp : Nat} (ext : Ext h hz) (er : Ext hr hz) (cr : cells? hr pr 7 0 = some (P7 p)) (ea : Ext ha hz) (ca : cells? ha pa 7 0 = some (P7 p)) (cs : cell? ha seen = some (Value.map (some mp))) (m : MPg Value.bool ha mp fun _ => none)
    (ew : Ext hw hz) (cw : cell? hw row = some Value.nilFunc) (fw : frozen? hw row = false) (et : Ext ht hz) (ct : cell? ht atom = some Value.nilFunc) (ft : frozen? ht atom = false)
    (d : row.block ≠ atom.block ∧ h.size ≤ row.block ∧ h.size ≤ atom.block ∧ pr.block ≠ row.block ∧ pr.block ≠ atom.block ∧ pa.block ≠ row.block ∧ pa.block ≠ atom.block ∧ seen.block ≠ row.block ∧ seen.block ≠ atom.block ∧ pa.block ≠ mp ∧ seen.block ≠ mp ∧ row.block ≠ mp ∧ atom.block ≠ mp ∧ h.size ≤ mp) :
    Ready h hz p (FnV.mk 145 [] [Value.pointer (some pr)]) (FnV.mk 146 [] [Value.pointer (some pa), Value.pointer (some seen)]) mp row atom := by
  obtain ⟨d1, d2, d3, d4, d5, d6, d7, d8, d9, d10, d11, d12, d13, d14⟩ := d
  exact ⟨ext, ⟨_, cell_keep ew cw (by simp)⟩, ⟨_, cell_keep et ct (by simp)⟩, frozen_keep ew (cell_lt cw) fw (by simp), frozen_keep et (cell_lt ct) ft (by simp), d1, d2, d3, ⟨pr, pa, seen, rfl, rfl, cells_ext er cr, cells_ext ea ca, cell_keep ea cs (by simp), d4, d5, d6, d7, d8, d9, d10, d11⟩, m.keep ea (by simp), d12, d13, d14⟩
theorem cnfRight_spec {Q : Bool → Heap → Prop} (ht : Tab h0) (e0 : Ext h0 h) (q : PBQ h0 p t ss) (z : PBz t) (C : ∀ b h', (0 ≤ t.n → 0 ≤ t.m → ss = [] → t.ps = [] → GoodA t → b = true) → Ext h h' → Q b h') : cnf_Right p h Q := by
  have hnp := z.np; have hna := z.na
  refine new_cs fun p1 h1 c1 hp1 e1 n1 => new_cell fun lost h2 hlc hlb _ hlf e2 n2 => ?_
  have hc1 : cells? h1 p1 7 0 = some (P7 p) := by
    have := cells?_mk (h := h1) (a := p1) (P7 p) 0 (fun j hj => by rw [Nat.zero_add]; exact (c1.cell j hj).1)
    exact this
  refine ⟨⟨_, hlc⟩, hlf, ?_⟩
  have k3 := Keep.setCell h2 lost (FnV.toV (FnV.mk 97 [] [Value.pointer (some p1)]))
  have g3 := cell_set_same (v := FnV.toV (FnV.mk 97 [] [Value.pointer (some p1)])) hlc
  have n3 : (setCell h2 lost (FnV.toV (FnV.mk 97 [] [Value.pointer (some p1)]))).size = h2.size := by simp [setCell]
  generalize setCell h2 lost (FnV.toV (FnV.mk 97 [] [Value.pointer (some p1)])) = h3 at *
  have e13 : Ext h1 h3 := e2.fresh (by omega) k3
  have e3 := e1.trans e13
  have e03 := e0.trans e3
  have hc3 := cells_ext e13 hc1
  have hq3 := q.ext e03
  refine seq.cut (fun b h' => h' = h3 ∧ (0 ≤ t.n → 0 ≤ t.m → ss = [] → b = false)) ?_ ?_
  · refine ⟨_, p7ucell hc3 0 (by decide), ⟨fun g => ⟨rfl, fun hn => ?_⟩, fun _ => ⟨_, p7ucell hc3 1 (by decide), ⟨fun g => ⟨rfl, fun _ hm => ?_⟩, fun _ => ?_⟩⟩⟩⟩
    · have g := of_decide_eq_true g
      have hn' : p.1 = t.n := q.n
      change p.1 < 0 at g
      omega
    · have g := of_decide_eq_true g
      have hn' : p.2.1 = t.m := q.m
      change p.2.1 < 0 at g
      omega
    · refine ⟨_, p7ucell hc3 4 (by decide), lostAll (p := p) g3 hc3 hq3.cls fun b hb => ⟨rfl, fun _ _ hs => hb hs⟩⟩
  rintro o hx ⟨hxe, ho⟩
  rw [hxe]
  clear hxe hx
  refine ⟨fun hot => C false h3 (fun hn hm hs _ _ => by rw [ho hn hm hs] at hot; cases hot) e3, fun _ => ?_⟩
  refine seq.cut (fun (ra : Addr × Addr) h' => ∃ mp, Done h3 h' p mp ra.1 ra.2) ?_ ?_
  · refine ⟨p, hc3, p, hc3, ?_⟩
    have chk : ∀ {hh : Heap}, Ext h3 hh → cells? hh p1 7 0 = some (P7 p) := fun e => cells_ext e hc3
    refine ⟨?_, ?_, ?_⟩
    · refine mkRowed fun pr h6 cr hpr e6 n6 => ⟨chk e6, ?_, ?_, ?_⟩
      · refine mkAtomic fun pa sn mp h7 ca csn m hpa hmp hsn e7 n7 => ⟨?_, ?_⟩
        · refine new_cell fun row h8 cw hw _ fw e8 n8 => new_cell fun atom h9 ct hta _ ft e9 n9 => ?_
          exact (Ready.mk' (((e6.trans e7).trans e8).trans e9) ((e7.trans e8).trans e9) cr (e8.trans e9) ca csn m e9 cw fw (Keep.refl _ _) ct ft (by omega)).go fun h' d => ⟨_, d⟩
        · refine new_cell fun atom h8 ct hta _ ft e8 n8 => new_cell fun row h9 cw hw _ fw e9 n9 => ?_
          exact (Ready.mk' (((e6.trans e7).trans e8).trans e9) ((e7.trans e8).trans e9) cr (e8.trans e9) ca csn m (Keep.refl _ _) cw fw e9 ct ft (by omega)).go fun h' d => ⟨_, d⟩
      · refine new_cell fun row h7 cw hw _ fw e7 n7 => ⟨chk (e6.trans e7), ?_, ?_⟩
        · refine mkAtomic fun pa sn mp h8 ca csn m hpa hmp hsn e8 n8 => new_cell fun atom h9 ct hta _ ft e9 n9 => ?_
          exact (Ready.mk' (((e6.trans e7).trans e8).trans e9) ((e7.trans e8).trans e9) cr e9 ca csn m (e8.trans e9) cw fw (Keep.refl _ _) ct ft (by omega)).go fun h' d => ⟨_, d⟩
        · refine new_cell fun atom h8 ct hta _ ft e8 n8 => ⟨chk ((e6.trans e7).trans e8), mkAtomic fun pa sn mp h9 ca csn m hpa hmp hsn e9 n9 => ?_⟩
          exact (Ready.mk' (((e6.trans e7).trans e8).trans e9) ((e7.trans e8).trans e9) cr (Keep.refl _ _) ca csn m (e8.trans e9) cw fw e9 ct ft (by omega)).go fun h' d => ⟨_, d⟩
      · refine new_cell fun atom h7 ct hta _ ft e7 n7 => ⟨chk (e6.trans e7), ?_, ?_⟩
        · refine mkAtomic fun pa sn mp h8 ca csn m hpa hmp hsn e8 n8 => new_cell fun row h9 cw hw _ fw e9 n9 => ?_
          exact (Ready.mk' (((e6.trans e7).trans e8).trans e9) ((e7.trans e8).trans e9) cr e9 ca csn m (Keep.refl _ _) cw fw (e8.trans e9) ct ft (by omega)).go fun h' d => ⟨_, d⟩
        · refine new_cell fun row h8 cw hw _ fw e8 n8 => ⟨chk ((e6.trans e7).trans e8), mkAtomic fun pa sn mp h9 ca csn m hpa hmp hsn e9 n9 => ?_⟩
          exact (Ready.mk' (((e6.trans e7).trans e8).trans e9) ((e7.trans e8).trans e9) cr (Keep.refl _ _) ca csn m e9 cw fw (e8.trans e9) ct ft (by omega)).go fun h' d => ⟨_, d⟩
    · refine new_cell fun row h6 cw hw _ fw e6 n6 => ⟨chk e6, chk e6, ?_, ?_⟩
      · refine mkRowed fun pr h7 cr hpr e7 n7 => ⟨chk (e6.trans e7), ?_, ?_⟩
        · refine mkAtomic fun pa sn mp h8 ca csn m hpa hmp hsn e8 n8 => new_cell fun atom h9 ct hta _ ft e9 n9 => ?_
          exact (Ready.mk' (((e6.trans e7).trans e8).trans e9) (e8.trans e9) cr e9 ca csn m ((e7.trans e8).trans e9) cw fw (Keep.refl _ _) ct ft (by omega)).go fun h' d => ⟨_, d⟩
        · refine new_cell fun atom h8 ct hta _ ft e8 n8 => ⟨chk ((e6.trans e7).trans e8), mkAtomic fun pa sn mp h9 ca csn m hpa hmp hsn e9 n9 => ?_⟩
          exact (Ready.mk' (((e6.trans e7).trans e8).trans e9) (e8.trans e9) cr (Keep.refl _ _) ca csn m ((e7.trans e8).trans e9) cw fw e9 ct ft (by omega)).go fun h' d => ⟨_, d⟩
      · refine new_cell fun atom h7 ct hta _ ft e7 n7 => ⟨chk (e6.trans e7), chk (e6.trans e7), mkRowed fun pr h8 cr hpr e8 n8 => ⟨chk ((e6.trans e7).trans e8), mkAtomic fun pa sn mp h9 ca csn m hpa hmp hsn e9 n9 => ?_⟩⟩
        exact (Ready.mk' (((e6.trans e7).trans e8).trans e9) e9 cr (Keep.refl _ _) ca csn m ((e7.trans e8).trans e9) cw fw (e8.trans e9) ct ft (by omega)).go fun h' d => ⟨_, d⟩
    · refine new_cell fun atom h6 ct hta _ ft e6 n6 => ⟨chk e6, chk e6, ?_, ?_⟩
      · refine mkRowed fun pr h7 cr hpr e7 n7 => ⟨chk (e6.trans e7), ?_, ?_⟩
        · refine mkAtomic fun pa sn mp h8 ca csn m hpa hmp hsn e8 n8 => new_cell fun row h9 cw hw _ fw e9 n9 => ?_
          exact (Ready.mk' (((e6.trans e7).trans e8).trans e9) (e8.trans e9) cr e9 ca csn m (Keep.refl _ _) cw fw ((e7.trans e8).trans e9) ct ft (by omega)).go fun h' d => ⟨_, d⟩
        · refine new_cell fun row h8 cw hw _ fw e8 n8 => ⟨chk ((e6.trans e7).trans e8), mkAtomic fun pa sn mp h9 ca csn m hpa hmp hsn e9 n9 => ?_⟩
          exact (Ready.mk' (((e6.trans e7).trans e8).trans e9) (e8.trans e9) cr (Keep.refl _ _) ca csn m e9 cw fw ((e7.trans e8).trans e9) ct ft (by omega)).go fun h' d => ⟨_, d⟩
      · refine new_cell fun row h7 cw hw _ fw e7 n7 => ⟨chk (e6.trans e7), chk (e6.trans e7), mkRowed fun pr h8 cr hpr e8 n8 => ⟨chk ((e6.trans e7).trans e8), mkAtomic fun pa sn mp h9 ca csn m hpa hmp hsn e9 n9 => ?_⟩⟩
        exact (Ready.mk' (((e6.trans e7).trans e8).trans e9) e9 cr (Keep.refl _ _) ca csn m (e8.trans e9) cw fw ((e7.trans e8).trans e9) ct ft (by omega)).go fun h' d => ⟨_, d⟩
  rintro ⟨row, atom⟩ h4 ⟨mp, d⟩
  obtain ⟨pr, pa, seen, w1, w2, w3, w4, w5, w6, w7⟩ := d.w
  have e34 := d.ext
  have e04 := e03.trans e34
  have hc4 := cells_ext e34 hc3
  have mn := d.mn
  have s3 := e03.size
  refine seq.dup ⟨_, p7ucell hc4 2 (by decide), ?_⟩
  refine rows3uspec (p := p) ht e04 q.rows z.p (by omega) w1 w3 fun b h5 hb e5 => ⟨fun hnb => ?_, fun hb' => ?_⟩
  · have e35 := e34.trans e5
    refine ⟨_, cell_keep e5 (p7ucell hc4 3 (by decide)) (by simp), ?_⟩
    refine atoms_spec ht (e04.trans e5) q.n q.m q.ats z.a (by omega) (cell_keep e5 w2 (by simp)) (cells_ext e5 w4) (cell_keep e5 w5 (by simp)) (d.m.keep e5 (by simp)) w6 w7 d.ma (by omega) fun b2 h6 hb2 k6 => ?_
    refine C _ h6 (fun _ _ _ _ hG => by rw [hb2 hG]; rfl) ?_
    exact (e3.trans e35).fresh (by have := e3.size; omega) k6
  · refine C false h5 (fun _ _ _ hps _ => ?_) ((e3.trans e34).trans e5)
    rw [hb hps] at hb'
    cases hb'
end
end Go.Sh
