/-
  Laws that the proof of this claim's statement leans on, each proved under the conditions that it states.
-/
import Derived.Test.YtlclchgingkkhaaGreatDoorUA
set_option linter.unusedVariables false
set_option linter.unusedSimpArgs false
namespace Go.Sh
open Go Go.Lift
def atD (vs : DL) (v : Int) : Rat × Rat := vs.getD v.toNat (0, 0)
def valV (f : Int → Rat × Rat) (l : PL) : Rat × Rat := (valL (fun v => (f v).1) l, valL (fun v => (f v).2) l)
theorem w0 {f : Int → Rat × Rat} : valV f [] = (0, 0) := rfl
theorem lC {f : Int → Rat × Rat} {l : PL} {m : Int × Rat} : valV f (l ++ [m]) = addD (valV f l) (scD m.2 (f m.1)) := by
  unfold valV addD scD
  rw [l6, l6]
theorem cO : szD (0, 0) = 0 := by unfold szD; simp [bP]
theorem abd (p q : Rat × Rat) : szD (addD p q) ≤ szD p + szD q + 2 := by
  have := wR p.1 q.1; have := wR p.2 q.2
  unfold szD addD at *; simp only; omega
theorem sC (c : Rat) (p : Rat × Rat) : szD (scD c p) ≤ szQ c + szD p + 2 := by
  have := pd c p.1; have := pd c p.2
  unfold szD scD at *; simp only; omega
theorem qG {vs : DL} {v : Int} (h : v.toNat < vs.length) : atD vs v = vs[v.toNat] := by
  unfold atD; rw [List.getD_eq_getElem?_getD, List.getElem?_eq_getElem h]; rfl
theorem iL {vs : DL} {B : Nat} (hs : ∀ v ∈ vs, szD v ≤ B) (v : Int) : szD (atD vs v) ≤ B := by
  unfold atD; rw [List.getD_eq_getElem?_getD]
  by_cases h : v.toNat < vs.length
  · rw [List.getElem?_eq_getElem h]; exact hs _ (List.getElem_mem h)
  · rw [List.getElem?_eq_none (by omega)]; show szD (0, 0) ≤ B; rw [cO]; omega
theorem aar {f : Int → Rat × Rat} {B : Nat} (hf : ∀ v, szD (f v) ≤ B) : ∀ {l : PL}, (∀ m ∈ l, szQ m.2 ≤ B) → szD (valV f l) ≤ l.length * (2 * B + 4) := by
  intro l
  suffices h : ∀ n (l : PL), l.length = n → (∀ m ∈ l, szQ m.2 ≤ B) → szD (valV f l) ≤ n * (2 * B + 4) from fun hl => h _ l rfl hl
  intro n
  induction n with
  | zero => intro l hl _; have := List.eq_nil_of_length_eq_zero hl; subst this; rw [w0, cO]; omega
  | succ n ih =>
    intro l hl hs
    have hne : l ≠ [] := by rintro rfl; simp at hl
    have e := List.dropLast_concat_getLast hne
    have hm := hs _ (List.getLast_mem hne)
    have ih' := ih l.dropLast (by simp [hl]) (fun m hm => hs m (List.dropLast_subset _ hm))
    rw [← e, lC]
    have h1 := abd (valV f l.dropLast) (scD (l.getLast hne).2 (f (l.getLast hne).1))
    have h2 := sC (l.getLast hne).2 (f (l.getLast hne).1)
    have h3 := hf (l.getLast hne).1
    have : (n + 1) * (2 * B + 4) = n * (2 * B + 4) + (2 * B + 4) := by rw [Nat.add_mul, Nat.one_mul]
    omega
theorem acb {f : Int → Rat × Rat} {B j : Nat} (hf : ∀ v, szD (f v) ≤ B) {l : PL} (hs : ∀ m ∈ l, szQ m.2 ≤ B) (hj : j ≤ l.length) : szD (valV f (l.take j)) ≤ l.length * (2 * B + 4) := by
  have h := aar hf (l := l.take j) (fun m hm => hs m (List.mem_of_mem_take hm))
  rw [List.length_take, Nat.min_eq_left hj] at h
  exact Nat.le_trans h (Nat.mul_le_mul_right _ hj)
def inV (n : Nat) (l : PL) : Prop := ∀ m ∈ l, 0 ≤ m.1 ∧ m.1 < (n : Int)
theorem yQ {a : Addr} {h : Heap} {y : E7} (hc : cells? h a 7 0 = some (C7 y)) : cells? h (a.add 1) 6 0 = some (C6 (eD y)) := by
  have h2 := cells?_length _ _ _ hc
  have h3 := cells?_mk (h := h) (a := a.add 1) (C6 (eD y)) 0 fun j hj => ?_
  · exact h3
  have hj' : j < 6 := hj
  have h4 := cells?_get _ _ _ hc (j + 1) (by simp [C7, ao]; omega)
  rw [aS, show 1 + (0 + j) = 0 + (j + 1) by omega, h4]
  simp [C7, ao, C6, aa]
theorem fH {a : Addr} {h : Heap} {y : E7} (hc : cells? h a 7 0 = some (C7 y)) : cell? h (a.add 0) = some (Value.int .i64 y.1) := by
  have := cells?_get _ _ _ hc 0 (by simp [C7, ao])
  simpa [C7, ao] using this
section
variable {h0 h : Heap} {a : Addr} {lim : Nat}
theorem vp {h0 h : Heap} {x : X4} {p : Rat × PL} {s : Sl} {vs : DL} {B : Nat} {Q : X6 → Heap → Prop} (e0 : Ext h0 h) (hp : PQ h0 x p) (hs : RowQ C6 6 DQ h0 s vs) (hin : inV vs.length p.2) (b1 : ∀ m ∈ p.2, szQ m.2 ≤ B) (b2 : ∀ v ∈ vs, szD v ≤ B) (hL : p.2.length * (2 * B + 4) + 2 * B + 4 ≤ 2700) (hB : B ≤ 200)
    (hl : p.2.length ≤ 1000) (hvl : vs.length ≤ 1000)
    (K : ∀ r h', DD h' r (valV (atD vs) p.2) → Ext h h' → Q r h') : iE x s h Q := by
  have hlen := hp.m.len
  have fB : ∀ v, szD (atD vs v) ≤ B := iL b2
  refine ae fun h1 e1 => f5 (x := d0) DQ.zero (by rw [cO]; omega) fun r2 h2 hr2 e2 => ae fun h3 e3 => ?_
  refine loop.inv (fun t h' => ∃ j : Nat, t.1 = (j : Int) ∧ j ≤ p.2.length ∧ Ext h h' ∧ DD h' t.2 (valV (atD vs) (p.2.take j))) (fun t _ => p.2.length - t.1.toNat)
    ⟨0, rfl, by omega, e1.trans (e2.trans e3), by rw [List.take_zero, w0]; exact hr2.ext e3⟩ ?_
  rintro ⟨_, w⟩ h4 ⟨j, rfl, hj, e4, hw⟩
  dsimp only at hw ⊢
  rw [hlen]
  have e04 := e0.trans e4
  refine ⟨fun hlt => ?_, fun hge => ?_⟩
  · simp only [decide_eq_true_eq] at hlt
    have hj' : j < p.2.length := by omega
    have hmem := List.getElem_mem hj'
    have htk := List.take_succ_eq_append_getElem hj'
    obtain ⟨i1, i2⟩ := hin _ hmem
    have hb := b1 _ hmem
    have hts := acb fB b1 hj
    have hvt : p.2[j].1.toNat < vs.length := by omega
    have eD : atD vs p.2[j].1 = vs[p.2[j].1.toNat] := qG hvt
    refine hp.m.atE e04 (i := (j : Int)) (j := j) rfl hj' fun a1 y hy hy1 hy2 => ⟨co y, yt hy, ?_⟩
    refine hp.m.atE e04 (i := (j : Int)) (j := j) rfl hj' fun a2 y2 hy3 hy4 hy5 => ⟨y2.1, dX hy3, ?_⟩
    have i3 : y2.1 = ((p.2[j].1.toNat : Nat) : Int) := by omega
    refine hs.atE e04 (i := y2.1) (j := p.2[j].1.toNat) i3 hvt fun a3 z hz3 hz => ⟨z, hz3, ?_⟩
    rw [← eD] at hz
    have hzb := fB p.2[j].1
    generalize hdv : atD vs p.2[j].1 = dv at *
    generalize hm : p.2[j] = m at *
    refine rE (hy2.rq.ext e04) (by omega) fun r5 h5 hr5 e5 => ⟨?_, ?_, ?_⟩
    · exact ag e5 (dX hy3) (by simp)
    · have := cx e5 hz3
      simpa [C6, aa] using this
    refine f5 (x := z) (hz.ext (e04.trans e5)) (by omega) fun r6 h6 hr6 e6 => ?_
    have z1 := sC m.2 dv
    refine sJ (hr5.ext e6) hr6 (by omega) fun r7 h7 hr7 e7 => ?_
    refine xI (hw.ext (e5.trans (e6.trans e7))) hr7 (by omega) fun r8 h8 hr8 e8 => ?_
    rintro _ rfl
    refine ⟨⟨j + 1, by rw [w64 (by omega) (by omega)]; simp, by omega, e4.trans (e5.trans (e6.trans (e7.trans e8))), ?_⟩, by (try dsimp only); rw [w64 (by omega) (by omega)]; omega⟩
    rw [htk, lC, hdv]
    exact hr8
  · simp only [decide_eq_false_iff_not] at hge
    have : j = p.2.length := by omega
    subst this
    rw [List.take_length] at hw
    exact K _ h4 hw e4
end
theorem xf {p q : Rat} : cmpR p q = 0 ↔ p = q := by
  unfold cmpR
  rw [Int.sign_eq_zero_iff_zero, Rat.num_eq_zero]
  constructor
  · intro h; have : p = (p - q) + q := by grind
    rw [this, h]; grind
  · rintro rfl; grind
theorem sQ {p q : Rat × Rat} : (cmpD p q == 0) = decide (p = q) := by
  rw [Bool.eq_iff_iff, beq_iff_eq, decide_eq_true_iff, Prod.ext_iff, ← xf, ← xf]
  unfold cmpD
  split
  · rename_i h; simp [h]
  · rename_i h; simp [h]
theorem iz {h : Heap} {x : X6} {p : Rat × Rat} {Q : Bool → Heap → Prop} (q : DQ h x p) (hs : szD p ≤ 1000) (K : ∀ h', Ext h h' → Q true h') : cW x h Q := by
  unfold szD at hs
  have one : ∀ {h' : Heap} {x : X3} {r : Rat} {J : Bool → Heap → Prop}, RQ h' x r → szQ r ≤ 1000 → (∀ h2, Ext h' h2 → J true h2) → bp x h' J := by
    intro h' x r J hq hs k
    obtain ⟨xs, ys, hX, _, _, l1, l2⟩ := hq.xr
    have := aG r; have := gS r
    refine fy hX (by omega) (by omega) fun b h2 hb e => ?_
    rw [hb.2 ⟨r, hq⟩]; exact k h2 e
  refine ae fun h1 e1 => ae fun h2 e2 => ?_
  have e12 := e1.trans e2
  refine seq.cut (fun b h3 => Ext h h3 ∧ b = true) ?_ fun b h3 ⟨e3, hb⟩ => by rw [hb]; exact K h3 e3
  refine one (x := dA x) (q.ext e12).a (by omega) fun h3 e3 => ⟨fun _ => ?_, fun h => by cases h⟩
  exact one (x := dB x) (q.ext (e12.trans e3)).b (by omega) fun h4 e4 => ⟨e12.trans (e3.trans e4), rfl⟩
end Go.Sh

namespace Go.Sh
open Go Go.Lift
section
variable {α : Type} {toC : α → List Value} {sz B : Nat} {h h' : Heap} {s x : Sl} {xs ys : List α}
theorem RS.flatR (hsz : ∀ x, (toC x).length = sz) (h0 : 0 < sz) (hone : ∀ x, aF (toC x) = true) (hr : RS toC sz h s xs) (hc : s.len ≤ s.cap) : ∃ zs : List One, flat toC xs = zs.map Subtype.val ∧ R (Subtype.val : One → Value) h (Sl.sc sz s) zs := by
  have ho : aF (flat toC xs) = true := by
    unfold flat aF
    rw [List.all_flatten, List.all_eq_true]
    intro l hl
    obtain ⟨y, _, rfl⟩ := List.mem_map.1 hl
    exact hone y
  obtain ⟨zs, hz⟩ := nI ho
  have hlen := congrArg List.length hz
  rw [cm hsz, List.length_map] at hlen
  refine ⟨zs, hz, ?_⟩
  by_cases hx : xs.length = 0
  · have : xs = [] := List.eq_nil_of_length_eq_zero hx
    subst this
    have : zs = [] := List.eq_nil_of_length_eq_zero (by simpa using hlen.symm)
    subst this
    have hl := hr.len
    refine ⟨by simp [Sl.sc, hl], by simp [Sl.sc]; exact Nat.mul_le_mul_right _ hc, ?_⟩
    simp only [Sl.sc, hl, List.length_nil, Nat.zero_mul]
    cases s.a <;> rfl
  · obtain ⟨a, ha, _⟩ := hr.cells 0 (by omega)
    refine R.mk' (by simp only [Sl.sc]; rw [hr.len]; exact hlen) (Nat.mul_le_mul_right _ hc) a ha fun j hj => ?_
    have hj2 : j < xs.length * sz := by omega
    have hi : j / sz < xs.length := by rw [Nat.div_lt_iff_lt_mul h0]; exact hj2
    have hr' : j % sz < sz := Nat.mod_lt _ h0
    obtain ⟨a', ha', hcc⟩ := hr.cells (j / sz) hi
    rw [ha] at ha'; cases ha'
    have hg := cells?_get _ _ _ hcc (j % sz) (by rw [hsz]; exact hr')
    have he : j / sz * sz + j % sz = j := by rw [Nat.mul_comm]; exact Nat.div_add_mod j sz
    rw [aS, Nat.zero_add, he] at hg
    rw [hg]
    have h3 := kZ hsz xs (j / sz) hi (j % sz) hr'
    rw [he, hz, List.getElem?_map, List.getElem?_eq_getElem hj, List.getElem?_eq_getElem (by rw [hsz]; exact hr')] at h3
    simpa using h3.symm
theorem OwnS.cap (ho : OwnS toC sz B h s xs) (h0 : 0 < sz) : s.len ≤ s.cap := by
  obtain ⟨_, zs, _, h2⟩ := ho
  have := h2.r.cap
  simp only [Sl.sc] at this
  exact Nat.le_of_mul_le_mul_right this h0
theorem OwnS.appendR {bytes : Nat} {k : Sl → Heap → Prop} (ho : OwnS toC sz B h s xs) (hsz : ∀ x, (toC x).length = sz) (h0 : 0 < sz) (hone : ∀ x, aF (toC x) = true) (hB : B ≤ h.size) (hx : RS toC sz h x ys) (hc : x.len ≤ x.cap)
    (hb : (xs.length + ys.length) * bytes ≤ 2 ^ 46) (K : ∀ s' h', OwnS toC sz B h' s' (xs ++ ys) → Keep s.blk h h' → (s'.blk = s.blk ∨ ∀ b, s'.blk = some b → h.size ≤ b) → k s' h') : aK sz bytes s x h k := by
  obtain ⟨hl, us, h1, h2⟩ := ho
  obtain ⟨zs, hz, hR⟩ := RS.flatR hsz h0 hone hx hc
  refine o7 h0 (by rw [hl, hx.len]; exact hb) ?_
  refine h2.append hB hR (fun x => x.2) (by simp) fun s' h' ho' k' hblk s'' hs'' => ?_
  subst hs''
  refine K s'' h' ⟨?_, us ++ zs, by rw [nW, h1, List.map_append, hz], ho'⟩ (by simpa [Sl.sc_blk] using k') ?_
  · have h3 := ho'.r.len
    have h4 := h2.r.len
    have h5 := hR.len
    have hl2 := hx.len
    simp only [Sl.sc, List.length_append] at h3 h4 h5
    have : s''.len * sz = (s.len + x.len) * sz := by rw [h3, ← h4, ← h5, Nat.add_mul]
    have := Nat.eq_of_mul_eq_mul_right h0 this
    simp [this, hl, hl2]
  · rcases hblk with hblk | ⟨hblk, _⟩
    · left; simpa [Sl.sc_blk] using hblk
    · right; intro b hb'
      rw [Sl.sc_blk, hb'] at hblk
      cases hblk
      omega
end
theorem one7 (e : E7) : aF (C7 e) = true := rfl
theorem one6 (e : X6) : aF (C6 e) = true := rfl
theorem one4 (e : X4) : aF (CP e) = true := rfl
theorem OwnS.row {α β : Type} {toC : α → List Value} {sz B : Nat} {R : Heap → α → β → Prop} {h : Heap} {s : Sl} {ys : List α} {ms : List β} (ho : OwnS toC sz B h s ys) (hsz : ∀ x, (toC x).length = sz) (h0 : 0 < sz) (ha : All2 (R h) ys ms) : RowQ toC sz R h s ms :=
  ⟨ho.cap h0, ys, ho.rs hsz h0, ha⟩
end Go.Sh

namespace Go.Sh
open Go Go.Lift
variable {h0 h : Heap} {x y : S5} {t u : TT} {L B : Nat}
theorem TT.ext_iff' : t = u ↔ t.bs = u.bs ∧ t.ps = u.ps ∧ t.vs = u.vs ∧ t.lo = u.lo ∧ t.up = u.up := by
  cases t; cases u; simp
theorem iN {α : Type} {l m : List α} (h : l.length = m.length) (ht : l.take l.length = m.take l.length) : l = m := by
  rw [List.take_length, h, List.take_length] at ht; exact ht
theorem yB {Q : Bool → Heap → Prop} (q1 : TQ h x t) (q2 : TQ h y u) (z1 : TSz t L B) (z2 : TSz u L B) (hL : L ≤ 1000) (hB : B ≤ 1000) (K : ∀ b h', (b = true ↔ t = u) → Ext h h' → Q b h') : jY x y h Q := by
  have nb := z1.nb; have np := z1.np; have nv := z1.nv; have nl := z1.nl; have nu := z1.nu
  have l1 := q1.bas.len; have l2 := q1.rows.len; have l3 := q1.vals.len; have l4 := q1.lo.len; have l5 := q1.up.len
  have m1 := q2.bas.len; have m2 := q2.rows.len; have m3 := q2.vals.len; have m4 := q2.lo.len; have m5 := q2.up.len
  have K0 : ¬ t = u → ∀ h', Ext h h' → Q false h' := fun hn h' e => K false h' ⟨nofun, fun hh => absurd hh hn⟩ e
  refine ae fun h1 e1 => ?_
  refine seq.cut (fun b h2 => h2 = h1 ∧ (b = true → ¬ t = u) ∧ (b = false → t.bs.length = u.bs.length ∧ t.ps.length = u.ps.length ∧ t.vs.length = u.vs.length ∧ t.lo.length = u.lo.length ∧ t.up.length = u.up.length)) ?_ ?_
  · rw [l1, l2, l3, l4, l5, m1, m2, m3, m4, m5]
    have ne : ∀ {a b : Nat}, (((a : Nat) : Int) != ((b : Nat) : Int)) = true → a ≠ b := fun h e => by rw [e] at h; simp at h
    have eq : ∀ {a b : Nat}, (((a : Nat) : Int) != ((b : Nat) : Int)) = false → a = b := fun h => by
      have := (bne_eq_false_iff_eq).1 h; omega
    refine ⟨fun hb => ⟨rfl, fun _ e => ne hb (by rw [e]), nofun⟩, fun b1 => ⟨fun hb => ⟨rfl, fun _ e => ne hb (by rw [e]), nofun⟩, fun b2 => ⟨fun hb => ⟨rfl, fun _ e => ne hb (by rw [e]), nofun⟩, fun b3 => ⟨fun hb => ⟨rfl, fun _ e => ne hb (by rw [e]), nofun⟩, fun b4 => ⟨rfl, fun hb e => ne hb (by rw [e]), fun b5 => ⟨eq b1, eq b2, eq b3, eq b4, eq b5⟩⟩⟩⟩⟩⟩
  rintro b h2 ⟨rfl, hbt, hbf⟩
  refine ⟨fun hb => K0 (hbt hb) _ e1, fun hb => ?_⟩
  obtain ⟨g1, g2, g3, g4, g5⟩ := hbf hb
  clear hbt hbf hb
  refine loop.inv (fun s h' => Ext h h' ∧ ∃ j : Nat, s = (j : Int) ∧ j ≤ t.bs.length ∧ t.bs.take j = u.bs.take j) (fun s _ => t.bs.length - s.toNat) ⟨e1, 0, rfl, by omega, rfl⟩ ?_
  rintro _ h3 ⟨e3, j, rfl, hj, hms⟩
  rw [l1]
  refine ⟨fun hlt => ?_, fun hge => ?_⟩
  · simp only [decide_eq_true_eq] at hlt
    have hj' : j < t.bs.length := by omega
    have hj2 : j < u.bs.length := by omega
    refine RJ.ld (R.ext q1.bas e3) (j := j) rfl hj' (RJ.ld (R.ext q2.bas e3) (j := j) rfl hj2 ?_)
    rw [fK hj', fK hj2]
    refine ⟨fun hne => K0 (fun e => ?_) _ e3, fun he => ?_⟩
    · have hn : ¬ t.bs[j] = u.bs[j] := by simpa using hne
      subst e; exact hn rfl
    · have he : t.bs[j] = u.bs[j] := by simpa using he
      rintro _ rfl
      rw [w64 (by omega) (by omega)]
      refine ⟨⟨e3, j + 1, by omega, by omega, ?_⟩, by omega⟩
      rw [List.take_succ_eq_append_getElem hj', List.take_succ_eq_append_getElem hj2, hms, he]
  simp only [decide_eq_false_iff_not] at hge
  have c1 : t.bs = u.bs := iN g1 (by rw [show t.bs.length = j by omega]; exact hms)
  clear hms hj hge
  refine loop.inv (fun s h' => Ext h h' ∧ ∃ j : Nat, s = (j : Int) ∧ j ≤ t.ps.length ∧ t.ps.take j = u.ps.take j) (fun s _ => t.ps.length - s.toNat) ⟨e3, 0, rfl, by omega, rfl⟩ ?_
  clear e3 h3; clear j
  rintro _ h3 ⟨e3, j, rfl, hj, hms⟩
  rw [l2]
  refine ⟨fun hlt => ?_, fun hge => ?_⟩
  · simp only [decide_eq_true_eq] at hlt
    have hj' : j < t.ps.length := by omega
    have hj2 : j < u.ps.length := by omega
    refine q1.rows.ldE e3 (j := j) rfl hj' fun y1 r1 => q2.rows.ldE e3 (j := j) rfl hj2 fun y2 r2 => ?_
    have a1 := z1.pl _ (List.getElem_mem hj')
    have a2 := z2.pl _ (List.getElem_mem hj2)
    refine xJ (x := y1) (y := y2) (r1.ext e3) (r2.ext e3) (by omega) (by omega) fun h4 e4 => ⟨fun hne => K0 (fun e => ?_) _ (e3.trans e4), fun he => ?_⟩
    · have hn : ¬ t.ps[j] = u.ps[j] := by simpa using hne
      subst e; exact hn rfl
    · have he : t.ps[j] = u.ps[j] := by simpa using he
      rintro _ rfl
      rw [w64 (by omega) (by omega)]
      refine ⟨⟨e3.trans e4, j + 1, by omega, by omega, ?_⟩, by omega⟩
      rw [List.take_succ_eq_append_getElem hj', List.take_succ_eq_append_getElem hj2, hms, he]
  simp only [decide_eq_false_iff_not] at hge
  have c2 : t.ps = u.ps := iN g2 (by rw [show t.ps.length = j by omega]; exact hms)
  clear hms hj hge
  refine loop.inv (fun s h' => Ext h h' ∧ ∃ j : Nat, s = (j : Int) ∧ j ≤ t.vs.length ∧ t.vs.take j = u.vs.take j) (fun s _ => t.vs.length - s.toNat) ⟨e3, 0, rfl, by omega, rfl⟩ ?_
  clear e3 h3; clear j
  rintro _ h3 ⟨e3, j, rfl, hj, hms⟩
  rw [l3]
  refine ⟨fun hlt => ?_, fun hge => ?_⟩
  · simp only [decide_eq_true_eq] at hlt
    have hj' : j < t.vs.length := by omega
    have hj2 : j < u.vs.length := by omega
    refine q1.vals.ldE e3 (j := j) rfl hj' fun y1 r1 => q2.vals.ldE e3 (j := j) rfl hj2 fun y2 r2 => ?_
    refine gM (x := y1) (y := y2) (r1.ext e3) (r2.ext e3) fun h4 e4 => ⟨fun hne => K0 (fun e => ?_) _ (e3.trans e4), fun he => ?_⟩
    · have hn : ¬ t.vs[j] = u.vs[j] := by simpa using hne
      subst e; exact hn rfl
    · have he : t.vs[j] = u.vs[j] := by simpa using he
      rintro _ rfl
      rw [w64 (by omega) (by omega)]
      refine ⟨⟨e3.trans e4, j + 1, by omega, by omega, ?_⟩, by omega⟩
      rw [List.take_succ_eq_append_getElem hj', List.take_succ_eq_append_getElem hj2, hms, he]
  simp only [decide_eq_false_iff_not] at hge
  have c3 : t.vs = u.vs := iN g3 (by rw [show t.vs.length = j by omega]; exact hms)
  clear hms hj hge
  -- bounds on one side
  have side : ∀ {s1 s2 : Sl} {as bs : List Eg} {hh : Heap} {J : Bool → Heap → Prop} {j : Nat}, RowQ C7 7 EQ h s1 as → RowQ C7 7 EQ h s2 bs → Ext h hh → (h1 : j < as.length) → (h2 : j < bs.length) → (∀ h', Ext hh h' → J (!decide (as[j] = bs[j])) h') →
      idxS s1 (j : Int) 7 fun a_6 => Lift.load (Value.int .i64) (a_6.add 0) hh fun v_8 => idxS s2 (j : Int) 7 fun a_7 => Lift.load (Value.int .i64) (a_7.add 0) hh fun v_9 =>
      iteB (v_8 != v_9) (J true hh) (
        idxS s1 (j : Int) 7 fun a_8 => aD C6 6 (a_8.add 1) hh fun v_10 => idxS s2 (j : Int) 7 fun a_9 => aD C6 6 (a_9.add 1) hh fun v_11 =>
        bE (v_10.1, v_10.2.1, v_10.2.2.1, v_10.2.2.2.1, v_10.2.2.2.2.1, v_10.2.2.2.2.2) (v_11.1, v_11.2.1, v_11.2.2.1, v_11.2.2.2.1, v_11.2.2.2.2.1, v_11.2.2.2.2.2) hh fun v_12 h0u9 => J (!v_12) h0u9) := by
    intro s1 s2 as bs hh J j r1 r2 e w1 w2 k
    refine r1.atE e rfl w1 fun a y1 hc1 p1 => ⟨y1.1, fH hc1, r2.atE e rfl w2 fun a' y2 hc2 p2 => ⟨y2.1, fH hc2, fun hne => ?_, fun heq => ?_⟩⟩
    · have hne : ¬ as[j].1 = bs[j].1 := by rw [← p1.1, ← p2.1]; simpa using hne
      have := k hh (Keep.refl _ _)
      rw [decide_eq_false fun h => hne (by rw [h])] at this
      exact this
    · have heq : as[j].1 = bs[j].1 := by rw [← p1.1, ← p2.1]; simpa using heq
      refine r1.atE e rfl w1 fun a3 y3 hc3 p3 => ⟨eD y3, yQ hc3, r2.atE e rfl w2 fun a4 y4 hc4 p4 => ⟨eD y4, yQ hc4, ?_⟩⟩
      refine gM (x := eD y3) (y := eD y4) (p3.2.ext e) (p4.2.ext e) fun h4 e4 => ?_
      have : decide (as[j].2 = bs[j].2) = decide (as[j] = bs[j]) := by
        rw [decide_eq_decide]
        exact ⟨fun h => Prod.ext heq h, fun h => by rw [h]⟩
      rw [this]
      exact k h4 e4
  refine loop.inv (fun s h' => Ext h h' ∧ ∃ j : Nat, s = (j : Int) ∧ j ≤ t.lo.length ∧ t.lo.take j = u.lo.take j) (fun s _ => t.lo.length - s.toNat) ⟨e3, 0, rfl, by omega, rfl⟩ ?_
  clear e3 h3; clear j
  rintro _ h3 ⟨e3, j, rfl, hj, hms⟩
  rw [l4]
  refine ⟨fun hlt => ?_, fun hge => ?_⟩
  · simp only [decide_eq_true_eq] at hlt
    have hj' : j < t.lo.length := by omega
    have hj2 : j < u.lo.length := by omega
    refine seq.cut (fun b h4 => Ext h h4 ∧ b = !decide (t.lo[j] = u.lo[j])) (side (J := fun b h4 => Ext h h4 ∧ b = !decide (t.lo[j] = u.lo[j])) q1.lo q2.lo e3 hj' hj2 fun h4 e4 => ⟨e3.trans e4, rfl⟩) ?_
    rintro b h4 ⟨e4, rfl⟩
    refine ⟨fun hne => K0 (fun e => ?_) _ e4, fun he => ?_⟩
    · have hn : ¬ t.lo[j] = u.lo[j] := by simpa using hne
      subst e; exact hn rfl
    · have he : t.lo[j] = u.lo[j] := by simpa using he
      rintro _ rfl
      rw [w64 (by omega) (by omega)]
      refine ⟨⟨e4, j + 1, by omega, by omega, ?_⟩, by omega⟩
      rw [List.take_succ_eq_append_getElem hj', List.take_succ_eq_append_getElem hj2, hms, he]
  simp only [decide_eq_false_iff_not] at hge
  have c4 : t.lo = u.lo := iN g4 (by rw [show t.lo.length = j by omega]; exact hms)
  clear hms hj hge
  refine loop.inv (fun s h' => Ext h h' ∧ ∃ j : Nat, s = (j : Int) ∧ j ≤ t.up.length ∧ t.up.take j = u.up.take j) (fun s _ => t.up.length - s.toNat) ⟨e3, 0, rfl, by omega, rfl⟩ ?_
  clear e3 h3; clear j
  rintro _ h3 ⟨e3, j, rfl, hj, hms⟩
  rw [l5]
  refine ⟨fun hlt => ?_, fun hge => ?_⟩
  · simp only [decide_eq_true_eq] at hlt
    have hj' : j < t.up.length := by omega
    have hj2 : j < u.up.length := by omega
    refine seq.cut (fun b h4 => Ext h h4 ∧ b = !decide (t.up[j] = u.up[j])) (side (J := fun b h4 => Ext h h4 ∧ b = !decide (t.up[j] = u.up[j])) q1.up q2.up e3 hj' hj2 fun h4 e4 => ⟨e3.trans e4, rfl⟩) ?_
    rintro b h4 ⟨e4, rfl⟩
    refine ⟨fun hne => K0 (fun e => ?_) _ e4, fun he => ?_⟩
    · have hn : ¬ t.up[j] = u.up[j] := by simpa using hne
      subst e; exact hn rfl
    · have he : t.up[j] = u.up[j] := by simpa using he
      rintro _ rfl
      rw [w64 (by omega) (by omega)]
      refine ⟨⟨e4, j + 1, by omega, by omega, ?_⟩, by omega⟩
      rw [List.take_succ_eq_append_getElem hj', List.take_succ_eq_append_getElem hj2, hms, he]
  simp only [decide_eq_false_iff_not] at hge
  have c5 : t.up = u.up := iN g5 (by rw [show t.up.length = j by omega]; exact hms)
  exact K true h3 ⟨fun _ => TT.ext_iff'.2 ⟨c1, c2, c3, c4, c5⟩, fun _ => rfl⟩ e3
end Go.Sh
