/-
  Laws that the proof of this claim's statement leans on, each proved under the conditions that it states.
-/
import Derived.Test.YtlclchgingkkhaaGreatDoorMC
import Derived.Test.YtlclchgingkkhaaGreatDoorUF
set_option linter.unusedVariables false
set_option linter.unusedSimpArgs false
namespace Go.Sh
open Go Go.Lift
theorem Bd.fl {lim : Nat} {t t' : TT} {v : Int} {up : Bool} {e : Eg} {rs : PL} {er : Int} (D : Bd lim t v up e t' rs er) (f : FitL lim t) (hz : szD e.2 ≤ lim) : FitL lim t' := by
  cases D with
  | rng => exact f
  | arg => exact f
  | old => exact f
  | cla => exact f
  | set h1 h2 h3 => exact f.setE h3 hz
  | upd h1 h2 h3 h4 h5 h6 h7 h8 =>
    have g := f.setE (up := up) (v := v) h3 hz
    have g2 := g.g.updT (d := e.2) h1 (by rw [eP]; exact h2) (by rw [fm]; exact h6)
    exact ⟨g2, g.np, by rw [← g2.ll]; show (setE t up v e).lo.length ≤ 1000; rw [g.g.ll]; exact g.nv, g.ok, h8, g.lo, g.up⟩
def ez : Eg := (0, (0, 0))
def tS0 : TT := ⟨[2], ps1, [(0, 0), (0, 0), (0, 0)], [ez, ez, ez], [ez, ez, ez]⟩
def tS1 : TT := ⟨[2], ps1, [(1, 0), (0, 0), (1, 0)], [(1, (1, 0)), ez, ez], [ez, ez, ez]⟩
def tS2 : TT := ⟨[2], ps1, [(1, 0), (1, 0), (2, 0)], [(1, (1, 0)), (2, (1, 0)), ez], [ez, ez, ez]⟩
def tS3 : TT := ⟨[2], ps1, [(1, 0), (1, 0), (2, 0)], [(1, (1, 0)), (2, (1, 0)), ez], [ez, ez, (3, (1, 0))]⟩
theorem adp : newT 2 ps1 = tS0 := rfl
theorem ada : updT (setE tS0 false 0 (1, (1, 0))) 0 (1, 0) = tS1 :=
  congrArg (fun w => TT.mk [2] ps1 w [(1, (1, 0)), ez, ez] [ez, ez, ez]) (by decide +kernel : jQ [2] 0 (subD (1, 0) (atD [(0, 0), (0, 0), (0, 0)] 0)) ps1 0 [(1, 0), (0, 0), (0, 0)] = [(1, 0), (0, 0), (1, 0)])
theorem acW : updT (setE tS1 false 1 (2, (1, 0))) 1 (1, 0) = tS2 :=
  congrArg (fun w => TT.mk [2] ps1 w [(1, (1, 0)), (2, (1, 0)), ez] [ez, ez, ez]) (by decide +kernel : jQ [2] 1 (subD (1, 0) (atD [(1, 0), (0, 0), (1, 0)] 1)) ps1 0 [(1, 0), (1, 0), (1, 0)] = [(1, 0), (1, 0), (2, 0)])
theorem s10 : szD ((1, 0) : Rat × Rat) ≤ 4 := by
  have := rQ (n := 1) (by omega)
  have h : szQ (1 : Rat) ≤ 2 := this
  unfold szD
  dsimp only
  rw [bP]; omega
theorem s20 : szD ((2, 0) : Rat × Rat) ≤ 4 := by
  have := rQ (n := 2) (by omega)
  have h : szQ (2 : Rat) ≤ 2 := this
  unfold szD
  dsimp only
  rw [bP]; omega
theorem adI : fI 4 (setE tS0 false 0 (1, (1, 0))) 0 (1, 0) := by
  refine ⟨?_, fun _ => ⟨?_, ?_⟩, trivial⟩
  · have : subD (1, 0) (atD (setE tS0 false 0 (1, (1, 0))).vs 0) = (1, 0) := by decide +kernel
    rw [this]; exact s10
  · have : scD (ak [((0 : Int), (1 : Rat)), (1, 1)] 0) (subD (1, 0) (atD (setE tS0 false 0 (1, (1, 0))).vs 0)) = (1, 0) := by decide +kernel
    show szD (scD (ak [((0 : Int), (1 : Rat)), (1, 1)] 0) _) ≤ 4
    rw [this]; exact s10
  · have : addD (([(1, 0), (0, 0), (0, 0)] : DL).getD (at0 [2] 0).toNat (0, 0)) (scD (ak [((0 : Int), (1 : Rat)), (1, 1)] 0) (subD (1, 0) (atD (setE tS0 false 0 (1, (1, 0))).vs 0))) = (1, 0) := by decide +kernel
    show szD (addD (([(1, 0), (0, 0), (0, 0)] : DL).getD (at0 [2] 0).toNat (0, 0)) (scD (ak [((0 : Int), (1 : Rat)), (1, 1)] 0) _)) ≤ 4
    rw [this]; exact s10
theorem adD : fI 4 (setE tS1 false 1 (2, (1, 0))) 1 (1, 0) := by
  refine ⟨?_, fun _ => ⟨?_, ?_⟩, trivial⟩
  · have : subD (1, 0) (atD (setE tS1 false 1 (2, (1, 0))).vs 1) = (1, 0) := by decide +kernel
    rw [this]; exact s10
  · have : scD (ak [((0 : Int), (1 : Rat)), (1, 1)] 1) (subD (1, 0) (atD (setE tS1 false 1 (2, (1, 0))).vs 1)) = (1, 0) := by decide +kernel
    show szD (scD (ak [((0 : Int), (1 : Rat)), (1, 1)] 1) _) ≤ 4
    rw [this]; exact s10
  · have : addD (([(1, 0), (1, 0), (1, 0)] : DL).getD (at0 [2] 0).toNat (0, 0)) (scD (ak [((0 : Int), (1 : Rat)), (1, 1)] 1) (subD (1, 0) (atD (setE tS1 false 1 (2, (1, 0))).vs 1))) = (2, 0) := by decide +kernel
    show szD (addD (([(1, 0), (1, 0), (1, 0)] : DL).getD (at0 [2] 0).toNat (0, 0)) (scD (ak [((0 : Int), (1 : Rat)), (1, 1)] 1) _)) ≤ 4
    rw [this]; exact s20
theorem bd1 {t' : TT} {rs : PL} {er : Int} (D : Bd 4 tS0 0 false (1, (1, 0)) t' rs er) : t' = tS1 := by
  have D := ((((D.inv.2 (by decide +kernel) (by decide +kernel)).2 (by decide +kernel)).2 fun h => h.1 rfl).2 (by decide +kernel)).2.2.2 (by decide +kernel) (by decide +kernel)
  rw [← ada]; exact D.1
theorem bd2 {t' : TT} {rs : PL} {er : Int} (D : Bd 4 tS1 1 false (2, (1, 0)) t' rs er) : t' = tS2 := by
  have D := ((((D.inv.2 (by decide +kernel) (by decide +kernel)).2 (by decide +kernel)).2 fun h => h.1 rfl).2 (by decide +kernel)).2.2.2 (by decide +kernel) (by decide +kernel)
  rw [← acW]; exact D.1
theorem bd3 {t' : TT} {rs : PL} {er : Int} (D : Bd 4 tS2 2 true (3, (1, 0)) t' rs er) : t' = tS3 :=
  ((((D.inv.2 (by decide +kernel) (by decide +kernel)).2 (by decide +kernel)).2 fun h => h.1 rfl).2 (by decide +kernel)).2.2.1 (by decide +kernel)
theorem st3 {t' : TT} {st : Int} {rs : PL} (D : St1 4 tS3 t' st rs) : st = 2 ∧ rs.length = 3 ∧ rs[0]? = some (3, 1) := by
  obtain ⟨i, up, w, D2, _⟩ := D.some (k := 0) (c := true) (by decide +kernel) (by decide +kernel)
  have hi : i = 0 := by have : i < 1 := w.lt; omega
  subst hi
  have hu : up = true := by
    cases up
    · have := w.v
      have h2 : viol tS3 0 false = false := by decide +kernel
      rw [h2] at this; cases this
    · rfl
  subst hu
  obtain ⟨_, h2, h3⟩ := D2 (by decide +kernel)
  subst h2 h3
  exact ⟨rfl, rfl, rfl⟩
theorem no3 : ¬ ∃ i up j, Wst tS3 i up ∧ Fst tS3 i up j := by
  rintro ⟨i, up, j, w, f⟩
  have hi : i = 0 := by have : i < 1 := w.lt; omega
  subst hi
  have hu : up = true := by
    cases up
    · have := w.v
      have h2 : viol tS3 0 false = false := by decide +kernel
      rw [h2] at this; cases this
    · rfl
  subst hu
  have h1 := f.ok
  have h2 : ∀ m ∈ (psA tS3 0).2, rm tS3 true m = false := by decide +kernel
  rw [h2 _ (List.getElem_mem f.lt)] at h1
  cases h1
end Go.Sh

namespace Go.Sh
open Go Go.Lift
theorem xY {h : Heap} {k : Addr → Heap → Prop} (C : ∀ a h' y, (∀ K : Nat → Prop, (∀ k, K k → h'.size ≤ k) → PK K h' y (0, [(0, 1), (1, 1)])) → RS CP 4 h' (⟨some a, 1, 1⟩ : Sl) [y] → Ext h h' → k a h') :
    cr 1 h fun v h0 => mem h0 fun h1 => new [Value.int .i64 0, Value.bool v.1, Sl.toV v.2.1, Sl.toV v.2.2, Value.int .i64 1, Value.bool v.1, Sl.toV v.2.1, Sl.toV v.2.2] h1 fun a h2 => new [Value.bool false, Sl.toV Sl.nil, Sl.toV Sl.nil, Sl.toV (⟨some a, 2, 2⟩ : Sl)] h2 fun a1 h3 => k a1 h3 := by
  refine OfQ (by decide) (by decide) fun r h2 hr _ e2 => ae fun h3 e3 => ?_
  intro T T'
  have hr := hr.ext e3
  have e4 := Ext.push h3 (.cells [Value.int .i64 0, Value.bool r.1, Sl.toV r.2.1, Sl.toV r.2.2, Value.int .i64 1, Value.bool r.1, Sl.toV r.2.1, Sl.toV r.2.2].toArray T (0, 0))
  have r4 : RS C4 4 _ (⟨some ⟨h3.size, 0, none⟩, 2, 2⟩ : Sl) [((0 : Int), r.1, r.2.1, r.2.2), ((1 : Int), r.1, r.2.1, r.2.2)] := RS.new (h := h3) (cs := [Value.int .i64 0, Value.bool r.1, Sl.toV r.2.1, Sl.toV r.2.2, Value.int .i64 1, Value.bool r.1, Sl.toV r.2.1, Sl.toV r.2.2]) (T := T) len4 rfl rfl
  generalize (h3.push (.cells [Value.int .i64 0, Value.bool r.1, Sl.toV r.2.1, Sl.toV r.2.2, Value.int .i64 1, Value.bool r.1, Sl.toV r.2.1, Sl.toV r.2.2].toArray T (0, 0)) : Heap) = h4 at *
  have e5 := Ext.push h4 (.cells [Value.bool false, Sl.toV Sl.nil, Sl.toV Sl.nil, Sl.toV (⟨some ⟨h3.size, 0, none⟩, 2, 2⟩ : Sl)].toArray T' (0, 0))
  have r5 : RS CP 4 _ (⟨some ⟨h4.size, 0, none⟩, 1, 1⟩ : Sl) [(false, Sl.nil, Sl.nil, (⟨some ⟨h3.size, 0, none⟩, 2, 2⟩ : Sl))] := RS.new (h := h4) (cs := [Value.bool false, Sl.toV Sl.nil, Sl.toV Sl.nil, Sl.toV (⟨some ⟨h3.size, 0, none⟩, 2, 2⟩ : Sl)]) (T := T') oN rfl rfl
  generalize (h4.push (.cells [Value.bool false, Sl.toV Sl.nil, Sl.toV Sl.nil, Sl.toV (⟨some ⟨h3.size, 0, none⟩, 2, 2⟩ : Sl)].toArray T' (0, 0)) : Heap) = h5 at *
  have e35 := e4.trans e5
  have r45 := RS.ext r4 e5
  have q : ∀ {K : Nat → Prop}, (∀ k, K k → h5.size ≤ k) → RK K h5 (r.1, r.2.1, r.2.2) 1 := fun hK => RK.of_rq (hr.ext e35) hK
  refine C _ _ _ (fun K hK => ⟨RK.zero, Nat.le_refl _, ⟨_, r45, .cons ⟨rfl, q hK⟩ (.cons ⟨rfl, q hK⟩ .nil)⟩, fun _ k hk hb => ?_⟩) r5 ((e2.trans e3).trans e35)
  have h1 := hK k hk
  have h2 := RS.lt r45 (by decide) (by simp) hb
  omega
theorem lD {K : Nat → Prop} {h : Heap} {Q : X6 → Heap → Prop} (hK : ∀ k, K k → k < h.size) (C : ∀ r h', DK K h' r (1, 0) → Ext h h' → Q r h') : js 1 h Q :=
  ae fun h1 e1 => OfQ (by decide) (by decide) fun r h2 hr fr e2 => C _ h2 ⟨RK.fresh (h0 := h1) hr fr fun k hk => Nat.lt_of_lt_of_le (hK k hk) e1.size, RK.zero⟩ (e1.trans e2)
theorem rD {h : Heap} {Q : Bool → Heap → Prop} (ht : Tab h) (K : ∀ h', Ext h h' → Q true h') : cR h Q := by
  unfold cR
  refine xY fun s h1 y hy rs e1 => ?_
  refine tT (reals := 2) (ps := ps1) rfl (by decide) rs (Nat.le_refl _) rfl (by decide) fun x h2 bv bl bu n => ?_
  have e12 := n.ext
  refine aby fun p h3 c3 hp3 e3 n3 => ?_
  refine c3.sts rfl fun h4 c4 k4 => ?_
  refine qN fun a h5 hb5 ha5 e5 => ?_
  have s12 := e12.size; have s3 := e3.size; have s4 := k4.size; have s5 := e5.size; have s1 := e1.size
  have e24 : Ext h2 h4 := e3.fresh (by omega) k4
  have e15 : Ext h h5 := ((e1.trans e12).trans e24).trans e5
  have hV : ∀ k, (Vol.mk a p bv bl bu).K k → h1.size ≤ k := by
    rintro k (hk | hk | hk | hk | hk) <;> dsimp only at hk
    · omega
    · omega
    · have := (n.vals.lt n.vb).1; omega
    · have := (n.lo.lt n.lb).1; omega
    · have := (n.up.lt n.ub).1; omega
  have hps : All2 (PK (Vol.mk a p bv bl bu).K h1) [y] ps1 := .cons (hy _ hV) .nil
  have c5 : Cs h5 p (CT x) := ⟨c4.spot, fun k hk => by
    have := c4.cell k hk
    exact ⟨ag e5 this.1 (by simp), bL e5 (bV this.1) this.2 (by simp)⟩⟩
  have q5 : TM h (Vol.mk a p bv bl bu) 4 false h5 x (newT 2 ps1) := TM.ofNew n e1 hps c5 (KK.ext (e24.trans e5)) ⟨ht, hb5, e15, by dsimp only; omega⟩ (.inr (by dsimp only; omega)) (.inr (by dsimp only; omega)) (by dsimp only; omega) (by dsimp only; omega)
  obtain ⟨V, hV1, hV2⟩ : ∃ V : Vol, V.a = a ∧ V = Vol.mk a p bv bl bu := ⟨_, rfl, rfl⟩
  rw [← hV2] at q5
  have hp : p = V.p := by rw [hV2]
  have ha : a = V.a := hV1.symm
  rw [hp, ha]
  clear hps c5 hV n c3 c4 hb5 ha5 hV2 hV1
  have z1 : szQ (1 : Rat) ≤ 2 := rQ (n := 1) (by decide)
  have f0 : FitL 4 tS0 := by
    have fT : FitT (newT 2 ps1) 2 := FitT.new (by decide) (by decide) (fun p hp => by
      have : p = (0, [(0, 1), (1, 1)]) := by simpa [ps1] using hp
      subst this
      exact ⟨by simp [Srt], by simp, by simp⟩) (fun p hp => by
      have : p = (0, [(0, 1), (1, 1)]) := by simpa [ps1] using hp
      subst this; rfl) (fun p hp => by
      have : p = (0, [(0, 1), (1, 1)]) := by simpa [ps1] using hp
      subst this; simp) fun p hp => by
      have : p = (0, [(0, 1), (1, 1)]) := by simpa [ps1] using hp
      subst this
      rw [zZ]; simp [bP]; omega
    refine ⟨fT.g, by decide, by decide, fun p hp => ?_, fun e he => ?_, fun e he => ?_, fun e he => ?_⟩
    · have : p = (0, [(0, 1), (1, 1)]) := by simpa [tS0, ps1] using hp
      subst this
      exact ⟨by simp [Srt], by simp, by decide, by simp [bP], by simp; omega⟩
    · have : e = (0, 0) := by simpa [tS0] using he
      subst this; rw [cO]; omega
    · have : e = ez := by simpa [tS0] using he
      subst this; show szD (0, 0) ≤ 4; rw [cO]; omega
    · have : e = ez := by simpa [tS0] using he
      subst this; show szD (0, 0) ≤ 4; rw [cO]; omega
  rw [adp] at q5
  refine lD (K := V.K) q5.lt fun r6 h6 hr6 e6 => ?_
  have q6 := q5.ext e6
  refine gP (e := (1, (1, 0))) q6 (by decide) f0 ⟨rfl, hr6⟩ s10 (by decide) (fun h' _ _ _ hn _ => absurd adI hn) fun _ _ t1 _ h7 q7 k7 D1 _ => ?_
  have f1 := D1.fl f0 s10
  have := bd1 D1
  subst this
  refine lD (K := V.K) q7.lt fun r8 h8 hr8 e8 => ?_
  have q8 := q7.ext e8
  refine gP (e := (2, (1, 0))) q8 (by decide) f1 ⟨rfl, hr8⟩ s10 (by decide) (fun h' _ _ _ hn _ => absurd adD hn) fun _ _ t2 _ h9 q9 k9 D2 _ => ?_
  have f2 := D2.fl f1 s10
  have := bd2 D2
  subst this
  refine lD (K := V.K) q9.lt fun r10 h10 hr10 e10 => ?_
  have q10 := q9.ext e10
  refine gP (e := (3, (1, 0))) q10 (by decide) f2 ⟨rfl, hr10⟩ s10 (by decide) (fun h' _ _ hr _ _ => absurd hr (by decide)) fun _ _ t3 _ h11 q11 k11 D3 _ => ?_
  have f3 := D3.fl f2 s10
  have := bd3 D3
  subst this
  refine loop.inv (fun (_ : Unit) h' => h' = h11) (fun _ _ => 0) rfl ?_
  rintro _ h12 rfl
  refine tg q11 (by decide) (by decide) f3 (fun h' _ hn => absurd hn no3) fun st s t' rs x' h13 q13 k13 D ms => ?_
  obtain ⟨rfl, hl, h0⟩ := st3 D
  refine ⟨fun _ => ?_, fun g => by simp at g⟩
  have hsl := ms.len
  refine seq.dup ⟨fun _ => ⟨fun _ => ?_, fun g => by rw [hsl, hl] at g; simp at g⟩, fun g => by simp at g⟩
  refine ms.at (j := 0) rfl (by omega) fun a1 y1 hy1 hv1 _ => ⟨_, dX hy1, ?_⟩
  have : rs[0] = (3, 1) := by
    rw [List.getElem?_eq_getElem (by omega)] at h0
    exact Option.some.inj h0
  rw [this] at hv1
  rw [hv1]
  exact K h13 q13.bo.ext
end Go.Sh

namespace Go.Sh
open Go Go.Lift
def yT (h : Heap) (s : Sl) : Prop := ∃ ys, RS CP 4 h s ys ∧ s.len ≤ s.cap ∧ ∀ y ∈ ys, x7 h y
def zK (h : Heap) (s : Sl) : Prop := ∃ ys, RS CA 10 h s ys ∧ ∀ y ∈ ys, RawC h y
abbrev adB : Shape := .cat .bool (.cat (.int .i64) (.cat (.int .i64) (.cat .bool (.cat shD .nil))))
theorem abo {h : Heap} {cs : List Value} (H : (Shape.slice adm).IsB 1048576 h cs) : ∃ s : Sl, cs = [Sl.toV s] ∧ yT h s := by
  obtain ⟨s, rfl, ys, a1, a2, a3, _⟩ := zR (toC := CP) (F := x7) 4 rfl (fun r hr => adL hr) H
  exact ⟨s, rfl, ys, a1, a3, a2⟩
theorem aaP {h : Heap} {cs : List Value} (H : (Shape.slice adB).IsB 1048576 h cs) : ∃ s : Sl, cs = [Sl.toV s] ∧ zK h s := by
  obtain ⟨s, rfl, ys, a1, a2, a3, _⟩ := zR (toC := CA) (F := RawC) 10 rfl (fun r hr => by
    obtain ⟨l1, r1, rfl, ⟨b, rfl⟩, l2, r2, rfl, ⟨v, rfl, hv⟩, l3, r3, rfl, ⟨n, rfl, _⟩, l4, r4, rfl, ⟨c, rfl⟩, l5, r5, rfl, h5, rfl⟩ := hr
    obtain ⟨x, rfl, hx⟩ := adz h5
    have := ac9 hv
    exact ⟨(b, v, n, c, x), by simp [CA, C6, ay, aa], hx, by dsimp only; omega⟩) H
  exact ⟨s, rfl, ys, a1, a2⟩
end Go.Sh
