/-
  Laws that the proof of this claim's statement leans on, each proved under the conditions that it states.
-/
import Derived.Test.YtmcfhickfcmkkaaGreatDoorVB
set_option linter.unusedVariables false
set_option linter.unusedSimpArgs false
namespace Go.Lift
open Go
def TTab.shape0 (T : TTab) (t : Nat) : Option Shp :=
  match t with
  | 0 => some (false, [.adr])
  | t + 1 => T.shp (t + 1)
structure Jn where
  mods : List (Nat × Shp)
  kept : List (Nat × List Kd)
def akr (T : TTab) : List (Nat × Nat) → Option (List (Nat × Shp))
  | [] => some []
  | (s, t) :: r => match T.shape0 t, akr T r with
    | some sh, some l => some ((s, sh) :: l)
    | _, _ => none
def aj1 (T : TTab) : List (Nat × Nat) → Option (List (Nat × List Kd))
  | [] => some []
  | (s, t) :: r => match T.shp t, aj1 T r with
    | some sh, some l => some ((s, sh.2) :: l)
    | _, _ => none
def ama : List (Nat × List (Nat × Nat) × List (Nat × Nat)) → Nat → Option (List (Nat × Nat) × List (Nat × Nat))
  | [], _ => none
  | (i, x) :: r, n => match Nat.beq i n with
    | true => some x
    | false => ama r n
def akj {P : Program} (c : Ctx P) (n : Nat) : Option (Option Jn) :=
  match ama c.hint.joins n with
  | none => some none
  | some (ms, ks) => match akr c.T ms, aj1 c.T ks with
    | some m, some k => some (some ⟨m, k⟩)
    | _, _ => none
def akm : List (Nat × Shp) → List Kd → List Kd
  | [], l => l
  | (_, sh) :: r, l => sh.2 ++ akm r l
def aj7 : List (Nat × List Kd) → List Kd
  | [] => []
  | (_, ks) :: r => ks ++ aj7 r
def Jn.ks (j : Jn) : List Kd := akm j.mods (aj7 j.kept)
def aga (E : Env) : List (Nat × Shp) → List CV → Option (List CV)
  | [], l => some l
  | (t, sh) :: r, l => match E.get t, aga E r l with
    | some (.t (.sg x)), some cs => match sh.1, sh.2 with
      | false, [_] => some (x :: cs)
      | _, _ => none
    | some (.t (.agg xs)), some cs => match sh.1 && Nat.beq xs.length sh.2.length with
      | true => some (xs ++ cs)
      | false => none
    | _, _ => none
def afT (pv : List (Nat × List CV)) : List (Nat × List Kd) → Option (List CV)
  | [] => some []
  | (k, ks) :: r => match ox pv k, afT pv r with
    | some l, some cs => match Nat.beq l.length ks.length with
      | true => some (l ++ cs)
      | false => none
    | _, _ => none
def Jn.keys (j : Jn) : List Nat := j.kept.map (·.1)
def ajU (D : List Nat) : SV → Bool
  | .pv k _ => memN D k
  | _ => false
def akI (D : List Nat) (p : Nat × SV) : Bool := !(memN D p.1 || ajU D p.2)
def envM : List (Nat × Shp) → List CV → Env
  | [], _ => []
  | (t, sh) :: r, cs => (t, .t (match sh.1 with | true => .agg (cs.take sh.2.length) | false => one' (cs.take sh.2.length))) :: envM r (cs.drop sh.2.length)
def aiT : List (Nat × Shp) → List CV → List CV
  | [], cs => cs
  | (_, sh) :: r, cs => aiT r (cs.drop sh.2.length)
def pvK : List (Nat × List Kd) → List CV → List (Nat × List CV)
  | [], _ => []
  | (k, ks) :: r, cs => (k, cs.take ks.length) :: pvK r (cs.drop ks.length)
def newE (D : List Nat) : List Nat → Env
  | [] => []
  | k :: r => match memN D k with
    | true => (k, .pv k 0) :: newE D r
    | false => newE D r
def ahO (D : List Nat) (E : Env) : List Nat → Bool
  | [] => true
  | k :: r => match memN D k with
    | true => match E.get k with
      | some (.pv j off) => Nat.beq j k && Nat.beq off 0 && ahO D E r
      | _ => false
    | false => ahO D E r
def xO : List Nat → Bool
  | [] => true
  | k :: r => !(memN r k) && xO r
def af6 (pv : List (Nat × List CV)) (k : Nat) : Bool :=
  match ox pv k with
  | some _ => true
  | none => false
def ajS (D ks : List Nat) (pv : List (Nat × List CV)) : List (Nat × Bool) → Bool
  | [] => true
  | (k, _) :: r => (memN ks k || memN D k || !(af6 pv k)) && ajS D ks pv r
def Jn.cells (j : Jn) (st : St) : Option (List CV) :=
  match afT st.pv j.kept with
  | some l => aga st.E j.mods l
  | none => none
def Jn.leaf (j : Jn) (D : List Nat) (st st' : St) (J : Tup j.ks → Heap → Prop) : Prop :=
  match xO j.keys && ahO D st'.E j.keys && ajS D j.keys st.pv (st'.dirty.take (st'.dirty.length - st.dirty.length)) with
  | true => match j.cells st' with
    | some cs => match Tup.of j.ks cs with
      | some t => J t st'.m
      | none => False
    | none => False
  | false => False
def Jn.st (j : Jn) (D : List Nat) (st : St) (t : Tup j.ks) (h : Heap) : St :=
  { E := envM j.mods (Tup.cvs j.ks t) ++ (newE D j.keys ++ st.E.filter (akI D)),
    m := h,
    pv := pvK j.kept (aiT j.mods (Tup.cvs j.ks t)) ++ st.pv.filter (fun p => !(memN D p.1 || memN j.keys p.1)),
    dirty := D.map (fun k => (k, true)) ++ (j.keys.map (fun k => (k, false)) ++ st.dirty),
    mem := false }
def lA : Code → List Nat
  | .region _ ops _ => uC ops.toList
  | .seq a b => lA a ++ lA b
  | .cond _ a b => lA a ++ lA b
  | .block _ b => lA b
  | .loop b => lA b
  | .scope b => lA b
  | _ => []
def nseq : Code → Nat
  | .seq a b => nseq a + nseq b + 1
  | .cond _ a b => nseq a + nseq b + 1
  | .block _ b => nseq b
  | .loop b => nseq b + 1
  | .scope b => nseq b
  | _ => 0
def aiU : List (Nat × Bool) → Nat → Bool → Bool
  | [], _, _ => false
  | (i, b) :: r, n, c => (Nat.beq i n && eqB b c) || aiU r n c
def agh (b : Bool) (p : Prop) : Prop :=
  match b with
  | true => False
  | false => p
def wm (l : List Oper) : Bool :=
  match l with
  | [] => true
  | o :: r => match abO o.op with
    | true => false
    | false => wm r
def shC {P : Program} (c : Ctx P) (D : List Oper → St → (St → Prop) → Prop) : Code → Nat → St → (Exit → St → Prop) → Prop
  | .skip, _, st, K => K .normal st
  | .label _, _, st, K => K .normal st
  | .exit i, _, st, K => K (.exit i) st
  | .ret, _, st, K => K .ret st
  | .region _ ops false, _, st, K => shL c ops.toList ops.toList st.calm fun st => K .normal st
  | .region _ ops true, _, st, K => match wm ops.toList with
    | true => match Region.lexB .any ops with
      | true => shL c ops.toList ops.toList st.calm fun st => K .normal st
      | false => False
    | false => D ops.toList st.calm fun st => K .normal st
  | .seq a b, n, st, K => match akj c n with
    | none => False
    | some none => shC c D a (n + 1) st fun e st => match e with
      | .normal => shC c D b (n + 1 + nseq a) st K
      | e => K e st
    | some (some j) => seq (fun J => shC c D a (n + 1) st fun e st' => match e with
        | .normal => j.leaf (lA a) st st' J
        | e => K e st')
      (fun t h => shC c D b (n + 1 + nseq a) (j.st (lA a) st t h) K)
  | .cond x a b, n, st, K => match st.E.ev x with
    | some (.t (.sg (.kb true))) => shC c D a (n + 1) st K
    | some (.t (.sg (.kb false))) => shC c D b (n + 1 + nseq a) st K
    | some (.t (.sg (.v (.bool t) _))) => iteB t (agh (aiU c.hint.dead n true) (shC c D a (n + 1) st K)) (agh (aiU c.hint.dead n false) (shC c D b (n + 1 + nseq a) st K))
    | _ => False
  | .block i b, n, st, K => shC c D b n st fun e st => match e with
    | .exit j => match Nat.beq j i with
      | true => K .normal st
      | false => K (.exit j) st
    | e => K e st
  | .scope b, n, st, K => shC c D b n st fun e st => match e with
    | .goto _ => False
    | e => K e st
  | .loop b, n, st, K => match akj c n with
    | some (some j) => j.leaf (lA b) st st fun t0 m0 => loop (fun s h Kp => shC c D b (n + 1) (j.st (lA b) st s h) fun e st' => match e with
        | .normal => j.leaf (lA b) st st' Kp
        | e => K e st') t0 m0
    | _ => False
  | _, _, _, _ => False
end Go.Lift

namespace Go.Lift
open Go
theorem InW.subQ {β : Nat → Nat} {m : Heap} {pv pv' : List (Nat × List CV)} {B : Base} {w : World} (h : InW B (hpOf β m pv) w) (hs : ∀ x ∈ pv', ∃ q ∈ pv, q.1 = x.1 ∧ q.2.map CV.val = x.2.map CV.val) (hn : (pv'.map (·.1)).Nodup) : InW B (hpOf β m pv') w := by
  refine InW.sub h (fun x hx => ?_) ?_
  · obtain ⟨p, hp, rfl⟩ := List.mem_map.1 hx
    obtain ⟨q, hq, e1, e2⟩ := hs p hp
    exact List.mem_map.2 ⟨q, hq, by rw [e1, e2]⟩
  · show ((pv'.map fun p => (β p.1, p.2.map CV.val)).map (·.1)).Nodup
    rw [List.map_map]
    refine List.pairwise_map.2 ((List.pairwise_map.1 hn).imp_of_mem ?_)
    intro p q hp hq hne e
    obtain ⟨p', hp', e1, _⟩ := hs p hp
    obtain ⟨q', hq', e2, _⟩ := hs q hq
    have := al0 h hp' hq' (by rw [e1, e2]; exact e)
    exact hne (by rw [← e1, ← e2, this])
theorem rL {n : Nat} {l' : List CV} {xs ys : List CV} (e : l'.map CV.val = (xs ++ ys).map CV.val) (hl : xs.length = n) : (l'.take n).map CV.val = xs.map CV.val ∧ (l'.drop n).map CV.val = ys.map CV.val := by
  subst hl
  rw [List.map_take, List.map_drop, e, List.map_append]
  constructor
  · rw [List.take_left' (by simp)]
  · rw [List.drop_left' (by simp)]
theorem ry {E : Env} (β : Nat → Nat) : ∀ {mods : List (Nat × Shp)} {l cs : List CV}, aga E mods l = some cs → ∀ cs', cs'.map CV.val = cs.map CV.val →
    (∀ p ∈ envM mods cs', ∃ s, (p.1, s) ∈ E ∧ p.2.val β = s.val β) ∧ (aiT mods cs').map CV.val = l.map CV.val
  | [], l, cs, h, cs', e => by cases h; exact ⟨fun p hp => (by cases hp), e⟩
  | (t, sh) :: r, l, cs, h, cs', e => by
    simp only [aga] at h
    split at h
    · rename_i x cs0 h1 h2
      split at h
      · rename_i kd g1 g2
        cases h
        have hlen : sh.2.length = 1 := by rw [g2]; rfl
        obtain ⟨e1, e2⟩ := rL (xs := [x]) (n := 1) e rfl
        obtain ⟨i1, i2⟩ := ry β h2 (cs'.drop 1) e2
        simp only [envM, aiT, hlen, g1]
        refine ⟨fun p hp => ?_, i2⟩
        rcases List.mem_cons.1 hp with rfl | hp
        · refine ⟨_, Env.get_mem h1, ?_⟩
          cases hc : cs'.take 1 with
          | nil => rw [hc] at e1; cases e1
          | cons c r' =>
            cases r' with
            | nil => rw [hc] at e1; simpa [one', SV.val, TV.val] using e1
            | cons c2 r2 => rw [hc] at e1; exact absurd (congrArg List.length e1) (by simp)
        · exact i1 p hp
      · cases h
    · rename_i xs cs0 h1 h2
      split at h
      · rename_i hb
        cases h
        simp only [Bool.and_eq_true] at hb
        have hlen := Nat.eq_of_beq_eq_true hb.2
        obtain ⟨e1, e2⟩ := rL (xs := xs) e hlen
        obtain ⟨i1, i2⟩ := ry β h2 (cs'.drop sh.2.length) e2
        simp only [envM, aiT, hb.1]
        refine ⟨fun p hp => ?_, i2⟩
        rcases List.mem_cons.1 hp with rfl | hp
        · exact ⟨_, Env.get_mem h1, by simp only [SV.val, TV.val, e1]⟩
        · exact i1 p hp
      · cases h
    · cases h
theorem yh {pv : List (Nat × List CV)} : ∀ {kept : List (Nat × List Kd)} {cs : List CV}, afT pv kept = some cs → ∀ cs', cs'.map CV.val = cs.map CV.val →
    ∀ p ∈ pvK kept cs', ∃ q ∈ pv, q.1 = p.1 ∧ q.2.map CV.val = p.2.map CV.val
  | [], cs, h, cs', e => fun p hp => by cases hp
  | (k, ks) :: r, cs, h, cs', e => by
    simp only [afT] at h
    split at h
    · rename_i l cs0 h1 h2
      split at h
      · rename_i hb
        cases h
        have hlen := Nat.eq_of_beq_eq_true hb
        obtain ⟨e1, e2⟩ := rL (xs := l) e hlen
        have i1 := yh h2 (cs'.drop ks.length) e2
        intro p hp
        simp only [pvK] at hp
        rcases List.mem_cons.1 hp with rfl | hp
        · exact ⟨_, pT h1, rfl, e1.symm⟩
        · exact i1 p hp
      · cases h
    · cases h
theorem abU : ∀ (kept : List (Nat × List Kd)) (cs : List CV), (pvK kept cs).map (·.1) = kept.map (·.1)
  | [], _ => rfl
  | (k, ks) :: r, cs => by simp [pvK, abU r]
theorem xL {D : List Nat} {E : Env} : ∀ {l : List Nat}, ahO D E l = true → ∀ p ∈ newE D l, p ∈ E ∧ p.1 ∈ D
  | [], _, p, hp => by cases hp
  | k :: r, h, p, hp => by
    simp only [ahO] at h
    simp only [newE] at hp
    split at h
    · rename_i hk
      rw [hk] at hp
      split at h
      · rename_i j off hg
        simp only [Bool.and_eq_true] at h
        obtain ⟨⟨h1, h2⟩, h3⟩ := h
        have h1 := Nat.eq_of_beq_eq_true h1
        have h2 := Nat.eq_of_beq_eq_true h2
        subst h1 h2
        rcases List.mem_cons.1 hp with rfl | hp
        · exact ⟨Env.get_mem hg, i7.1 hk⟩
        · exact xL h3 p hp
      · cases h
    · rename_i hk
      rw [hk] at hp
      exact xL h p hp
theorem jz : ∀ {l : List Nat}, xO l = true → l.Nodup
  | [], _ => List.nodup_nil
  | k :: r, h => by
    simp only [xO, Bool.and_eq_true, Bool.not_eq_true'] at h
    refine List.nodup_cons.2 ⟨fun hm => ?_, jz h.2⟩
    rw [i7.2 hm] at h
    cases h.1
theorem aif {pv : List (Nat × List CV)} {p : Nat × List CV} (h : p ∈ pv) : af6 pv p.1 = true := by
  unfold af6
  have : ∃ c, ox pv p.1 = some c := by
    induction pv with
    | nil => cases h
    | cons q r ih =>
      obtain ⟨j, c0⟩ := q
      simp only [ox]
      split
      · exact ⟨_, rfl⟩
      · rename_i hb
        rcases List.mem_cons.1 h with rfl | h
        · simp at hb
        · exact ih h
  obtain ⟨c, hc⟩ := this
  rw [hc]
theorem aaY {D ks : List Nat} {pv : List (Nat × List CV)} : ∀ {pre : List (Nat × Bool)}, ajS D ks pv pre = true → ∀ k b, (k, b) ∈ pre → k ∈ ks ∨ k ∈ D ∨ af6 pv k = false
  | [], _, k, b, hm => by cases hm
  | (j, c) :: r, h, k, b, hm => by
    simp only [ajS, Bool.and_eq_true, Bool.or_eq_true, Bool.not_eq_true'] at h
    rcases List.mem_cons.1 hm with e | hm
    · cases e
      rcases h.1 with (h1 | h1) | h1
      · exact .inl (i7.1 h1)
      · exact .inr (.inl (i7.1 h1))
      · exact .inr (.inr h1)
    · exact aaY h.2 k b hm
theorem alz {D : List Nat} {p : Nat × SV} : akI D p = true ↔ p.1 ∉ D ∧ ∀ k, qD k p.2 = true → k ∉ D := by
  unfold akI
  simp only [Bool.not_eq_true', Bool.or_eq_false_iff]
  have h1 : memN D p.1 = false ↔ p.1 ∉ D := by rw [← i7]; simp
  have h2 : ajU D p.2 = false ↔ ∀ k, qD k p.2 = true → k ∉ D := by
    cases hp : p.2 with
    | pv j off =>
      simp only [ajU, qD]
      rw [← Bool.not_eq_true, i7]
      exact ⟨fun h k hk => by rw [← Nat.eq_of_beq_eq_true hk]; exact h, fun h => h j (by simp)⟩
    | _ => simp [ajU, qD]
  rw [h1, h2]
section
variable {n : Nat} {B : Base} {β β' : Nat → Nat} {st st' : St} {a : Act} {w : World} {D : List Nat} {j : Jn}
theorem Jn.ext (h : ExtS D β st β' st') (t : Tup j.ks) (m : Heap) : ExtS D β st β' (j.st D st t m) := by
  obtain ⟨pre, h⟩ := h
  refine ⟨D.map (fun k => (k, true)) ++ j.keys.map (fun k => (k, false)), ⟨by simp [Jn.st], fun k hk => ?_, fun k hk => ?_, fun p hp => ?_, fun p hp => ?_⟩⟩
  · rcases List.mem_append.1 hk with h1 | h1
    · obtain ⟨x, hx, e⟩ := List.mem_map.1 h1
      cases e; exact hx
    · obtain ⟨x, hx, e⟩ := List.mem_map.1 h1
      cases e
  · refine h.beta k fun hp => hk ?_
    exact List.mem_append_left _ (List.mem_map.2 ⟨k, h.laid k hp, rfl⟩)
  · by_cases h1 : p.1 ∈ D
    · exact .inl ⟨true, List.mem_append_left _ (List.mem_map.2 ⟨_, h1, rfl⟩)⟩
    · by_cases h2 : p.1 ∈ j.keys
      · exact .inl ⟨false, List.mem_append_right _ (List.mem_map.2 ⟨_, h2, rfl⟩)⟩
      · refine .inr (List.mem_append_right _ (List.mem_filter.2 ⟨hp, ?_⟩))
        have e1 : memN D p.1 = false := by rw [← Bool.not_eq_true, i7]; exact h1
        have e2 : memN j.keys p.1 = false := by rw [← Bool.not_eq_true, i7]; exact h2
        simp [e1, e2]
  · by_cases h1 : p.1 ∈ D
    · exact .inl h1
    · by_cases h2 : ∃ k, qD k p.2 = true ∧ k ∈ D
      · obtain ⟨k, h2, h3⟩ := h2
        exact .inr (.inl ⟨k, h2, List.mem_append_left _ (List.mem_map.2 ⟨_, h3, rfl⟩)⟩)
      · refine .inr (.inr (List.mem_append_right _ (List.mem_append_right _ (List.mem_filter.2 ⟨hp, ?_⟩))))
        exact alz.2 ⟨h1, fun k hk hD => h2 ⟨k, hk, hD⟩⟩
theorem Jn.leaf_sound {J : Tup j.ks → Heap → Prop} (h : j.leaf D st st' J) (he : ExtS D β st β' st') (hr : Real n B β' st' a w) (hnd : (st.pv.map (·.1)).Nodup) :
    ∃ t, J t st'.m ∧ Real n B β' (j.st D st t st'.m) a w ∧ ExtS D β st β' (j.st D st t st'.m) := by
  unfold Jn.leaf at h
  split at h
  · rename_i hb
    simp only [Bool.and_eq_true] at hb
    obtain ⟨⟨b1, b2⟩, b3⟩ := hb
    split at h
    · rename_i cs hcs
      split at h
      · rename_i t ht
        refine ⟨t, h, ?_, Jn.ext he t _⟩
        obtain ⟨pre, he⟩ := he
        have hpre : st'.dirty.take (st'.dirty.length - st.dirty.length) = pre := by
          rw [he.dirty]
          simp
        rw [hpre] at b3
        have hv : (Tup.cvs j.ks t).map CV.val = cs.map CV.val := by rw [Tup.of_vals ht, Tup.cvs_vals]
        unfold Jn.cells at hcs
        split at hcs
        · rename_i l hl
          obtain ⟨c1, c2⟩ := ry β' hcs _ hv
          have c3 := yh hl _ c2
          refine ⟨⟨hr.holds.size, hr.holds.defers, fun p hp => ?_⟩, ?_, ?_⟩
          · rcases List.mem_append.1 hp with hp | hp
            · obtain ⟨s, h1, h2⟩ := c1 p hp
              rw [h2]; exact hr.holds.at' _ h1
            · rcases List.mem_append.1 hp with hp | hp
              · exact hr.holds.at' _ (xL b2 p hp).1
              · obtain ⟨h1, h2⟩ := List.mem_filter.1 hp
                obtain ⟨h3, h4⟩ := alz.1 h2
                rcases he.env p h1 with g | ⟨k, g1, g2⟩ | g
                · exact absurd g h3
                · exact absurd (he.laid k g2) (h4 k g1)
                · exact hr.holds.at' p g
          · refine InW.subQ hr.inw (fun x hx => ?_) ?_
            · rcases List.mem_append.1 hx with hx | hx
              · exact c3 x hx
              · obtain ⟨h1, h2⟩ := List.mem_filter.1 hx
                simp only [Bool.not_eq_true', Bool.or_eq_false_iff] at h2
                refine ⟨x, ?_, rfl, rfl⟩
                rcases he.pv x h1 with ⟨b, g⟩ | g
                · rcases aaY b3 _ _ g with g | g | g
                  · rw [i7.2 g] at h2; cases h2.2
                  · rw [i7.2 g] at h2; cases h2.1
                  · rw [aif h1] at g; cases g
                · exact g
            · show ((pvK j.kept _ ++ _).map (·.1)).Nodup
              rw [List.map_append, abU, List.nodup_append]
              refine ⟨jz b1, hnd.sublist ((List.filter_sublist).map _), ?_⟩
              intro k hk k' hk' e
              obtain ⟨x, hx, rfl⟩ := List.mem_map.1 hk'
              obtain ⟨_, h2⟩ := List.mem_filter.1 hx
              simp only [Bool.not_eq_true', Bool.or_eq_false_iff] at h2
              subst e
              rw [i7.2 (show x.1 ∈ j.keys from hk)] at h2
              cases h2.2
          · show ((pvK j.kept _ ++ _).map (·.1)).Nodup
            rw [List.map_append, abU, List.nodup_append]
            refine ⟨jz b1, hnd.sublist ((List.filter_sublist).map _), ?_⟩
            intro k hk k' hk' e
            obtain ⟨x, hx, rfl⟩ := List.mem_map.1 hk'
            obtain ⟨_, h2⟩ := List.mem_filter.1 hx
            simp only [Bool.not_eq_true', Bool.or_eq_false_iff] at h2
            subst e
            rw [i7.2 (show x.1 ∈ j.keys from hk)] at h2
            cases h2.2
        · cases hcs
      · exact h.elim
    · exact h.elim
  · exact h.elim
end
end Go.Lift

namespace Go.Lift
open Go
section
variable {P : Program} {c : Ctx P} {B : Base}
theorem vc : ∀ {l : List Oper}, wm l = true → ∀ o ∈ l, abO o.op = false
  | [], _, o, h => by cases h
  | o :: r, h, o', hm => by
    simp only [wm] at h
    split at h
    · cases h
    · rename_i he
      rcases List.mem_cons.1 hm with rfl | hm
      · exact he
      · exact vc h o' hm
theorem ait {hint : Hint} {o : Oper} (h : abO o.op = false) : rJ hint o = false := by
  unfold rJ
  split
  · rename_i hop _; rw [hop] at h; cases h
  · rename_i hop _; rw [hop] at h; cases h
  · rfl
theorem ahm {ops : List Oper} {m : Heap} {pv : List (Nat × List CV)} {β : Nat → Nat} {Qa : Act → Prop} (hT : TTab.Ok P c.T) : ∀ (l : List Oper) {st : St} {k : St → Prop} {a : Act}, (∀ o ∈ l, abO o.op = false) → shL c ops l st k → st.m = m → st.pv = pv → Holds c.n β st.E a →
    (∀ st' a, Holds c.n β st'.E a → st'.m = m → st'.pv = pv → ExtS (uC l) β st β st' → k st' → Qa a) → wpQuiet P ops.toArray (InW B (hpOf β m pv)) Qa l a := by
  intro l
  induction l with
  | nil =>
    intro st k a _ h hm hpv hr hQ
    exact wpQuiet_nil (hQ st.calm a hr hm hpv ⟨[], ⟨rfl, by simp, fun _ _ => rfl, fun p hp => .inr hp, fun p hp => .inr (.inr hp)⟩⟩ h)
  | cons o l ih =>
    intro st k a hall h hm hpv hr hQ
    have hq := hall o (List.mem_cons_self ..)
    have hall' : ∀ o ∈ l, abO o.op = false := fun x hx => hall x (List.mem_cons_of_mem _ hx)
    have hl : rJ c.hint o = false := ait hq
    unfold shL at h
    split at h
    · exact h.elim
    rename_i hok
    have hlt := akp hok
    have run : ∀ {st0 : St}, Holds c.n β st0.E a → st0.m = m → st0.pv = pv → (∀ p ∈ st.E, p ∈ st0.E) → st0.dirty = st.dirty → wM c o st0 (fun s st' => shL c ops l (st'.calm.put o.dst s) k) → o.quiet P a (InW B (hpOf β m pv)) (wpQuiet P ops.toArray (InW B (hpOf β m pv)) Qa l) := by
      intro st0 hr0 hm0 hpv0 hE hdi hs
      unfold wM at hs
      rw [hq] at hs
      obtain ⟨s, hk, hq2⟩ := mI (n := c.n) β hT hs
      refine ⟨s.val β, fun w hw => ?_, ?_⟩
      · unfold Oper.quietAt
        subst hm0 hpv0
        rw [hq2 a w hr0 hw.rel]
        exact ⟨rfl, rfl⟩
      · refine ih (st := st0.calm.put o.dst s) hall' hk hm0 hpv0 (hr0.put hlt rfl) fun st2 a2 hr2 hm2 hp2 he2 hk2 => ?_
        refine hQ st2 a2 hr2 hm2 hp2 ?_ hk2
        refine ExtS.trans (s1 := st0.calm.put o.dst s) (ExtS.put ?_ fun t ht => by simp [ht]) he2
        exact (ExtS.refl o.dst.toList β st0).more hdi.symm (hpv.trans hpv0.symm) hE rfl rfl fun p hp => hp
    have skip : ∀ {st0 : St}, Holds c.n β st0.E a → st0.m = m → st0.pv = pv → (∀ p ∈ st.E, p ∈ st0.E) → st0.dirty = st.dirty → shL c ops l (st0.put o.dst .un) k → wpQuiet P ops.toArray (InW B (hpOf β m pv)) Qa l (a.put o.dst undef) := by
      intro st0 hr0 hm0 hpv0 hE hdi hs
      refine ih (st := st0.put o.dst .un) hall' hs hm0 hpv0 (hr0.put hlt rfl) fun st2 a2 hr2 hm2 hp2 he2 hk2 => ?_
      refine hQ st2 a2 hr2 hm2 hp2 ?_ hk2
      refine ExtS.trans (s1 := st0.put o.dst .un) (ExtS.put ?_ fun t ht => by simp [ht]) he2
      exact (ExtS.refl o.dst.toList β st0).more hdi.symm (hpv.trans hpv0.symm) hE rfl rfl fun p hp => hp
    have cE : ∀ p ∈ st.E, p ∈ st.calm.E := fun p hp => hp
    have wy : Region.wanted o (yielded ops.toArray a.tmps) = true → o.quiet P a (InW B (hpOf β m pv)) (wpQuiet P ops.toArray (InW B (hpOf β m pv)) Qa l) → wpQuiet P ops.toArray (InW B (hpOf β m pv)) Qa (o :: l) a := by
      intro hw h
      unfold wpQuiet
      rw [if_pos hw]; exact h
    have wn : Region.wanted o (yielded ops.toArray a.tmps) = false → wpQuiet P ops.toArray (InW B (hpOf β m pv)) Qa l (a.put o.dst undef) → wpQuiet P ops.toArray (InW B (hpOf β m pv)) Qa (o :: l) a := by
      intro hw h
      unfold wpQuiet
      rw [if_neg (by simp [hw])]; exact h
    split at h
    · rename_i hg
      have hw : Region.wanted o (yielded ops.toArray a.tmps) = true := by simp [Region.wanted, hg]
      rw [hl] at h
      exact wy hw (run (st0 := st.calm) hr hm hpv cE rfl h)
    · rename_i j want hg
      rw [hl] at h
      split at h
      · rename_i he; cases he
      · split at h
        · exact h.elim
        · rename_i t hd
          split at h
          · rename_i ht
            have hv := hr.at' _ (Env.get_mem ht)
            exact wn (qx hg hd hv (by simp [SV.val, undef])) (skip (st0 := st.calm) hr hm hpv cE rfl h)
          · rename_i b ht
            have hv := hr.at' _ (Env.get_mem ht)
            split at h
            · rename_i he
              have he := am3.1 he
              subst he
              exact wy (wv hg hd hv) (run (st0 := st.calm) hr hm hpv cE rfl h)
            · rename_i he
              refine wn (qx hg hd hv ?_) (skip (st0 := st.calm) hr hm hpv cE rfl h)
              intro e
              have : b = want := by simpa [SV.val, TV.val, CV.val] using e
              rw [this] at he
              cases want <;> simp [eqB] at he
          · rename_i b sm ht
            have hv := hr.at' _ (Env.get_mem ht)
            have kE : ∀ b', ∀ p ∈ st.E, p ∈ (st.know t b').E := fun b' p hp => List.mem_cons_of_mem _ hp
            have key : ∀ b', b = b' → (match eqB b' want with
                  | true => wM c o (st.know t b') fun s st' => shL c ops l (st'.calm.put o.dst s) k
                  | false => shL c ops l ((st.know t b').put o.dst .un) k) → wpQuiet P ops.toArray (InW B (hpOf β m pv)) Qa (o :: l) a := by
              intro b' e h1
              subst e
              have hk : Holds c.n β (st.know t b).E a := hr.more ht rfl
              split at h1
              · rename_i he
                have he := am3.1 he
                subst he
                exact wy (wv hg hd hv) (run hk hm hpv (kE _) rfl h1)
              · rename_i he
                refine wn (qx hg hd hv ?_) (skip hk hm hpv (kE _) rfl h1)
                intro e
                have : b = want := by simpa [SV.val, TV.val, CV.val] using e
                rw [this] at he
                cases want <;> simp [eqB] at he
            cases hb : b
            · exact key false hb (h.2 hb)
            · exact key true hb (h.1 hb)
          · exact h.elim
def adA (c : Ctx P) (D : List Oper → St → (St → Prop) → Prop) : Prop :=
  ∀ {id : Nat} {ops : List Oper} {B : Base} {β : Nat → Nat} {st : St} {k : St → Prop} {a : Act} {w : World} {Q : Exit → Act → World → Prop}, D ops st.calm k → Real c.n B β st.calm a w →
    (∀ β' st' a w, Real c.n B β' st' a w → ExtS (uC ops) β st.calm β' st' → k st' → Q .normal a w) → (Code.region id ops.toArray true).wp P Q a w
theorem ahs {D : List Oper → St → (St → Prop) → Prop} (hT : TTab.Ok P c.T) (hm : P.follows .mixedOrders = true) (hD : adA c D) : ∀ (x : Code) {n : Nat} {β : Nat → Nat} {st : St} {K : Exit → St → Prop} {a : Act} {w : World} {Q : Exit → Act → World → Prop},
    shC c D x n st K → Real c.n B β st a w → (∀ e β' st' a w, K e st' → Real c.n B β' st' a w → ExtS (lA x) β st β' st' → Q e a w) → x.wp P Q a w := by
  intro x
  induction x with
  | skip =>
    intro n β st K a w Q h hr hQ
    exact wp_skip (hQ .normal β st a w h hr (ExtS.refl _ β st))
  | label l =>
    intro n β st K a w Q h hr hQ
    exact wp_label (hQ .normal β st a w h hr (ExtS.refl _ β st))
  | exit i =>
    intro n β st K a w Q h hr hQ
    exact wp_exit (hQ (.exit i) β st a w h hr (ExtS.refl _ β st))
  | ret =>
    intro n β st K a w Q h hr hQ
    exact wp_ret (hQ .ret β st a w h hr (ExtS.refl _ β st))
  | region id ops draw =>
    intro n β st K a w Q h hr hQ
    have ec : ∀ {D' : List Nat} {β' : Nat → Nat} {st' : St}, ExtS D' β st.calm β' st' → ExtS D' β st β' st' := fun h => h.more rfl rfl (fun p hp => hp) rfl rfl fun p hp => hp
    have eo : ops = ops.toList.toArray := by simp
    rw [eo]
    cases draw with
    | false =>
      refine wp_region_lit (ahM hT ops.toList (HS.of_calm (F := fun st => shL c ops.toList ops.toList st fun st => K .normal st) h) hr.calm fun β' st' a w hr' he hk => ?_)
      exact hQ .normal β' st' a w hk hr' (ec he)
    | true =>
      unfold shC at h
      split at h
      · rename_i hq
        split at h
        · rename_i hB
          refine wp_region_quiet (C := InW B (hpOf β st.m st.pv)) hm (by simpa using hB) (hr.inw.same_heap ⟨rfl, rfl, rfl, (by first | exact Nat.le_refl _ | exact Nat.le_succ _ | (simp [World.drew]; done))⟩ rfl) ?_
          have := ahm (B := B) (m := st.m) (pv := st.pv) (β := β) (Qa := fun a' => ∀ w', InW B (hpOf β st.m st.pv) w' → Q .normal a' w') hT ops.toList (st := st.calm) (vc hq) h rfl rfl hr.holds fun st' a' hr' hm' hp' he hk w' hw' => ?_
          · simpa using this
          · refine hQ .normal β st' a' w' hk ⟨hr', by rw [hm', hp']; exact hw', by rw [hp']; exact hr.nd⟩ (ec he)
        · exact h.elim
      · exact hD h hr.calm fun β' st' a w hr' he hk => hQ .normal β' st' a w hk hr' (ec he)
  | seq x y ihx ihy =>
    intro n β st K a w Q h hr hQ
    simp only [shC] at h
    split at h
    · exact h.elim
    · refine wp_seq (ihx h hr fun e β' st' a' w' hk hr' he => ?_)
      cases e with
      | normal => exact ihy hk hr' fun e β2 st2 a2 w2 hk2 hr2 he2 => hQ e β2 st2 a2 w2 hk2 hr2 (he.trans he2)
      | _ => exact hQ _ β' st' a' w' hk hr' (he.mono fun z hz => List.mem_append_left _ hz)
    · rename_i j hj
      obtain ⟨J, h1, h2⟩ := h
      refine wp_seq (ihx h1 hr fun e β' st' a' w' hk hr' he => ?_)
      cases e with
      | normal =>
        obtain ⟨t, h3, h4, h5⟩ := Jn.leaf_sound hk he hr' hr.nd
        exact ihy (h2 _ _ h3) h4 fun e β2 st2 a2 w2 hk2 hr2 he2 => hQ e β2 st2 a2 w2 hk2 hr2 (h5.trans he2)
      | _ => exact hQ _ β' st' a' w' hk hr' (he.mono fun z hz => List.mem_append_left _ hz)
  | cond x y z ihy ihz =>
    intro n β st K a w Q h hr hQ
    simp only [shC] at h
    have l : ∀ {β' : Nat → Nat} {st' : St}, ExtS (lA y) β st β' st' → ExtS (lA y ++ lA z) β st β' st' := fun h => h.mono fun q hq => List.mem_append_left _ hq
    have r : ∀ {β' : Nat → Nat} {st' : St}, ExtS (lA z) β st β' st' → ExtS (lA y ++ lA z) β st β' st' := fun h => h.mono fun q hq => List.mem_append_right _ hq
    have ty : shC c D y (n + 1) st K → y.wp P Q a w := fun h => ihy h hr fun e β' st' a' w' hk hr' he => hQ e β' st' a' w' hk hr' (l he)
    have tz : shC c D z (n + 1 + nseq y) st K → z.wp P Q a w := fun h => ihz h hr fun e β' st' a' w' hk hr' he => hQ e β' st' a' w' hk hr' (r he)
    split at h
    · rename_i hx
      exact wp_cond_true (hr.holds.eval hx) (ty h)
    · rename_i hx
      exact wp_cond_false (hr.holds.eval hx) (tz h)
    · rename_i t sm hx
      refine wp_cond_split (hr.holds.eval hx) (fun e => ty ?_) (fun e => tz ?_)
      · have := h.1 e
        unfold agh at this
        split at this
        · exact this.elim
        · exact this
      · have := h.2 e
        unfold agh at this
        split at this
        · exact this.elim
        · exact this
    · exact h.elim
  | block i y ih =>
    intro n β st K a w Q h hr hQ
    simp only [shC] at h
    refine wp_block (ih h hr fun e β' st' a' w' hk hr' he => ?_)
    cases e with
    | exit j =>
      simp only at hk
      split at hk
      · rename_i hb
        have hb := Nat.eq_of_beq_eq_true hb
        subst hb
        simp only [Exit.inBlock, if_true]
        exact hQ .normal β' st' a' w' hk hr' he
      · rename_i hb
        have : j ≠ i := fun e => by subst e; simp at hb
        simp only [Exit.inBlock, if_neg this]
        exact hQ (.exit j) β' st' a' w' hk hr' he
    | _ => exact hQ _ β' st' a' w' hk hr' he
  | scope y ih =>
    intro n β st K a w Q h hr hQ
    simp only [shC] at h
    refine wp_scope_straight (ih h hr fun e β' st' a' w' hk hr' he => ?_)
    cases e with
    | goto l => exact hk.elim
    | _ => exact hQ _ β' st' a' w' hk hr' he
  | loop y ih =>
    intro n β st K a w Q h hr hQ
    simp only [shC] at h
    split at h
    · rename_i j hj
      obtain ⟨t0, h1, h2, h3⟩ := Jn.leaf_sound h (ExtS.refl _ β st) hr hr.nd
      obtain ⟨I, ms, h0, hb⟩ := h1
      refine xM (fun k a w => ∃ β' s m, Real c.n B β' (j.st (lA y) st s m) a w ∧ ExtS (lA y) β st β' (j.st (lA y) st s m) ∧ I s m ∧ ms s m = k) (m := ms t0 st.m) ⟨β, t0, st.m, h2, h3, h0, rfl⟩ ?_
      rintro k a1 w1 ⟨β1, s, m, hr1, he1, hI, rfl⟩
      refine ih (hb s m hI) hr1 fun e β' st' a' w' hk hr' he => ?_
      have he' : ExtS (lA y) β st β' st' := (he1.trans he).mono fun z hz => by
        rcases List.mem_append.1 hz with h | h <;> exact h
      cases e with
      | normal =>
        obtain ⟨t, h4, h5, h6⟩ := Jn.leaf_sound hk he' hr' hr.nd
        exact ⟨ms t st'.m, h4.2, β', t, st'.m, h5, h6, h4.1, rfl⟩
      | _ => exact hQ _ β' st' a' w' hk hr' he'
    · exact h.elim
  | rangeFunc f ps x y => intro n β st K a w Q h; exact h.elim
  | goto l => intro n β st K a w Q h; exact h.elim
  | refuse s => intro n β st K a w Q h; exact h.elim
end
end Go.Lift

namespace Go.Lift
open Go
def ATup.tvs : (ss : List Shp) → ATup ss → List TV
  | [], _ => []
  | s :: r, x => TV.mk s x.1 :: ATup.tvs r x.2
theorem ATup.tvs_vals : ∀ (ss : List Shp) (x : ATup ss), (ATup.tvs ss x).map TV.val = ATup.vals ss x := by
  intro ss
  induction ss with
  | nil => intro x; rfl
  | cons s r ih => intro x; exact congrArg (s.toV x.1 :: ·) (ih x.2)
def mN : List Prm → List TV → List TV
  | [], _ => []
  | .sh _ :: r, vs => vs.take 1 ++ mN r (vs.drop 1)
  | .fn f bs nc :: r, vs => .sg (.v (.func (.func f) ((vs.take bs.length).map TV.val).toArray (((vs.drop bs.length).take nc).map TV.val).toArray) true) :: mN r (vs.drop (bs.length + nc))
  | .ifc t _ :: r, vs => (match vs with | [] => .sg (.v (.iface t undef) true) | v :: _ => .sg (.v (.iface t v.val) true)) :: mN r (vs.drop 1)
theorem kN : ∀ (ps : List Prm) (vs : List TV), (mN ps vs).map TV.val = pack ps (vs.map TV.val)
  | [], _ => rfl
  | .sh s :: r, vs => by simp [mN, pack, kN r, List.map_take, List.map_drop]
  | .fn f bs nc :: r, vs => by simp [mN, pack, kN r, TV.val, CV.val, List.map_take, List.map_drop]
  | .ifc t s :: r, vs => by
    cases vs with
    | nil => simp [mN, pack, kN r, TV.val, CV.val]
    | cons v vs => simp [mN, pack, kN r, TV.val, CV.val]
def numE : Nat → List TV → Env
  | _, [] => []
  | i, x :: r => (i, .t x) :: numE (i + 1) r
theorem agb : ∀ {l : List TV} {i : Nat} {p : Nat × SV}, p ∈ numE i l → ∃ x, p.2 = .t x ∧ i ≤ p.1 ∧ l[p.1 - i]? = some x
  | [], _, _, h => by cases h
  | x :: r, i, p, h => by
    rcases List.mem_cons.1 h with rfl | h
    · exact ⟨x, rfl, Nat.le_refl _, by simp⟩
    · obtain ⟨y, h1, h2, h3⟩ := agb h
      refine ⟨y, h1, by omega, ?_⟩
      rw [show p.1 - i = (p.1 - (i + 1)) + 1 by omega, List.getElem?_cons_succ]
      exact h3
def xK : (rs : List Shp) → List TV → Option (RTup rs)
  | [], [] => some ()
  | [s], [x] => TV.of s x
  | s :: s2 :: r, x :: xs => match TV.of s x, xK (s2 :: r) xs with
    | some a, some b => some (a, b)
    | _, _ => none
  | _, _ => none
theorem agO : ∀ {rs : List Shp} {xs : List TV} {y : RTup rs}, xK rs xs = some y → RTup.toV rs y = agL (xs.map TV.val) := by
  have key : ∀ {rs : List Shp} {xs : List TV} {y : RTup rs}, xK rs xs = some y → (RTup.tvs rs y).map TV.val = xs.map TV.val ∧ rs.length = xs.length ∧ (RTup.tvs rs y).length = rs.length := by
    intro rs
    induction rs with
    | nil =>
      intro xs y h
      cases xs with
      | nil => exact ⟨rfl, rfl, rfl⟩
      | cons x xs => cases h
    | cons s r ih =>
      intro xs y h
      cases r with
      | nil =>
        cases xs with
        | nil => cases h
        | cons x xs =>
          cases xs with
          | nil =>
            have h : TV.of s x = some y := h
            exact ⟨congrArg (· :: []) (TV.of_val h).symm, rfl, rfl⟩
          | cons x2 xs => cases h
      | cons s2 r =>
        cases xs with
        | nil => cases h
        | cons x xs =>
          have h : (match TV.of s x, xK (s2 :: r) xs with
            | some a, some b => some (a, b)
            | _, _ => none) = some y := h
          split at h
          · rename_i a b h1 h2
            cases h
            obtain ⟨i1, i2, i3⟩ := ih h2
            refine ⟨?_, by simp at i2 ⊢; exact i2, ?_⟩
            · exact (congr (congrArg List.cons (TV.of_val h1).symm) i1 : (TV.mk s a).val :: (RTup.tvs (s2 :: r) b).map TV.val = x.val :: xs.map TV.val)
            · exact congrArg (· + 1) i3
          · cases h
  intro rs xs y h
  have h1 := (key h).1
  unfold RTup.toV RTup.sv
  rw [← h1]
  generalize RTup.tvs rs y = l
  match l with
  | [] => rfl
  | [v] => rfl
  | v :: v2 :: r => rfl
def finR {P : Program} (c : Ctx P) : List ResultVar → St → (List TV → Prop) → Prop
  | [], _, k => k []
  | .tmp t :: r, st, k => match st.E.get t with
    | some (.t x) => finR c r st fun l => k (x :: l)
    | _ => False
  | .cell s t :: r, st, k => match c.T.shp t, c.T.size t, st.E.get s with
    | some (true, _), some sz, some (.pv kk off) => match ox st.pv kk with
      | some cs => match Nat.beq ((cs.drop off).take sz).length sz with
        | true => finR c r st fun l => k (.agg ((cs.drop off).take sz) :: l)
        | false => False
      | none => False
    | some (false, _), some _, some (.pv kk off) => match ox st.pv kk with
      | some cs => match cs[off]? with
        | some x => finR c r st fun l => k (.sg x :: l)
        | none => False
      | none => False
    | some (true, ks), some sz, some (.t (.sg (.adr a))) => Lift.cg (Tup.vals ks) sz a st.m fun x => finR c r st fun l => k (.agg (Tup.cvs ks x) :: l)
    | some (false, [kd]), some _, some (.t (.sg (.adr a))) => Lift.load kd.toV a st.m fun x => finR c r st fun l => k (.sg (kd.cv x) :: l)
    | _, _, _ => False
theorem Env.get_frm {E : Env} {β : Nat → Nat} {t : Nat} {s : SV} (h : E.get t = some s) : (E.frm β).get t = some (s.val β) :=
  Env.ev_frm β (x := .tmp t) h
section
variable {P : Program} {c : Ctx P} {B : Base}
theorem kP (hT : TTab.Ok P c.T) {β : Nat → Nat} {st : St} : ∀ {rs : List ResultVar} {k : List TV → Prop}, finR c rs st k → ∃ l, k l ∧ ResAll P c.n (st.E.frm β) (hpOf β st.m st.pv) rs (l.map TV.val)
  | [], k, h => ⟨[], h, trivial⟩
  | .tmp t :: r, k, h => by
    simp only [finR] at h
    split at h
    · rename_i x hx
      obtain ⟨l, h1, h2⟩ := kP hT h
      exact ⟨_, h1, ResAll.cons (ResAt.tmp (Env.get_frm hx)) h2⟩
    · exact h.elim
  | .cell s t :: r, k, h => by
    simp only [finR] at h
    split at h
    · rename_i ks sz kk off h1 h2 hx
      split at h
      · rename_i cs hc
        split at h
        · rename_i hb
          have hb := Nat.eq_of_beq_eq_true hb
          obtain ⟨i, hi⟩ := wx β st.m hc
          obtain ⟨l, h3, h4⟩ := kP hT h
          refine ⟨_, h3, ResAll.cons ?_ h4⟩
          exact ResAt.cellSP (i := i) hT (Env.get_frm hx) (TTab.shp_agg h1) h2 hi rfl (by simp only [List.map_take, List.map_drop]) (by simpa using hb)
        · exact h.elim
      · exact h.elim
    · rename_i ks sz kk off h1 h2 hx
      split at h
      · rename_i cs hc
        split at h
        · rename_i x hoff
          obtain ⟨i, hi⟩ := wx β st.m hc
          obtain ⟨l, h3, h4⟩ := kP hT h
          refine ⟨_, h3, ResAll.cons ?_ h4⟩
          exact ResAt.cellP (i := i) hT (Env.get_frm hx) (TTab.shp_non h1) hi rfl (by simp [hoff, TV.val])
        · exact h.elim
      · exact h.elim
    · rename_i ks sz a h1 h2 hx
      obtain ⟨v, hc, h⟩ := h
      rw [Tup.vals_cvs] at hc
      obtain ⟨l, h3, h4⟩ := kP hT h
      exact ⟨_, h3, ResAll.cons (ResAt.cellS hT (Env.get_frm hx) (TTab.shp_agg h1) h2 hc) h4⟩
    · rename_i kd sz a h1 h2 hx
      obtain ⟨v, hc, h⟩ := h
      rw [← Kd.cv_val] at hc
      obtain ⟨l, h3, h4⟩ := kP hT h
      exact ⟨_, h3, ResAll.cons (ResAt.cell hT (Env.get_frm hx) (TTab.shp_non h1) hc) h4⟩
    · exact h.elim
def shF {P : Program} (c : Ctx P) (D : List Oper → St → (St → Prop) → Prop) (ps : List Prm) (rs : List Shp) (body : Code) (res : List ResultVar) (x : ATup (lh ps)) (m : Heap) (S : RTup rs → Heap → Prop) : Prop :=
  shC c D body 0 { E := numE 0 (mN ps (ATup.tvs (lh ps) x)), m := m, pv := [], dirty := [], mem := false } fun e st => match e with
    | .ret => finR c res st fun l => match xK rs l with
      | some r => S r st.m
      | none => False
    | .normal => match res with
      | [] => match xK rs [] with
        | some r => S r st.m
        | none => False
      | _ => False
    | _ => False
theorem adf {D : List Oper → St → (St → Prop) → Prop} (hT : TTab.Ok P c.T) (hm : P.follows .mixedOrders = true) (hD : adA c D) {f : FuncId} {fn : Func} {body : Code} {ps : List Prm} {rs : List Shp}
    (hf : P.funcs[f]? = some fn) (hb : fn.body = some body) (hn : fn.ntmps = c.n) {x : ATup (lh ps)} (hle : Nat.ble (mN ps (ATup.tvs (lh ps) x)).length c.n = true) {w : World} {m : Heap} {S : RTup rs → Heap → Prop}
    (hr : Rel ⟨m, []⟩ w.heap) (h : shF c D ps rs body fn.results.toList x m S) : Calls P f (pack ps (ATup.vals _ x)).toArray w (Post ⟨w, m⟩ (RTup.toV rs) S) := by
  have hle := Nat.le_of_ble_eq_true hle
  have hlen : (pack ps (ATup.vals _ x)).length = (mN ps (ATup.tvs (lh ps) x)).length := by
    rw [← ATup.tvs_vals, ← kN]; simp
  refine calls_of_wp hf hb ?_
  refine ahs (B := ⟨w, m⟩) (β := fun _ => 0) hT hm hD body h ⟨⟨?_, rfl, ?_⟩, InW.start hr, List.nodup_nil⟩ ?_
  · simp [hn]; omega
  · intro p hp
    obtain ⟨y, e, _, h3⟩ := agb hp
    rw [e]
    have h4 : (pack ps (ATup.vals _ x))[p.1]? = some y.val := by
      rw [← ATup.tvs_vals, ← kN, List.getElem?_map, show p.1 = p.1 - 0 by omega, h3]
      rfl
    have hlt : p.1 < (pack ps (ATup.vals _ x)).length := (List.getElem?_eq_some_iff.1 h4).1
    rw [Array.getElem?_append]
    simp [hlt, SV.val]
    exact (List.getElem?_eq_some_iff.1 h4).2
  · intro e β' st' a' w' hk hr' _
    have fin : ∀ {l : List TV} {r : RTup rs}, ResAll P c.n (st'.E.frm β') (hpOf β' st'.m st'.pv) fn.results.toList (l.map TV.val) → xK rs l = some r → S r st'.m → bodyPost P fn (Post ⟨w, m⟩ (RTup.toV rs) S) .ret a' w' := by
      intro l r h1 h2 h3
      exact AtE.retN (n := c.n) (L := st'.E.frm β') (h := hpOf β' st'.m st'.pv) (rs := fn.results.toList) (by simp) h1 (agO h2) h3 a' w' hr'.holds.frm hr'.inw
    cases e with
    | ret =>
      obtain ⟨l, h1, h2⟩ := kP (β := β') hT hk
      split at h1
      · rename_i r hp
        exact fin h2 hp h1
      · exact h1.elim
    | normal =>
      simp only at hk
      split at hk
      · rename_i hres
        split at hk
        · rename_i r hp
          have := fin (l := []) (r := r) (by rw [hres]; trivial) hp hk
          exact this
        · exact hk.elim
      · exact hk.elim
    | _ => exact hk.elim
end
end Go.Lift

namespace Go.Lift
open Go
def afG (fn : Func) : Code :=
  match fn.body with
  | some c => c
  | none => .goto 0
def amJ {P : Program} (c : Ctx P) {D : List Oper → St → (St → Prop) → Prop} (hD : adA c D) (hT : TTab.Ok P c.T) (hm : P.follows .mixedOrders = true) (f : FuncId) {fn : Func} (ps : List Prm) (rs : List Shp)
    (sem : Cur (lh ps) (Heap → (RTup rs → Heap → Prop) → Prop)) (hf : P.funcs[f]? = some fn) (hb : fn.body.isSome = true) (hn : fn.ntmps = c.n) (hc : ∀ vs w, (callFunc f vs).run P w = .ok (.enter f vs) w)
    (hle : ∀ x, Nat.ble (mN ps (ATup.tvs (lh ps) x)).length c.n = true)
    (h : ∀ x m S, Cur.ap (lh ps) sem x m S = shF c D ps rs (afG fn) fn.results.toList x m S) : Ent P :=
  { f := f, ps := ps, rs := rs, sem := sem, call := hc,
    ok := fun x w m S hr H => adf hT hm hD hf (by unfold afG; cases hb' : fn.body <;> simp_all) hn (hle x) hr (h x m S ▸ H) }
theorem ak4 {P : Program} (c : Ctx P) {D : List Oper → St → (St → Prop) → Prop} (hD : adA c D) (hT : TTab.Ok P c.T) (hm : P.follows .mixedOrders = true) (f : FuncId) {fn : Func} (ps : List Prm) (rs : List Shp)
    (sem : Cur (lh ps) (Heap → (RTup rs → Heap → Prop) → Prop)) (hf : P.funcs[f]? = some fn) (hb : fn.body.isSome = true) (hn : fn.ntmps = c.n)
    (hle : ∀ x, Nat.ble (mN ps (ATup.tvs (lh ps) x)).length c.n = true)
    (h : ∀ x m S, Cur.ap (lh ps) sem x m S = shF c D ps rs (afG fn) fn.results.toList x m S) (x : ATup (lh ps)) (w : World) (m : Heap) (S : RTup rs → Heap → Prop) (hr : Rel ⟨m, []⟩ w.heap) (H : Cur.ap (lh ps) sem x m S) :
    Calls P f (pack ps (ATup.vals _ x)).toArray w (Post ⟨w, m⟩ (RTup.toV rs) S) :=
  adf hT hm hD hf (by unfold afG; cases hb' : fn.body <;> simp_all) hn (hle x) hr (h x m S ▸ H)
end Go.Lift
