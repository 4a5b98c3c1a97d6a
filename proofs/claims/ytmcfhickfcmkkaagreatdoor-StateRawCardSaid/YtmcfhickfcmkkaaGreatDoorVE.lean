/-
  Laws that the proof of this claim's statement leans on, each proved under the conditions that it states.
-/
import Derived.Test.YtmcfhickfcmkkaaGreatDoorVD
import Derived.Test.YtmcfhickfcmkkaaGreatDoorVC
set_option linter.unusedVariables false
set_option linter.unusedSimpArgs false
namespace Go.Lift
open Go
def cntN (l D : List Nat) : Nat := (l.filter fun e => !memN D e).length
theorem xZ {D : List Nat} {e x : Nat} : memN (e :: D) x = (Nat.beq e x || memN D x) := by
  simp only [memN]
  cases Nat.beq e x <;> rfl
theorem afW : ∀ {l D : List Nat} {e : Nat}, e ∉ l → cntN l (e :: D) = cntN l D
  | [], D, e, _ => rfl
  | x :: r, D, e, h => by
    have h1 : Nat.beq e x = false := by
      cases hb : Nat.beq e x
      · rfl
      · exact absurd (Nat.eq_of_beq_eq_true hb ▸ List.mem_cons_self ..) h
    have ih := afW (D := D) (fun hm => h (List.mem_cons_of_mem x hm))
    unfold cntN at ih ⊢
    simp only [List.filter_cons, xZ, h1, Bool.false_or]
    cases memN D x <;> simp_all [xZ]
theorem ab4 : ∀ {l D : List Nat} {e : Nat}, l.Nodup → e ∈ l → e ∉ D → cntN l (e :: D) + 1 = cntN l D
  | [], D, e, _, h, _ => by cases h
  | x :: r, D, e, hn, h, hD => by
    obtain ⟨hn1, hn2⟩ := List.nodup_cons.1 hn
    by_cases hx : e = x
    · subst hx
      have := afW (D := D) hn1
      have hm : memN D e = false := by rw [← Bool.not_eq_true, i7]; exact hD
      have hs : memN (e :: D) e = true := i7.2 (List.mem_cons_self ..)
      unfold cntN at this ⊢
      rw [List.filter_cons, List.filter_cons, hm, hs]
      simp [this]
    · have h1 : e ∈ r := by
        rcases List.mem_cons.1 h with e1 | e1
        · exact absurd e1 hx
        · exact e1
      have ih := ab4 hn2 h1 hD
      have hb : Nat.beq e x = false := by
        cases hb : Nat.beq e x
        · rfl
        · exact absurd (Nat.eq_of_beq_eq_true hb) hx
      have hs : memN (e :: D) x = memN D x := by rw [xZ, hb, Bool.false_or]
      unfold cntN at ih ⊢
      rw [List.filter_cons, List.filter_cons, hs]
      cases memN D x
      · simp; omega
      · simpa using ih
theorem agf {l D : List Nat} (h : cntN l D = 0) : ∀ e ∈ l, e ∈ D := by
  intro e he
  unfold cntN at h
  have := List.filter_eq_nil_iff.1 (List.eq_nil_of_length_eq_zero h) e he
  simp only [Bool.not_eq_true', Bool.not_eq_false] at this
  exact i7.1 this
theorem ak8 {l D : List Nat} (h : ∀ e ∈ l, e ∈ D) : cntN l D = 0 := by
  unfold cntN
  rw [List.length_eq_zero_iff, List.filter_eq_nil_iff]
  intro e he
  simp [i7.2 (h e he)]
theorem akY {l D : List Nat} {e : Nat} (he : e ∈ l) (hD : e ∉ D) : 0 < cntN l D := by
  rcases Nat.eq_zero_or_pos (cntN l D) with h | h
  · exact absurd (agf h e he) hD
  · exact h
theorem aiw (l : List Nat) : cntN l [] = l.length := by
  unfold cntN
  rw [List.filter_eq_self.2 (by simp [memN])]
theorem yy {p : Oper → Nat → Bool} : ∀ {l : List Oper} {k : Nat}, allI p l k = true → ∀ (i : Nat) (o : Oper), l[i]? = some o → p o (k + i) = true
  | [], k, _, i, o, ho => by simp at ho
  | x :: r, k, h, i, o, ho => by
    simp only [allI, Bool.and_eq_true] at h
    cases i with
    | zero => simp at ho; subst ho; exact h.1
    | succ i =>
      simp at ho
      have := yy h.2 i o ho
      rwa [show k + 1 + i = k + (i + 1) by omega] at this
theorem xS {rg : Rg} : ∀ {l bef : List (Nat × Nat)}, afH rg bef l = true → (∀ x ∈ l, ∀ y ∈ bef, y.2 = x.2 → y.1 ∈ rg.av x.1) ∧ l.Pairwise (fun a b => a.2 = b.2 → a.1 ∈ rg.av b.1) ∧ ∀ x ∈ l, ∀ d ∈ rg.lays, fB rg.ops d = some x.2 → d ∈ rg.av x.1
  | [], bef, _ => ⟨fun e he => (by cases he), List.Pairwise.nil, fun e he => (by cases he)⟩
  | e :: r, bef, h => by
    simp only [afH, Bool.and_eq_true, List.all_eq_true, Bool.or_eq_true, Bool.not_eq_true'] at h
    obtain ⟨⟨h1, h2⟩, h3⟩ := h
    obtain ⟨i1, i2, i3⟩ := xS h3
    have k1 : ∀ y ∈ bef, y.2 = e.2 → y.1 ∈ rg.av e.1 := by
      intro y hy he
      rcases h1 y hy with h | h
      · rw [he] at h; simp at h
      · exact i7.1 h
    have k2 : ∀ d ∈ rg.lays, fB rg.ops d = some e.2 → d ∈ rg.av e.1 := by
      intro d hd he
      rcases h2 d hd with h | h
      · rw [amI.2 he] at h; cases h
      · exact i7.1 h
    refine ⟨fun x hx y hy => ?_, List.pairwise_cons.2 ⟨fun x hx he => i1 x hx e (List.mem_cons_self ..) he, i2⟩, fun x hx => ?_⟩
    · rcases List.mem_cons.1 hx with rfl | hx
      · exact k1 y hy
      · exact i1 x hx y (List.mem_cons_of_mem _ hy)
    · rcases List.mem_cons.1 hx with rfl | hx
      · exact k2
      · exact i3 x hx
theorem gA {ops : List Oper} {i : Nat} {o : Oper} (h : ops[i]? = some o) : fB ops i = o.dst := by unfold fB; rw [h]
structure RgF (rg : Rg) (T : TTab) (n : Nat) : Prop where
  edges : oN rg.ops rg.E rg.A rg.G = true
  same : rg.tks.Pairwise (fun a b => a.2 = b.2 → a.1 ∈ rg.av b.1)
  layB : ∀ x ∈ rg.tks, ∀ l ∈ rg.lays, fB rg.ops l = some x.2 → l ∈ rg.av x.1
  look : ∀ (i : Nat) (o : Oper), rg.ops[i]? = some o → i ∈ rg.tail ∨ ∀ t ∈ rg.look o, t ∉ rg.lds
  dst : ∀ (i : Nat) (o : Oper), rg.ops[i]? = some o → i ∈ rg.lays ∨ ∀ d, o.dst = some d → d ∉ rg.lds
  lay : ∀ l ∈ rg.lays, ∃ o t d z, rg.ops[l]? = some o ∧ o.op = .alloc t ∧ o.dst = some d ∧ o.guard = none ∧ d < n ∧ T.zero t = some z ∧ l ∈ rg.E ∧ l ∉ rg.pubs ∧ l ∉ rg.tail ∧ d ∈ rg.lds
  sub : ∀ e ∈ rg.E, e ∈ rg.pubs ∨ e ∈ rg.lays ∨ e ∈ rg.tail
  pubE : ∀ e ∈ rg.pubs, e ∈ rg.E
  tailE : ∀ e ∈ rg.tail, e ∈ rg.E
  dis : ∀ e ∈ rg.pubs, e ∉ rg.tail
  ndT : rg.tail.Nodup
  ndP : rg.pubs.Nodup
  ndL : rg.lays.Nodup
  ldk : ∀ d ∈ rg.lds, ∃ l ∈ rg.lays, fB rg.ops l = some d
  lookT : ∀ x ∈ rg.tks, ∃ o t d y, rg.ops[x.1]? = some o ∧ o.op = .store t (.tmp d) y ∧ d ∈ rg.look o
theorem ut {ops : List Oper} : ∀ {ls : List Nat} {d : Nat}, d ∈ aa5 ops ls → ∃ l ∈ ls, fB ops l = some d
  | [], d, h => by cases h
  | x :: r, d, h => by
    simp only [aa5] at h
    split at h
    · rename_i d' hd'
      rcases List.mem_cons.1 h with rfl | h
      · exact ⟨x, List.mem_cons_self .., hd'⟩
      · obtain ⟨l, h1, h2⟩ := ut h
        exact ⟨l, List.mem_cons_of_mem _ h1, h2⟩
    · obtain ⟨l, h1, h2⟩ := ut h
      exact ⟨l, List.mem_cons_of_mem _ h1, h2⟩
theorem aaI {rg : Rg} {T : TTab} {n : Nat} : ∀ {ls : List Nat}, ajG rg T n ls = true → ∀ l ∈ ls, ∃ o t d z, rg.ops[l]? = some o ∧ o.op = .alloc t ∧ o.dst = some d ∧ o.guard = none ∧ d < n ∧ T.zero t = some z ∧ l ∈ rg.E ∧ l ∉ rg.pubs ∧ l ∉ rg.tail ∧ d ∈ rg.lds
  | [], _, l, h => by cases h
  | x :: r, h, l, hl => by
    simp only [ajG, Bool.and_eq_true, Bool.not_eq_true'] at h
    obtain ⟨⟨⟨⟨h1, h2⟩, h3⟩, h4⟩, h5⟩ := h
    rcases List.mem_cons.1 hl with rfl | hl
    · split at h1
      · rename_i o ho
        split at h1
        · rename_i t d e1 e2 e3
          simp only [Bool.and_eq_true] at h1
          obtain ⟨z, hz⟩ := Option.isSome_iff_exists.1 h1.2
          refine ⟨o, t, d, z, ho, e1, e2, e3, by simpa [Nat.blt_eq] using h1.1.1, hz, i7.1 h2, fun hm => ?_, fun hm => ?_, i7.1 h1.1.2⟩
          · rw [i7.2 hm] at h3; cases h3
          · rw [i7.2 hm] at h4; cases h4
        · cases h1
      · cases h1
    · exact aaI h5 l hl
theorem Rg.ok_spec {rg : Rg} {T : TTab} {n : Nat} (h : rg.ok T n = true) : RgF rg T n := by
  unfold Rg.ok at h
  simp only [Bool.and_eq_true] at h
  obtain ⟨⟨⟨⟨⟨⟨⟨⟨⟨⟨⟨⟨⟨h1, h2⟩, h4⟩, h5⟩, h6⟩, h7⟩, h8⟩, h9⟩, h10⟩, h11⟩, h12⟩, h13⟩, h14⟩, h15⟩ := h
  obtain ⟨_, t2, t3⟩ := xS h2
  refine ⟨h1, t2, t3, fun i o ho => ?_, fun i o ho => ?_, aaI h6, fun e he => ?_, wR.1 h8, wR.1 h9, fun e he hm => ?_, jz h11, jz h12, jz h13, fun d hd => ut (wR.1 h14 d hd), fun x hx => ?_⟩
  · have := yy h4 i o ho
    rw [Nat.zero_add] at this
    unfold akk at this
    simp only [Bool.or_eq_true, List.all_eq_true, Bool.not_eq_true'] at this
    rcases this with h' | h'
    · exact .inl (i7.1 h')
    · exact .inr fun t ht hm => by have := h' t ht; rw [i7.2 hm] at this; cases this
  · have := yy h5 i o ho
    rw [Nat.zero_add] at this
    unfold alP at this
    simp only [Bool.or_eq_true] at this
    rcases this with h' | h'
    · exact .inl (i7.1 h')
    · refine .inr fun d hd hm => ?_
      rw [hd] at h'
      simp only at h'
      rw [i7.2 hm] at h'; cases h'
  · rcases List.mem_append.1 (wR.1 h7 e he) with h | h
    · exact .inl h
    · exact .inr (List.mem_append.1 h)
  · have := List.all_eq_true.1 h10 e he
    rw [i7.2 hm] at this; cases this
  · have := List.all_eq_true.1 h15 x hx
    unfold lookT at this
    split at this
    · rename_i o ho
      split at this
      · rename_i t d y hop
        exact ⟨o, t, d, y, ho, hop, i7.1 this⟩
      · cases this
    · cases this
def eJ : Lst → Nat → List Value → List Value
  | [], _, cs => cs
  | w :: r, k, cs => match Nat.beq w.2.1 k with
    | true => eJ r k (jq cs w.2.2.1 w.2.2.2)
    | false => eJ r k cs
theorem aaF : ∀ {l cs : List Value} {off : Nat}, (jq cs off l).length = cs.length
  | [], _, _ => rfl
  | v :: l, cs, off => by rw [jq, aaF]; simp
theorem qm : ∀ {Ws : Lst} {k : Nat} {cs : List Value}, (eJ Ws k cs).length = cs.length
  | [], _, _ => rfl
  | w :: r, k, cs => by
    unfold eJ
    split
    · rw [qm, aaF]
    · exact qm
theorem yS : ∀ {Ws : Lst} {k : Nat} {cs : List Value}, (∀ w ∈ Ws, w.2.1 ≠ k) → eJ Ws k cs = cs
  | [], _, _, _ => rfl
  | w :: r, k, cs, h => by
    have : Nat.beq w.2.1 k = false := by
      cases hb : Nat.beq w.2.1 k
      · rfl
      · exact absurd (Nat.eq_of_beq_eq_true hb) (h w (List.mem_cons_self ..))
    unfold eJ
    rw [this]
    exact yS fun x hx => h x (List.mem_cons_of_mem _ hx)
theorem rx : ∀ {Ws : Lst} {w : Nat × Nat × Nat × List Value} {k : Nat} {cs : List Value}, eJ (Ws ++ [w]) k cs = match Nat.beq w.2.1 k with | true => jq (eJ Ws k cs) w.2.2.1 w.2.2.2 | false => eJ Ws k cs
  | [], _, _, _ => rfl
  | x :: r, w, k, cs => by
    show (match Nat.beq x.2.1 k with | true => eJ (r ++ [w]) k (jq cs x.2.2.1 x.2.2.2) | false => eJ (r ++ [w]) k cs) = _
    conv => rhs; unfold eJ
    cases Nat.beq x.2.1 k with
    | true => exact rx
    | false => exact rx
def fil (k : Nat) (Ws : Lst) : Lst := Ws.filter fun w => Nat.beq w.2.1 k
theorem qh : ∀ {Ws : Lst} {k : Nat} {cs : List Value}, eJ Ws k cs = eJ (fil k Ws) k cs
  | [], _, _ => rfl
  | w :: r, k, cs => by
    unfold fil
    rw [List.filter_cons]
    conv => lhs; unfold eJ
    cases hb : Nat.beq w.2.1 k with
    | true =>
      simp only [if_true]
      conv => rhs; unfold eJ
      rw [hb]
      exact qh
    | false => exact qh
theorem adY {F : Nat → Option (Nat × Nat × List Value)} : ∀ {l l' : Lst}, l.map (·.1) = l'.map (·.1) → (∀ w ∈ l, F w.1 = some w.2) → (∀ w ∈ l', F w.1 = some w.2) → l = l'
  | [], [], _, _, _ => rfl
  | [], _ :: _, h, _, _ => by cases h
  | _ :: _, [], h, _, _ => by cases h
  | a :: l, b :: l', h, h1, h2 => by
    obtain ⟨e1, e2⟩ := List.cons.inj h
    have := h1 a (List.mem_cons_self ..)
    simp only at e1
    rw [e1, h2 b (List.mem_cons_self ..)] at this
    have e3 : a = b := by
      obtain ⟨a1, a2⟩ := a
      obtain ⟨b1, b2⟩ := b
      simp only at e1 this
      cases this
      rw [e1]
    rw [e3, adY e2 (fun w hw => h1 w (List.mem_cons_of_mem _ hw)) fun w hw => h2 w (List.mem_cons_of_mem _ hw)]
def zW (rg : Rg) (k : Nat) : List Nat := (rg.tks.filter fun x => Nat.beq x.2 k).map (·.1)
section
variable {P : Program} {c : Ctx P} {rg : Rg} {B : Base} {Q : Exit → Act → World → Prop} {β : Nat → Nat}
theorem am0 {T : TTab} {n : Nat} (F : RgF rg T n) : ∀ (i : Nat) (o : Oper), rg.ops[i]? = some o → ∀ j ∈ rg.an i, j ∈ rg.E → j ∈ rg.av i := by
  obtain ⟨B0, B1, _⟩ := fc F.edges
  intro i
  induction i using Nat.strongRecOn with
  | _ i ih =>
    intro o ho j hj hE
    obtain ⟨x, hx, hxj⟩ := B0 i o ho j hj
    obtain ⟨x1, x2, x3⟩ := B1 i o ho x hx
    rcases hxj with rfl | hxj
    · exact x3 hE
    · have hil : i < rg.ops.length := (List.getElem?_eq_some_iff.1 ho).1
      have hxl : x < rg.ops.length := Nat.lt_trans x1 hil
      exact x2 j (ih x x1 (rg.ops[x]'hxl) (List.getElem?_eq_getElem hxl) j hxj hE)
theorem uB {T : TTab} {n : Nat} (F : RgF rg T n) {i j : Nat} {o o' : Oper} {d : Nat} (h1 : rg.ops[i]? = some o) (h2 : o.dst = some d) (h3 : rg.ops[j]? = some o') (h4 : o'.dst = some d) : i = j :=
  (fc F.edges).2.2.2.2.1 i o d h1 h2 j o' h3 h4
theorem alT {T : TTab} {n : Nat} (F : RgF rg T n) : ∀ (i : Nat) (o : Oper), rg.ops[i]? = some o → ∀ j ∈ rg.an i, ∀ x ∈ rg.av j, x ∈ rg.av i := by
  obtain ⟨B0, B1, _⟩ := fc F.edges
  intro i
  induction i using Nat.strongRecOn with
  | _ i ih =>
    intro o ho j hj x hx
    obtain ⟨y, hy, hyj⟩ := B0 i o ho j hj
    obtain ⟨y1, y2, _⟩ := B1 i o ho y hy
    rcases hyj with rfl | hyj
    · exact y2 x hx
    · have hil : i < rg.ops.length := (List.getElem?_eq_some_iff.1 ho).1
      have hyl : y < rg.ops.length := Nat.lt_trans y1 hil
      exact y2 x (ih y y1 (rg.ops[y]'hyl) (List.getElem?_eq_getElem hyl) j hyj x hx)
theorem agr {E : Env} {e k off : Nat} {l : List CV} (h : ahf c rg E e = some (k, off, l)) :
    ∃ o t x y sz, rg.ops[e]? = some o ∧ o.op = .store t x y ∧ o.dst = none ∧ o.guard = none ∧ agI rg.lds (ij E (rg.look o)) x = some (k, off) ∧ c.T.size t = some sz ∧
      ((∃ v, (ij E (rg.look o)).ev y = some (.t (.sg v)) ∧ sz = 1 ∧ oneC v = true ∧ l = [v]) ∨ ((ij E (rg.look o)).ev y = some (.t (.agg l)) ∧ sz = l.length ∧ l.all oneC = true)) := by
  unfold ahf at h
  split at h
  · rename_i o ho
    split at h
    · rename_i t x y hop hdst hg
      unfold aid at h
      split at h
      · rename_i k' off' sz v e1 e2 e3
        split at h
        · rename_i hb
          cases h
          simp only [Bool.and_eq_true] at hb
          exact ⟨o, t, x, y, sz, ho, hop, hdst, hg, e1, e2, .inl ⟨v, e3, Nat.eq_of_beq_eq_true hb.1, hb.2, rfl⟩⟩
        · cases h
      · rename_i k' off' sz l' e1 e2 e3
        split at h
        · rename_i hb
          cases h
          simp only [Bool.and_eq_true] at hb
          exact ⟨o, t, x, y, sz, ho, hop, hdst, hg, e1, e2, .inr ⟨e3, Nat.eq_of_beq_eq_true hb.1, hb.2⟩⟩
        · cases h
      · cases h
    · cases h
  · cases h
theorem ald {pvR : List (Nat × List Value)} (hnd : (pvR.map (·.1)).Nodup) {blk : Nat} {cur new : List Value} (h : (blk, cur) ∈ pvR) : ∃ j : Nat, pvR[j]? = some (blk, cur) ∧ (blk, new) ∈ pvR.set j (blk, new) ∧ (∀ z ∈ pvR, z.1 ≠ blk → z ∈ pvR.set j (blk, new)) ∧ (pvR.set j (blk, new)).map (·.1) = pvR.map (·.1) := by
  obtain ⟨j, hj, hjx⟩ := List.mem_iff_getElem.1 h
  refine ⟨j, by rw [List.getElem?_eq_getElem hj, hjx], List.mem_iff_getElem.2 ⟨j, by simpa using hj, by simp⟩, fun z hz hne => ?_, ?_⟩
  · obtain ⟨j', hj1, hj2⟩ := List.mem_iff_getElem.1 hz
    have hjj : j ≠ j' := by
      intro e
      subst e
      rw [hjx] at hj2
      exact hne (by rw [← hj2])
    exact List.mem_iff_getElem.2 ⟨j', by simpa using hj1, by rw [List.getElem_set_ne hjj]; exact hj2⟩
  · apply List.ext_getElem?
    intro q
    rw [List.getElem?_map, List.getElem?_map, List.getElem?_set]
    split
    · rename_i e
      subst e
      simp [hj, hjx]
    · rfl
structure TI (β β' : Nat → Nat) (rg : Rg) (g : Nat → Option Value) (st0 stT : St) (pvR : List (Nat × List Value)) : Prop where
  env : ∀ p ∈ stT.E, g p.1 = some (p.2.val β')
  sub : ∀ z ∈ (hpOf β' stT.m stT.pv).pv, z ∈ pvR
  ndC : ((hpOf β' stT.m stT.pv).pv.map (·.1)).Nodup
  ndK : (stT.pv.map (·.1)).Nodup
  ext : ExtS (uC rg.ops) β st0 β' stT
theorem acW {k : Nat} {c' : List CV} : ∀ {pv : List (Nat × List CV)}, (pv.map (·.1)).Nodup → ∀ p ∈ o0 pv k c', p = (k, c') ∨ (p ∈ pv ∧ p.1 ≠ k)
  | [], _, p, hp => by cases hp
  | (i, cs) :: r, hn, p, hp => by
    obtain ⟨h1, h2⟩ := List.nodup_cons.1 hn
    simp only [o0] at hp
    split at hp
    · rename_i hb
      have hb := Nat.eq_of_beq_eq_true hb
      subst hb
      rcases List.mem_cons.1 hp with rfl | hp
      · exact .inl rfl
      · refine .inr ⟨List.mem_cons_of_mem _ hp, fun e => h1 ?_⟩
        exact List.mem_map.2 ⟨p, hp, e⟩
    · rename_i hb
      rcases List.mem_cons.1 hp with rfl | hp
      · exact .inr ⟨List.mem_cons_self .., fun e => by (have e : i = k := e); rw [e] at hb; simp at hb⟩
      · rcases acW h2 p hp with h | ⟨h3, h4⟩
        · exact .inl h
        · exact .inr ⟨List.mem_cons_of_mem _ h3, h4⟩
structure TA (c : Ctx P) (rg : Rg) (E : Env) (ts : List (Nat × Nat)) (a b : St) (TW : Lst) : Prop where
  ts : TW.map (fun w => (w.1, w.2.1)) = ts
  kv : ∀ w ∈ TW, KV c rg E w.1 = some w.2
  E : b.E = a.E
  m : b.m = a.m
  keys : b.pv.map (·.1) = a.pv.map (·.1)
  pv : ∀ p ∈ b.pv, ∃ p0 ∈ a.pv, p0.1 = p.1 ∧ p.2.map CV.val = eJ TW p.1 (p0.2.map CV.val)
  dirty : ∃ pre, b.dirty = pre ++ a.dirty ∧ (∀ k x, (k, x) ∈ pre → x = false) ∧ ∀ p ∈ a.pv, (∃ x, (p.1, x) ∈ pre) ∨ p ∈ b.pv
theorem aa2 {E : Env} : ∀ {ts : List (Nat × Nat)} {a b : St}, (a.pv.map (·.1)).Nodup → ahG c rg E ts a = some b → ∃ TW, TA c rg E ts a b TW
  | [], a, b, _, h => by
    cases h
    exact ⟨[], rfl, fun w hw => (by cases hw), rfl, rfl, rfl, fun p hp => ⟨p, hp, rfl, rfl⟩, [], rfl, fun k x h => (by cases h), fun p hp => .inr hp⟩
  | x :: r, a, b, hn, h => by
    simp only [ahG] at h
    split at h
    · rename_i k off l hk
      split at h
      · rename_i cs hc
        split at h
        · rename_i hb
          simp only [Bool.and_eq_true] at hb
          have hb1 := Nat.eq_of_beq_eq_true hb.1
          have hb2 := Nat.le_of_ble_eq_true hb.2
          subst hb1
          obtain ⟨TW, t⟩ := aa2 (by show ((o0 a.pv x.2 _).map (·.1)).Nodup; rw [uw]; exact hn) h
          have hkv : KV c rg E x.1 = some (x.2, off, l.map CV.val) := by unfold KV; rw [hk]; rfl
          refine ⟨(x.1, x.2, off, l.map CV.val) :: TW, ?_, fun w hw => ?_, t.E, t.m, ?_, fun p hp => ?_, ?_⟩
          · rw [List.map_cons, t.ts]
          · rcases List.mem_cons.1 hw with rfl | hw
            · exact hkv
            · exact t.kv w hw
          · rw [t.keys]
            exact uw _ _ _
          · obtain ⟨p0, h1, h2, h3⟩ := t.pv p hp
            rcases acW hn p0 h1 with rfl | ⟨h4, h5⟩
            · refine ⟨(x.2, cs), pT hc, h2, ?_⟩
              rw [h3]
              have : Nat.beq x.2 p.1 = true := by rw [← h2]; simp
              simp only [eJ, this]
              rw [adu _ _ _ (by simpa using hb2)]
              simp [List.map_take, List.map_drop]
            · refine ⟨p0, h4, h2, ?_⟩
              rw [h3]
              have : Nat.beq x.2 p.1 = false := by
                cases hb' : Nat.beq x.2 p.1
                · rfl
                · exact absurd (h2.trans (Nat.eq_of_beq_eq_true hb').symm) h5
              simp only [eJ, this]
          · obtain ⟨pre, d1, d2, d3⟩ := t.dirty
            refine ⟨pre ++ [(x.2, false)], by rw [d1]; simp, fun k' y hk' => ?_, fun p hp => ?_⟩
            · rcases List.mem_append.1 hk' with h | h
              · exact d2 _ _ h
              · have := List.mem_singleton.1 h
                cases this; rfl
            · rcases aaP (k := x.2) (c := cs.take off ++ l ++ cs.drop (off + l.length)) p hp with h | h
              · exact .inl ⟨false, by rw [show p.1 = x.2 from h]; simp⟩
              · rcases d3 p h with ⟨y, h'⟩ | h'
                · exact .inl ⟨y, List.mem_append_left _ h'⟩
                · exact .inr h'
        · cases h
      · cases h
    · cases h
end
end Go.Lift

namespace Go.Lift
open Go
section
variable {P : Program} {c : Ctx P} {rg : Rg} {B : Base} {Q : Exit → Act → World → Prop} {β : Nat → Nat}
structure LF (c : Ctx P) (rg : Rg) (ls : List Nat) (st st' : St) : Prop where
  m : st'.m = st.m
  E1 : ∀ p ∈ st'.E, (∃ l ∈ ls, fB rg.ops l = some p.1 ∧ p.2 = .pv p.1 0) ∨ (p ∈ st.E ∧ ∀ l ∈ ls, ∀ d, fB rg.ops l = some d → qD d p.2 = false)
  P1 : ∀ p ∈ st'.pv, (∃ l ∈ ls, fB rg.ops l = some p.1 ∧ p.2.map CV.val = mi c rg l) ∨ (p ∈ st.pv ∧ ∀ l ∈ ls, fB rg.ops l ≠ some p.1)
  nd : (st.pv.map (·.1)).Nodup → (st'.pv.map (·.1)).Nodup
  E2 : ∀ p ∈ st.E, (∃ l ∈ ls, fB rg.ops l = some p.1) ∨ (∃ l ∈ ls, ∃ d, fB rg.ops l = some d ∧ qD d p.2 = true) ∨ p ∈ st'.E
  P2 : ∀ p ∈ st.pv, (∃ l ∈ ls, fB rg.ops l = some p.1) ∨ p ∈ st'.pv
  dirty : ∃ pre, st'.dirty = pre ++ st.dirty ∧ (∀ k b, (k, b) ∈ pre → b = true ∧ ∃ l ∈ ls, fB rg.ops l = some k) ∧ ∀ l ∈ ls, ∀ d, fB rg.ops l = some d → (d, true) ∈ pre
theorem aj8 {a b : Nat} (h : Nat.beq a b = false) : a ≠ b := fun e => by subst e; simp at h
theorem ake {a b : Nat} (h : a ≠ b) : Nat.beq a b = false := by
  cases hb : Nat.beq a b
  · rfl
  · exact absurd (Nat.eq_of_beq_eq_true hb) h
theorem wQ : ∀ {ls : List Nat} {st st' : St}, adD c rg ls st = some st' → LF c rg ls st st'
  | [], st, st', h => by
    cases h
    exact ⟨rfl, fun p hp => .inr ⟨hp, fun l hl => (by cases hl)⟩, fun p hp => .inr ⟨hp, fun l hl => (by cases hl)⟩, fun h => h, fun p hp => .inr (.inr hp), fun p hp => .inr hp, [], rfl, fun k b h => (by cases h), fun l hl => (by cases hl)⟩
  | l :: r, st, st', h => by
    simp only [adD] at h
    split at h
    · rename_i o ho
      split at h
      · rename_i t d hop hd
        split at h
        · rename_i z hz
          have hdl : fB rg.ops l = some d := by rw [gA ho, hd]
          have hzl : mi c rg l = z := by unfold mi; rw [ho]; simp only [hop, hz, Option.getD_some]
          have h := wQ h
          obtain ⟨pre, d1, d2, d3⟩ := h.dirty
          have hE : ∀ p, p ∈ ((st.lay d (z.map ku)).put (some d) (.pv d 0)).E ↔ p = (d, .pv d 0) ∨ (p ∈ st.E ∧ qD d p.2 = false ∧ p.1 ≠ d) := by
            intro p
            show p ∈ (d, SV.pv d 0) :: (st.E.filter (fun p => !qD d p.2)).filter (fun p => !Nat.beq p.1 d) ↔ _
            simp only [List.mem_cons, List.mem_filter, Bool.not_eq_true']
            constructor
            · rintro (h | ⟨⟨h1, h2⟩, h3⟩)
              · exact .inl h
              · exact .inr ⟨h1, h2, aj8 h3⟩
            · rintro (h | ⟨h1, h2, h3⟩)
              · exact .inl h
              · exact .inr ⟨⟨h1, h2⟩, ake h3⟩
          have hP : ∀ p, p ∈ ((st.lay d (z.map ku)).put (some d) (.pv d 0)).pv ↔ p = (d, z.map ku) ∨ (p ∈ st.pv ∧ p.1 ≠ d) := by
            intro p
            show p ∈ (d, z.map ku) :: st.pv.filter (fun p => !Nat.beq p.1 d) ↔ _
            simp only [List.mem_cons, List.mem_filter, Bool.not_eq_true']
            constructor
            · rintro (h | ⟨h1, h3⟩)
              · exact .inl h
              · exact .inr ⟨h1, aj8 h3⟩
            · rintro (h | ⟨h1, h3⟩)
              · exact .inl h
              · exact .inr ⟨h1, ake h3⟩
          refine ⟨h.m, fun p hp => ?_, fun p hp => ?_, fun hn => ?_, fun p hp => ?_, fun p hp => ?_, pre ++ [(d, true)], ?_, fun k b hk => ?_, fun x hx d' hd' => ?_⟩
          · rcases h.E1 p hp with ⟨x, hx, h1, h2⟩ | ⟨h1, h2⟩
            · exact .inl ⟨x, List.mem_cons_of_mem _ hx, h1, h2⟩
            · rcases (hE p).1 h1 with rfl | ⟨h3, h4, h5⟩
              · exact .inl ⟨l, List.mem_cons_self .., hdl, rfl⟩
              · refine .inr ⟨h3, fun x hx d' hd' => ?_⟩
                rcases List.mem_cons.1 hx with rfl | hx
                · rw [hdl] at hd'; cases hd'; exact h4
                · exact h2 x hx d' hd'
          · rcases h.P1 p hp with ⟨x, hx, h1, h2⟩ | ⟨h1, h2⟩
            · exact .inl ⟨x, List.mem_cons_of_mem _ hx, h1, h2⟩
            · rcases (hP p).1 h1 with rfl | ⟨h3, h4⟩
              · exact .inl ⟨l, List.mem_cons_self .., hdl, by rw [hzl]; exact qC z⟩
              · refine .inr ⟨h3, fun x hx e => ?_⟩
                rcases List.mem_cons.1 hx with rfl | hx
                · rw [hdl] at e; cases e; exact h4 rfl
                · exact h2 x hx e
          · refine h.nd ?_
            show ((d :: (st.pv.filter (fun p => !Nat.beq p.1 d)).map (·.1))).Nodup
            rw [List.nodup_cons]
            refine ⟨fun hm => ?_, hn.sublist ((List.filter_sublist).map _)⟩
            obtain ⟨p, hp, e⟩ := List.mem_map.1 hm
            obtain ⟨_, h2⟩ := List.mem_filter.1 hp
            subst e
            simp at h2
          · by_cases e : p.1 = d
            · exact .inl ⟨l, List.mem_cons_self .., by rw [hdl, e]⟩
            · cases hp2 : qD d p.2
              · rcases h.E2 p ((hE p).2 (.inr ⟨hp, hp2, e⟩)) with ⟨x, hx, h1⟩ | ⟨x, hx, h1⟩ | h1
                · exact .inl ⟨x, List.mem_cons_of_mem _ hx, h1⟩
                · exact .inr (.inl ⟨x, List.mem_cons_of_mem _ hx, h1⟩)
                · exact .inr (.inr h1)
              · exact .inr (.inl ⟨l, List.mem_cons_self .., d, hdl, hp2⟩)
          · by_cases e : p.1 = d
            · exact .inl ⟨l, List.mem_cons_self .., by rw [hdl, e]⟩
            · rcases h.P2 p ((hP p).2 (.inr ⟨hp, e⟩)) with ⟨x, hx, h1⟩ | h1
              · exact .inl ⟨x, List.mem_cons_of_mem _ hx, h1⟩
              · exact .inr h1
          · rw [d1]
            show pre ++ ((d, true) :: st.dirty) = _
            simp
          · rcases List.mem_append.1 hk with hk | hk
            · obtain ⟨h1, x, hx, h2⟩ := d2 k b hk
              exact ⟨h1, x, List.mem_cons_of_mem _ hx, h2⟩
            · have := List.mem_singleton.1 hk
              cases this
              exact ⟨rfl, l, List.mem_cons_self .., hdl⟩
          · rcases List.mem_cons.1 hx with rfl | hx
            · rw [hdl] at hd'; cases hd'
              exact List.mem_append_right _ (List.mem_singleton.2 rfl)
            · exact List.mem_append_left _ (d3 x hx d' hd')
        · cases h
      · cases h
    · cases h
def adS (ops : List Oper) : List (Nat × Nat) → Nat → Option Nat
  | [], _ => none
  | (e, b) :: r, j => if fB ops e = some j then some b else adS ops r j
theorem tQ {ops : List Oper} : ∀ {Ls : List (Nat × Nat)} {j b : Nat}, adS ops Ls j = some b → ∃ e, (e, b) ∈ Ls ∧ fB ops e = some j
  | (e, b') :: r, j, b, h => by
    simp only [adS] at h
    split at h
    · rename_i he; cases h; exact ⟨e, List.mem_cons_self .., he⟩
    · obtain ⟨e', h1, h2⟩ := tQ h; exact ⟨e', List.mem_cons_of_mem _ h1, h2⟩
theorem aaQ {ops : List Oper} : ∀ {Ls : List (Nat × Nat)} {j : Nat}, adS ops Ls j = none → ∀ x ∈ Ls, fB ops x.1 ≠ some j
  | (e, b') :: r, j, h, x, hx => by
    simp only [adS] at h
    split at h
    · cases h
    · rename_i he
      rcases List.mem_cons.1 hx with rfl | hx
      · exact he
      · exact aaQ h x hx
def bet (β : Nat → Nat) (ops : List Oper) (Ls : List (Nat × Nat)) : Nat → Nat := fun j => (adS ops Ls j).getD (β j)
abbrev pvO (β : Nat → Nat) (pv : List (Nat × List CV)) : List (Nat × List Value) := pv.map fun p => (β p.1, p.2.map CV.val)
structure SI (P : Program) (c : Ctx P) (β : Nat → Nat) (rg : Rg) (st0 : St) (g : Nat → Option Value) (Dp got : List Nat) (hcs : Seen) (st : St) : Prop where
  inv : Inv P c.n β rg g Dp got hcs st
  comp : ∀ i, i < rg.ops.length → memN rg.E i = true ∨ i ∈ got ∨ nG (rg.avp i) Dp = false
  pv : st.pv = st0.pv
  dirty : st.dirty = st0.dirty
  env0 : ∀ p ∈ st0.E, p.1 ∈ uC rg.ops ∨ p ∈ st.E
  free : ∀ p ∈ st.E, p.1 ∉ rg.lds
  gotE : ∀ i ∈ got, i ∉ rg.E
structure DI (rg : Rg) (g : Nat → Option Value) (D Dp : List Nat) (Ls : List (Nat × Nat)) (Ws : Lst) : Prop where
  mem : ∀ e, e ∈ D ↔ e ∈ Dp ∨ (∃ b, (e, b) ∈ Ls) ∨ ∃ w ∈ Ws, w.1 = e
  dp : ∀ e ∈ Dp, e ∈ rg.pubs
  ls : ∀ x ∈ Ls, x.1 ∈ rg.lays
  down : ∀ x ∈ D, ∀ y ∈ rg.av x, y ∈ D
  gl : ∀ x ∈ Ls, ∀ d, fB rg.ops x.1 = some d → g d = some (.pointer (some ⟨x.2, 0, none⟩))
  pre : ∀ k, ∃ q, zW rg k = (fil k Ws).map (·.1) ++ q
structure PI (c : Ctx P) (β : Nat → Nat) (rg : Rg) (Ws : Lst) (Ls : List (Nat × Nat)) (pv : List (Nat × List CV)) (pvR : List (Nat × List Value)) : Prop where
  keys : pvR.map (·.1) = Ls.map (·.2) ++ pv.map (fun p => β p.1)
  old : ∀ p ∈ pv, p.1 ∉ rg.lds → (β p.1, eJ Ws p.1 (p.2.map CV.val)) ∈ pvR
  new : ∀ x ∈ Ls, ∀ d, fB rg.ops x.1 = some d → (x.2, eJ Ws d (mi c rg x.1)) ∈ pvR
theorem uW {α γ : Type} {f : α → γ} : ∀ {l : List α}, (l.map f).Nodup → ∀ {x y : α}, x ∈ l → y ∈ l → f x = f y → x = y
  | [], _, x, y, hx, _, _ => by cases hx
  | a :: l, hn, x, y, hx, hy, e => by
    obtain ⟨h1, h2⟩ := List.nodup_cons.1 hn
    rcases List.mem_cons.1 hx with e1 | h3
    · rcases List.mem_cons.1 hy with e2 | h4
      · rw [e1, e2]
      · exact absurd (List.mem_map.2 ⟨y, h4, by rw [← e, e1]⟩) h1
    · rcases List.mem_cons.1 hy with e2 | h4
      · exact absurd (List.mem_map.2 ⟨x, h3, by rw [e, e2]⟩) h1
      · exact uW h2 h3 h4 e
theorem afV {α γ δ : Type} {f : α → γ} {k : α → δ} : ∀ {l : List α}, (l.map k).Nodup → (∀ x ∈ l, ∀ y ∈ l, k x ≠ k y → f x ≠ f y) → (l.map f).Nodup
  | [], _, _ => List.nodup_nil
  | a :: l, hn, h => by
    obtain ⟨h1, h2⟩ := List.nodup_cons.1 hn
    refine List.nodup_cons.2 ⟨fun hm => ?_, afV h2 fun x hx y hy => h x (List.mem_cons_of_mem _ hx) y (List.mem_cons_of_mem _ hy)⟩
    obtain ⟨y, hy, e⟩ := List.mem_map.1 hm
    refine h a (List.mem_cons_self ..) y (List.mem_cons_of_mem _ hy) (fun e' => h1 (List.mem_map.2 ⟨y, hy, e'.symm⟩)) e.symm
theorem amn (F : RgF rg c.T c.n) {st0 st stL stT : St} {g : Nat → Option Value} {D Dp got : List Nat} {hcs : Seen} {Ls : List (Nat × Nat)} {Ws : Lst} {pvR : List (Nat × List Value)} (hs : SI P c β rg st0 g Dp got hcs st) (hd : DI rg g D Dp Ls Ws) (hw : KW c rg st.E got Ws) (hp : PI c β rg Ws Ls st.pv pvR) (hnK : (st0.pv.map (·.1)).Nodup)
    (hnR : (pvR.map (·.1)).Nodup) (hall : ∀ e ∈ rg.E, e ∈ D) (hl : adD c rg rg.lays st = some stL) (hta : ahG c rg st.E rg.tks stL = some stT) : TI β (bet β rg.ops Ls) rg g st0 stT pvR ∧ stT.m = st.m := by
  have h := wQ hl
  have ndK1 : (stL.pv.map (·.1)).Nodup := h.nd (by rw [hs.pv]; exact hnK)
  obtain ⟨TW, ta⟩ := aa2 ndK1 hta
  have hin : ∀ l ∈ rg.lays, ∃ b, (l, b) ∈ Ls := by
    intro l hl
    obtain ⟨_, _, _, _, _, _, _, _, _, _, h7, h8, h9, _⟩ := F.lay l hl
    rcases (hd.mem l).1 (hall l h7) with h1 | h1 | ⟨w, h1, rfl⟩
    · exact absurd (hd.dp l h1) h8
    · exact h1
    · exact absurd (List.mem_map.2 ⟨_, hw.key w h1, rfl⟩) h9
  have htl : ∀ x ∈ rg.tks, ∃ w ∈ Ws, w.1 = x.1 := by
    intro x hx
    have hxt : x.1 ∈ rg.tail := List.mem_map.2 ⟨x, hx, rfl⟩
    rcases (hd.mem x.1).1 (hall x.1 (F.tailE _ hxt)) with h1 | ⟨b, h1⟩ | h1
    · exact absurd hxt (F.dis _ (hd.dp _ h1))
    · obtain ⟨_, _, _, _, _, _, _, _, _, _, _, _, h9, _⟩ := F.lay x.1 (hd.ls (x.1, b) h1)
      exact absurd hxt h9
    · exact h1
  have uniq : ∀ {x y : Nat × Nat}, x ∈ rg.tks → y ∈ rg.tks → x.1 = y.1 → x = y := fun hx hy e => uW F.ndT hx hy e
  have same : ∀ k cs, eJ TW k cs = eJ Ws k cs := by
    intro k cs
    rw [qh (Ws := TW), qh (Ws := Ws)]
    congr 1
    refine adY (F := KV c rg st.E) ?_ (fun w hw' => ta.kv w (List.mem_filter.1 hw').1) fun w hw' => hw.kv w (List.mem_filter.1 hw').1
    obtain ⟨q, hq⟩ := hd.pre k
    have e1 : (fil k TW).map (·.1) = zW rg k := by
      unfold fil zW
      rw [← ta.ts, List.filter_map, List.map_map]
      rfl
    have hnT : (zW rg k).Nodup := F.ndT.sublist ((List.filter_sublist).map _)
    rw [e1, hq]
    have : q = [] := by
      cases q with
      | nil => rfl
      | cons e q =>
        exfalso
        have hem : e ∈ zW rg k := by rw [hq]; simp
        obtain ⟨x, hx, rfl⟩ := List.mem_map.1 hem
        obtain ⟨hx1, hx2⟩ := List.mem_filter.1 hx
        obtain ⟨w, hw1, hw2⟩ := htl x hx1
        have hwx := uniq (hw.key w hw1) hx1 hw2
        have hwk : Nat.beq w.2.1 k = true := by rw [show w.2.1 = x.2 from congrArg Prod.snd hwx]; exact hx2
        rw [hq, List.nodup_append] at hnT
        exact hnT.2.2 x.1 (List.mem_map.2 ⟨w, List.mem_filter.2 ⟨hw1, hwk⟩, hw2⟩) x.1 (List.mem_cons_self ..) rfl
    rw [this, List.append_nil]
  have new : ∀ {l d : Nat}, l ∈ rg.lays → fB rg.ops l = some d → ∃ b, (l, b) ∈ Ls ∧ bet β rg.ops Ls d = b := by
    intro l d hl hdl
    obtain ⟨b0, hb0⟩ := hin l hl
    cases hf : adS rg.ops Ls d with
    | none => exact absurd hdl (aaQ hf _ hb0)
    | some b =>
      obtain ⟨e, h1, h2⟩ := tQ hf
      obtain ⟨o1, _, d1, _, a1, _, a3, _⟩ := F.lay l hl
      obtain ⟨o2, _, d2, _, a1', _, a3', _⟩ := F.lay e (hd.ls _ h1)
      rw [gA a1] at hdl
      rw [gA a1'] at h2
      have := uB F a1' h2 a1 hdl
      subst this
      exact ⟨b, h1, by unfold bet; rw [hf]; rfl⟩
  have old : ∀ {j : Nat}, (∀ l ∈ rg.lays, fB rg.ops l ≠ some j) → bet β rg.ops Ls j = β j := by
    intro j hj
    unfold bet
    cases hf : adS rg.ops Ls j with
    | none => rfl
    | some b =>
      obtain ⟨e, h1, h2⟩ := tQ hf
      exact absurd h2 (hj e (hd.ls _ h1))
  have nld : ∀ {j : Nat}, (∀ l ∈ rg.lays, fB rg.ops l ≠ some j) → j ∉ rg.lds := fun hj hm => by
    obtain ⟨l, h1, h2⟩ := F.ldk _ hm
    exact hj l h1 h2
  have ndK : (stT.pv.map (·.1)).Nodup := by rw [ta.keys]; exact ndK1
  have hnR' := hnR
  rw [hp.keys, List.nodup_append] at hnR'
  obtain ⟨n1, n2, n3⟩ := hnR'
  have inL : ∀ {l b : Nat}, (l, b) ∈ Ls → b ∈ Ls.map (·.2) := fun h => List.mem_map.2 ⟨_, h, rfl⟩
  have inO : ∀ {q : Nat × List CV}, q ∈ st.pv → β q.1 ∈ st.pv.map (fun p => β p.1) := fun h => List.mem_map.2 ⟨_, h, rfl⟩
  have src : ∀ p ∈ stT.pv, ∃ p0 ∈ stL.pv, p0.1 = p.1 ∧ p.2.map CV.val = eJ Ws p.1 (p0.2.map CV.val) := by
    intro p hp'
    obtain ⟨p0, h1, h2, h3⟩ := ta.pv p hp'
    exact ⟨p0, h1, h2, by rw [h3, same]⟩
  refine ⟨⟨fun p hp' => ?_, fun z hz => ?_, ?_, ndK, ?_⟩, by rw [ta.m, h.m]⟩
  · rw [ta.E] at hp'
    rcases h.E1 p hp' with ⟨l, h1, h2, h3⟩ | ⟨h1, h2⟩
    · obtain ⟨b, b1, b2⟩ := new h1 h2
      rw [hd.gl _ b1 _ h2, h3]
      show some (Value.pointer (some ⟨b, 0, none⟩)) = some (Value.pointer (some ⟨bet β rg.ops Ls p.1, 0, none⟩))
      rw [b2]
    · rw [hs.inv.env p h1]
      cases hp2 : p.2 with
      | pv k off =>
        have : bet β rg.ops Ls k = β k := old fun l hl e => by
          have := h2 l hl k e
          rw [hp2] at this
          simp [qD] at this
        simp [SV.val, this]
      | _ => rfl
  · obtain ⟨p, hp', e⟩ := List.mem_map.1 hz
    subst e
    obtain ⟨p0, q1, q2, q3⟩ := src p hp'
    show (bet β rg.ops Ls p.1, p.2.map CV.val) ∈ pvR
    rw [q3]
    rcases h.P1 p0 q1 with ⟨l, h1, h2, h3⟩ | ⟨h1, h2⟩
    · rw [q2] at h2
      obtain ⟨b, b1, b2⟩ := new h1 h2
      rw [b2, h3]
      exact hp.new _ b1 _ h2
    · rw [q2] at h2
      rw [old h2, ← q2]
      exact hp.old p0 h1 (by rw [q2]; exact nld h2)
  · show ((stT.pv.map fun p => (bet β rg.ops Ls p.1, p.2.map CV.val)).map (·.1)).Nodup
    rw [List.map_map]
    refine afV (k := (·.1)) ndK fun p hp1 q hq1 hne => ?_
    show bet β rg.ops Ls p.1 ≠ bet β rg.ops Ls q.1
    obtain ⟨p0, pq1, pq2, _⟩ := src p hp1
    obtain ⟨q0, qq1, qq2, _⟩ := src q hq1
    rw [← pq2, ← qq2] at hne ⊢
    rcases h.P1 p0 pq1 with ⟨l, h1, h2, _⟩ | ⟨h1, h2⟩
    · obtain ⟨b, b1, b2⟩ := new h1 h2
      rcases h.P1 q0 qq1 with ⟨l', h1', h2', _⟩ | ⟨h1', h2'⟩
      · obtain ⟨b', b1', b2'⟩ := new h1' h2'
        rw [b2, b2']
        intro e
        subst e
        have := uW n1 b1 b1' rfl
        cases this
        rw [h2] at h2'
        exact hne (Option.some.inj h2')
      · rw [b2, old h2']
        exact n3 _ (inL b1) _ (inO h1')
    · rcases h.P1 q0 qq1 with ⟨l', h1', h2', _⟩ | ⟨h1', h2'⟩
      · obtain ⟨b', b1', b2'⟩ := new h1' h2'
        rw [b2', old h2]
        exact fun e => n3 _ (inL b1') _ (inO h1) e.symm
      · rw [old h2, old h2']
        intro e
        exact hne (by rw [uW n2 h1 h1' e])
  · obtain ⟨pre, d1, d2, d3⟩ := h.dirty
    obtain ⟨pre2, f1, f2, f3⟩ := ta.dirty
    refine ⟨pre2 ++ pre, ⟨by rw [f1, d1, hs.dirty, List.append_assoc], fun k hk => ?_, fun k hk => ?_, fun p hp' => ?_, fun p hp' => ?_⟩⟩
    · rcases List.mem_append.1 hk with hk | hk
      · cases f2 _ _ hk
      · obtain ⟨_, l, hl, h2⟩ := d2 k true hk
        obtain ⟨o, _, d, _, a1, _, a3, _⟩ := F.lay l hl
        rw [gA a1] at h2
        exact tp a1 h2
    · refine old fun l hl e => hk (List.mem_append_right _ (d3 l hl k e))
    · rw [← hs.pv] at hp'
      rcases h.P2 p hp' with ⟨l, hl, h2⟩ | h2
      · exact .inl ⟨true, List.mem_append_right _ (d3 l hl _ h2)⟩
      · rcases f3 p h2 with ⟨x, h3⟩ | h3
        · exact .inl ⟨x, List.mem_append_left _ h3⟩
        · exact .inr h3
    · rcases hs.env0 p hp' with h1 | h1
      · exact .inl h1
      · rcases h.E2 p h1 with ⟨l, hl, h2⟩ | ⟨l, hl, d, h2, h3⟩ | h2
        · obtain ⟨o, _, d, _, a1, _, a3, _⟩ := F.lay l hl
          rw [gA a1] at h2
          exact .inl (tp a1 h2)
        · exact .inr (.inl ⟨d, h3, List.mem_append_right _ (d3 l hl d h2)⟩)
        · exact .inr (.inr (by rw [ta.E]; exact h2))
end
end Go.Lift

namespace Go.Lift
open Go
section
variable {P : Program} {c : Ctx P} {rg : Rg} {B : Base} {Q : Exit → Act → World → Prop} {β : Nat → Nat}
def ordT (c : Ctx P) (rg : Rg) (K : St → Prop) : Nat → List Nat → List Nat → Seen → St → Prop
  | 0, _, _, _, st => finS c rg st K
  | k + 1, Dp, got, hcs, st => ajn (fun e => effS c rg Dp e got hcs st fun hcs st => stg c rg K k (e :: Dp) got hcs st) (wW rg Dp rg.pubs)
theorem al8 {K : St → Prop} {k : Nat} {Dp got : List Nat} {hcs : Seen} {st : St} : stg c rg K k Dp got hcs st = clo c rg Dp (List.range rg.ops.length) got hcs st fun got hcs st => ah9 c rg Dp st fun st => ordT c rg K k Dp got hcs st := by
  cases k <;> rfl
theorem agR {b : Bool} {st : St} {k : St → Prop} (h : ame b st k) : ∀ m', MExt st.m m' → (b = false → m' = st.m) → k { st with m := m' } := by
  intro m' e hb
  cases b with
  | true => exact h m' e
  | false => have := hb rfl; subst this; exact h
theorem ag9 {Dp : List Nat} {st : St} {k : St → Prop} (h : ah9 c rg Dp st k) : kR c rg Dp st rg.tks = true ∧ ∀ m', MExt st.m m' → (aev rg Dp rg.lays = false → m' = st.m) → k { st with m := m' } := by
  unfold ah9 at h
  split at h
  · rename_i hc; exact ⟨hc, agR h⟩
  · exact h.elim
theorem acC {Dp : List Nat} {st : St} {m : Heap} : ∀ {l : List (Nat × Nat)}, kR c rg Dp { st with m := m } l = kR c rg Dp st l
  | [] => rfl
  | x :: r => by
    show (_ && kR c rg Dp { st with m := m } r) = (_ && kR c rg Dp st r)
    rw [acC (l := r)]
    rfl
theorem zc {Dp : List Nat} {st : St} : ∀ {l : List (Nat × Nat)}, kR c rg Dp st l = true → ∀ x ∈ l, nG (rg.avp x.1) Dp = true → ah3 c rg st x.1 x.2 = true
  | [], _, x, hx => by cases hx
  | y :: r, h, x, hx => by
    intro hA
    simp only [kR, Bool.and_eq_true, Bool.or_eq_true, Bool.not_eq_true'] at h
    rcases List.mem_cons.1 hx with rfl | hx
    · rcases h.1 with h1 | h1
      · rw [hA] at h1; cases h1
      · exact h1
    · exact zc h.2 x hx hA
theorem adW {f : Nat → Prop} : ∀ {l : List Nat} {e : Nat}, ajn f l → e ∈ l → f e
  | [], e, _, he => by cases he
  | [x], e, h, he => by
    have := List.mem_singleton.1 he
    subst this
    exact h
  | x :: y :: r, e, h, he => by
    rcases List.mem_cons.1 he with rfl | he
    · exact h.1
    · exact adW h.2 he
theorem ui {Dp : List Nat} : ∀ {l : List Nat} {e : Nat}, e ∈ l → e ∉ Dp → (∀ x ∈ rg.av e, x ∈ rg.pubs → x ∈ Dp) → e ∈ wW rg Dp l
  | [], e, he, _, _ => by cases he
  | x :: r, e, he, h1, h2 => by
    simp only [wW]
    rcases List.mem_cons.1 he with rfl | he
    · have e1 : memN Dp e = false := by rw [← Bool.not_eq_true, i7]; exact h1
      have e2 : nG (rg.avp e) Dp = true := by
        rw [wR]
        intro x hx
        obtain ⟨h3, h4⟩ := List.mem_filter.1 hx
        exact h2 x h3 (i7.1 h4)
      rw [e1, e2]
      exact List.mem_cons_self ..
    · split
      · exact List.mem_cons_of_mem _ (ui he h1 h2)
      · exact ui he h1 h2
theorem aax {i : Nat} : ∀ {Dp : List Nat}, mL rg Dp i = true ↔ ∃ e ∈ Dp, i ∈ rg.an e
  | [] => by simp [mL]
  | e :: r => by simp [mL, aax (Dp := r), i7]
theorem alH {i : Nat} {Dp : List Nat} : mL rg Dp i = false ↔ ∀ e ∈ Dp, i ∉ rg.an e := by
  rw [← Bool.not_eq_true, aax]
  exact ⟨fun h e he hm => h ⟨e, he, hm⟩, fun h ⟨e, he, hm⟩ => h e he hm⟩
theorem af3 {Dp : List Nat} {x : Nat × (Heap → Prop)} : ∀ {l : Seen}, x ∈ stay rg Dp l ↔ x ∈ l ∧ mL rg Dp x.1 = false
  | [] => by simp [stay]
  | y :: r => by
    simp only [stay]
    cases hp : mL rg Dp y.1
    · simp only [List.mem_cons, af3 (l := r)]
      constructor
      · rintro (rfl | h)
        · exact ⟨.inl rfl, hp⟩
        · exact ⟨.inr h.1, h.2⟩
      · rintro ⟨rfl | h1, h2⟩
        · exact .inl rfl
        · exact .inr ⟨h1, h2⟩
    · simp only [List.mem_cons, af3 (l := r)]
      constructor
      · rintro ⟨h1, h2⟩; exact ⟨.inr h1, h2⟩
      · rintro ⟨rfl | h1, h2⟩
        · rw [hp] at h2; cases h2
        · exact ⟨h1, h2⟩
theorem x9 {m : Heap} {p : Prop} : ∀ {l : Seen}, afP m l p → (∀ x ∈ l, x.2 m) ∧ p
  | [], h => ⟨fun x hx => (by cases hx), h⟩
  | y :: r, h => by
    obtain ⟨h1, h2⟩ := x9 h.2
    refine ⟨fun x hx => ?_, h2⟩
    rcases List.mem_cons.1 hx with rfl | hx
    · exact h.1
    · exact h1 x hx
theorem aiM {Dp : List Nat} : ∀ {l : List Nat}, aev rg Dp l = false → ∀ x ∈ l, mL rg Dp x = true
  | [], _, x, hx => by cases hx
  | y :: r, h, x, hx => by
    simp only [aev, Bool.or_eq_false_iff, Bool.not_eq_false'] at h
    rcases List.mem_cons.1 hx with rfl | hx
    · exact h.1
    · exact aiM h.2 x hx
theorem Eff.nd {n : Nat} {L : Frm} {h : Hp} {o : Oper} {K : Value → Hp → Prop} (he : Eff P n B L h o K) : Eff P n B L h o (fun v h' => K v h' ∧ (h'.pv.map (·.1)).Nodup) :=
  fun a w ha hw next Q hn => he a w ha hw next Q fun v w' h' hs hk => hn v w' h' hs ⟨hk, hs.rel.nodup⟩
theorem ah7 {T : TTab} {n : Nat} (F : RgF rg T n) {e : Nat} (h : e ∈ rg.pubs) : memN rg.lays e = false := by
  rw [← Bool.not_eq_true, i7]
  intro hm
  obtain ⟨_, _, _, _, _, _, _, _, _, _, _, h2, _⟩ := F.lay e hm
  exact h2 h
theorem aiq {T : TTab} {n : Nat} (F : RgF rg T n) {g : Nat → Option Value} {D Dp : List Nat} {Ls : List (Nat × Nat)} {Ws : Lst} (hd : DI rg g D Dp Ls Ws) (hk : ∀ w ∈ Ws, (w.1, w.2.1) ∈ rg.tks) {x : Nat} (hx : x ∈ rg.pubs) (hD : x ∈ D) : x ∈ Dp := by
  rcases (hd.mem x).1 hD with h | ⟨b, h⟩ | ⟨w, h, rfl⟩
  · exact h
  · have := ah7 F hx
    rw [i7.2 (hd.ls (x, b) h)] at this
    cases this
  · exact absurd (List.mem_map.2 ⟨_, hk w h, rfl⟩) (F.dis _ hx)
theorem ahB {T : TTab} {n : Nat} (F : RgF rg T n) {g : Nat → Option Value} {D Dp : List Nat} {Ls : List (Nat × Nat)} {Ws : Lst} (hd : DI rg g D Dp Ls Ws) (hk : ∀ w ∈ Ws, (w.1, w.2.1) ∈ rg.tks) {i : Nat} (hA : ∀ x ∈ rg.av i, x ∈ D) : nG (rg.avp i) Dp = true := by
  rw [wR]
  intro x hx
  obtain ⟨h1, h2⟩ := List.mem_filter.1 hx
  exact aiq F hd hk (i7.1 h2) (hA x h1)
theorem ahQ {Ls : List (Nat × Nat)} {Ws : Lst} {pv : List (Nat × List CV)} {pvR : List (Nat × List Value)} (hp : PI c β rg Ws Ls pv pvR) (hk : ∀ w ∈ Ws, (w.1, w.2.1) ∈ rg.tks) {i : Nat} (hi : ∀ w ∈ Ws, i ∉ rg.an w.1) : ∀ x ∈ pvO β (rg.pvq pv i), x ∈ pvR := by
  intro x hx
  obtain ⟨p, h1, rfl⟩ := List.mem_map.1 hx
  obtain ⟨h2, h3⟩ := List.mem_filter.1 h1
  simp only [Bool.and_eq_true, Bool.not_eq_true', List.all_eq_true, Bool.or_eq_true] at h3
  have := hp.old p h2 (fun hm => by rw [i7.2 hm] at h3; cases h3.1)
  rw [yS] at this
  · exact this
  · intro w hw e
    rcases h3.2 _ (hk w hw) with h4 | h4
    · rw [e] at h4; simp at h4
    · exact hi w hw (i7.1 h4)
theorem aaS {K : St → Prop} {st0 : St} {k : Nat} (hT : TTab.Ok P c.T) (F : RgF rg c.T c.n) (hn0 : ((pvO β st0.pv).map (·.1)).Nodup)
    (ih : ∀ {D Dp : List Nat} {Ls : List (Nat × Nat)} {Ws : Lst} {kp : Nat} {got : List Nat} {hcs : Seen} {st : St} {g : Nat → Option Value} {pvR : List (Nat × List Value)}, SI P c β rg st0 g Dp got hcs st → DI rg g D Dp Ls Ws → KW c rg st.E got Ws → PI c β rg Ws Ls st.pv pvR → (pvR.map (·.1)).Nodup → cntN rg.E D = k → cntN rg.pubs Dp = kp → kR c rg Dp st rg.tks = true →
      (∀ m', MExt st.m m' → (aev rg Dp rg.lays = false → m' = st.m) → ordT c rg K kp Dp got hcs { st with m := m' }) → Stg P c.n B Q rg.ops rg.E rg.A rg.G k D g ⟨st.m, pvR⟩)
    {D Dp : List Nat} {Ls : List (Nat × Nat)} {Ws : Lst} {kp : Nat} {got : List Nat} {hcs : Seen} {st : St} {g : Nat → Option Value} {pvR : List (Nat × List Value)} (h : stg c rg K kp Dp got hcs st) (hi : Inv P c.n β rg g Dp got hcs st) (hge : ∀ i ∈ got, i ∉ rg.E) (hpv : st.pv = st0.pv) (hdi : st.dirty = st0.dirty)
    (he0 : ∀ p ∈ st0.E, p.1 ∈ uC rg.ops ∨ p ∈ st.E) (hfr : ∀ p ∈ st.E, p.1 ∉ rg.lds) (hd : DI rg g D Dp Ls Ws) (hw : KW c rg st.E got Ws) (hp : PI c β rg Ws Ls st.pv pvR) (hnR : (pvR.map (·.1)).Nodup) (hk : cntN rg.E D = k) (hkp : cntN rg.pubs Dp = kp) :
    ∃ g', (∀ t, g' t ≠ g t → ∃ (j : Nat) (o : Oper), rg.ops[j]? = some o ∧ o.dst = some t ∧ memN rg.E j = false ∧ j ∉ got ∧ nG (rg.avp j) Dp = true) ∧ Stg P c.n B Q rg.ops rg.E rg.A rg.G k D g' ⟨st.m, pvR⟩ := by
  rw [al8] at h
  refine ail hT _ (by rw [hpv]; exact hn0) (fun i hl => ?_) h hi hw fun got' hcs' st' g' h1 h2 h3 h4 h4' h5 h6 h7 => ⟨g', h3, ?_⟩
  · obtain ⟨_, _, _, _, _, _, _, _, _, _, h7, _⟩ := F.lay i (i7.1 hl)
    exact i7.2 h7
  · obtain ⟨hc, hm⟩ := ag9 h1
    rw [← h6.m]
    refine ih (st := st') (kp := kp) ⟨h2, fun i hi => h5 i (List.mem_range.2 hi), h6.pv.trans hpv, h6.dirty.trans hdi, fun p hp => ?_, fun p hp => ?_, fun i hi hE => ?_⟩ ⟨hd.mem, hd.dp, hd.ls, hd.down, fun x hx d hxd => ?_, hd.pre⟩ h7 (by rw [h6.pv]; exact hp) hnR hk hkp hc hm
    · rcases he0 p hp with h | h
      · exact .inl h
      · exact (h6.env p h).symm
    · rcases h6.key p hp with ⟨q, hq, e⟩ | ⟨j, o, j1, j2, j3⟩
      · rw [← e]; exact hfr q hq
      · rcases F.dst j o j1 with h | h
        · rw [i7.2 h] at j3; cases j3
        · exact h _ j2
    · rcases h4' i hi with h | h
      · exact hge i h hE
      · rw [i7.2 hE] at h; cases h
    · have hgl := hd.gl x hx d hxd
      by_cases e : g' d = g d
      · rw [e]; exact hgl
      · obtain ⟨j, o, j1, j2, j3, _⟩ := h3 d e
        obtain ⟨o2, _, d2, _, a1, _, a3, _, _, _, a7, _⟩ := F.lay x.1 (hd.ls x hx)
        rw [gA a1] at hxd
        have := uB F j1 j2 a1 hxd
        subst this
        rw [i7.2 a7] at j3; cases j3
theorem aka (F : RgF rg c.T c.n) {st0 st : St} {D Dp got : List Nat} {Ls : List (Nat × Nat)} {Ws : Lst} {hcs : Seen} {g : Nat → Option Value} {pvR : List (Nat × List Value)} (hs : SI P c β rg st0 g Dp got hcs st) (hd : DI rg g D Dp Ls Ws) (hw : KW c rg st.E got Ws) (hp : PI c β rg Ws Ls st.pv pvR) {i : Nat} {o : Oper} (ho : rg.ops[i]? = some o) (hE : i ∉ rg.E) (hA : ∀ x ∈ rg.av i, x ∈ D) (hG : ∀ e ∈ D, i ∉ rg.an e) :
    QOp P c.n rg.ops.toArray g ⟨st.m, pvR⟩ o := by
  have h1 := ahB F hd hw.key hA
  have hil : i < rg.ops.length := (List.getElem?_eq_some_iff.1 ho).1
  have hin : i ∈ got := by
    rcases hs.comp i hil with h | h | h
    · exact absurd (i7.1 h) hE
    · exact h
    · rw [h1] at h; cases h
  refine hs.inv.obs i hin (alH.2 fun e he => hG e ((hd.mem e).2 (.inl he))) o ho st.m pvR ?_ fun R hR => hs.inv.hold _ hR
  exact ahQ hp hw.key fun w hw' => hG w.1 ((hd.mem _).2 (.inr (.inr ⟨w, hw', rfl⟩)))
theorem aiF {K : St → Prop} {st0 : St} (hT : TTab.Ok P c.T) (F : RgF rg c.T c.n) (hK : ∀ β' st' a w, Real c.n B β' st' a w → ExtS (uC rg.ops) β st0 β' st' → K st' → Q .normal a w) (hnK : (st0.pv.map (·.1)).Nodup) (hn0 : ((pvO β st0.pv).map (·.1)).Nodup) :
    ∀ (k : Nat) {D Dp : List Nat} {Ls : List (Nat × Nat)} {Ws : Lst} {kp : Nat} {got : List Nat} {hcs : Seen} {st : St} {g : Nat → Option Value} {pvR : List (Nat × List Value)}, SI P c β rg st0 g Dp got hcs st → DI rg g D Dp Ls Ws → KW c rg st.E got Ws → PI c β rg Ws Ls st.pv pvR → (pvR.map (·.1)).Nodup → cntN rg.E D = k → cntN rg.pubs Dp = kp → kR c rg Dp st rg.tks = true →
      (∀ m', MExt st.m m' → (aev rg Dp rg.lays = false → m' = st.m) → ordT c rg K kp Dp got hcs { st with m := m' }) → Stg P c.n B Q rg.ops rg.E rg.A rg.G k D g ⟨st.m, pvR⟩ := by
  have hE : rg.E.Nodup := (fc F.edges).2.2.2.2.2.2
  have hlt := (fc F.edges).2.2.2.2.2.1
  intro k
  induction k with
  | zero =>
    intro D Dp Ls Ws kp got hcs st g pvR hs hd hw hp hnR hk hkp hchk H
    have hall := agf hk
    have hkp0 : kp = 0 := by
      rw [← hkp]
      exact ak8 fun e he => aiq F hd hw.key he (hall e (F.pubE e he))
    subst hkp0
    have h : finS c rg st K := H st.m (MExt.refl _) fun _ => rfl
    refine ⟨fun i o ho hiE hA hG => aka F hs hd hw hp ho hiE hA hG, hall, fun a w h1 h2 h3 h4 => ?_⟩
    unfold finS at h
    split at h
    · rename_i stL hl
      split at h
      · rename_i stT hta
        obtain ⟨ht, hm⟩ := amn F hs hd hw hp hnK hnR hall hl hta
        exact hK _ stT a w ⟨⟨h1, h2, fun p hp => h3 _ _ (ht.env p hp)⟩, InW.sub (by rw [hm]; exact h4) ht.sub ht.ndC, ht.ndK⟩ ht.ext h
      · exact h.elim
    · exact h.elim
  | succ k ih =>
    intro D Dp Ls Ws kp got hcs st g pvR hs hd hw hp hnR hk hkp hchk H
    have H0 := H st.m (MExt.refl _) fun _ => rfl
    refine ⟨fun i o ho hiE hA hG => aka F hs hd hw hp ho hiE hA hG, fun e o ho heE heD hA => ?_⟩
    have hcnt := ab4 hE heE heD
    have heP : ∀ x ∈ D, x ∈ rg.E → e ∉ rg.an x := by
      intro x hx hxE hex
      have := am0 F x (rg.ops[x]'(hlt x hxE)) (List.getElem?_eq_getElem (hlt x hxE)) e hex heE
      exact heD (hd.down x hx e this)
    have hWE : ∀ w ∈ Ws, w.1 ∈ D ∧ w.1 ∈ rg.E := fun w hw' => ⟨(hd.mem _).2 (.inr (.inr ⟨w, hw', rfl⟩)), F.tailE _ (List.mem_map.2 ⟨_, hw.key w hw', rfl⟩)⟩
    have heW : ∀ w ∈ Ws, e ∉ rg.an w.1 := fun w hw' => heP w.1 (hWE w hw').1 (hWE w hw').2
    have down' : ∀ x ∈ e :: D, ∀ y ∈ rg.av x, y ∈ e :: D := by
      intro x hx y hy
      rcases List.mem_cons.1 hx with rfl | hx
      · exact List.mem_cons_of_mem _ (hA y hy)
      · exact List.mem_cons_of_mem _ (hd.down x hx y hy)
    rcases F.sub e heE with hpub | hlay | htl
    · -- for all to see
      have heDp : e ∉ Dp := fun h => heD ((hd.mem e).2 (.inl h))
      obtain ⟨kp', rfl⟩ : ∃ kp', kp = kp' + 1 := ⟨kp - 1, by have := akY hpub heDp; omega⟩
      have hcp := ab4 F.ndP hpub heDp
      have hnl := ah7 F hpub
      have hdl : ∀ d, o.dst = some d → d ∉ rg.lds := by
        rcases F.dst e o ho with h | h
        · rw [i7.2 h] at hnl; cases hnl
        · exact h
      have hrd : e ∈ wW rg Dp rg.pubs := ui hpub heDp fun x hx hxp => aiq F hd hw.key hxp (hA x hx)
      have h1 := adW (f := fun e => effS c rg Dp e got hcs { st with m := st.m } fun hcs st => stg c rg K kp' (e :: Dp) got hcs st) H0 hrd
      simp only [effS, ho] at h1
      split at h1
      · exact h1.elim
      rename_i hb
      simp only [Bool.and_eq_true, Bool.not_eq_true'] at hb
      obtain ⟨⟨⟨hod, hput⟩, hlay⟩, hpt⟩ := hb
      have hput := xg hput
      have after : ∀ {v : Value} {m3 : Heap} {hcs1 : Seen} {s : SV}, (o.dst = none ∨ v = s.val β) → (∀ x ∈ hcs1, x.2 m3) → (∀ x ∈ hcs1, x ∈ hcs) → (∀ i R, (i, R) ∈ hcs → mL rg (e :: Dp) i = false → (i, R) ∈ hcs1) → stg c rg K kp' (e :: Dp) got hcs1 ({ st with m := m3 }.put o.dst s) →
          ∃ g', (∀ t, (∀ (j : Nat) (o' : Oper), rg.ops[j]? = some o' → o'.dst = some t → j ≠ e ∧ (j ∈ rg.E ∨ e ∉ rg.A.getD j [])) → g' t = g t) ∧ (∀ d, o.dst = some d → g' d = some v) ∧
            Stg P c.n B Q rg.ops rg.E rg.A rg.G k (e :: D) g' ⟨m3, pvR⟩ := by
        intro v m3 hcs1 s hv hR hsub hkeep hst
        have fr : Fr rg { st with m := m3 } ({ st with m := m3 }.put o.dst s) := Fr.put ho hnl
        have := aaS hT F hn0 (fun {D Dp Ls Ws kp got hcs st g pvR} a1 a2 a3 a4 a5 a6 a7 a8 a9 => ih a1 a2 a3 a4 a5 a6 a7 a8 a9) (D := e :: D) (Ls := Ls) (Ws := Ws) (pvR := pvR) (g := putG g o.dst v) hst ⟨abt hs.inv.env hv, hR, fun x hx => hs.inv.ext x (hsub x hx), fun i hi hp => ?_⟩ hs.gotE (fr.pv.trans hs.pv) (fr.dirty.trans hs.dirty) (fun p hp => ?_) (fun p hp => ?_)
          ⟨fun x => ?_, fun x hx => ?_, hd.ls, down', fun x hx d hxd => ?_, hd.pre⟩ (hw.put hpt heW fun x hx => hx) (by rw [fr.pv]; exact hp) hnR (by omega) (by omega)
        · obtain ⟨g', hc, hS⟩ := this
          refine ⟨g', fun t ht => ?_, fun d hdd => ?_, by rw [← show ({ st with m := m3 }.put o.dst s).m = m3 from fr.m]; exact hS⟩
          · by_cases e1 : g' t = putG g o.dst v t
            · rw [e1]
              unfold putG
              rw [if_neg fun e2 => (ht e o ho e2).1 rfl]
            · obtain ⟨j, o', j1, j2, j3, j4, j5⟩ := hc t e1
              obtain ⟨q1, q2⟩ := ht j o' j1 j2
              have hjE : j ∉ rg.E := fun h => by rw [i7.2 h] at j3; cases j3
              have q3 : e ∉ rg.av j := q2.resolve_left hjE
              have hjl : j < rg.ops.length := (List.getElem?_eq_some_iff.1 j1).1
              rcases hs.comp j hjl with h | h | h
              · rw [h] at j3; cases j3
              · exact absurd h j4
              · have : nG (rg.avp j) Dp = true := by
                  rw [wR] at j5 ⊢
                  intro x hx
                  rcases List.mem_cons.1 (j5 x hx) with rfl | h
                  · exact absurd (List.mem_filter.1 hx).1 q3
                  · exact h
                rw [this] at h; cases h
          · by_cases e1 : g' d = putG g o.dst v d
            · rw [e1]; simp [putG, hdd]
            · obtain ⟨j, o', j1, j2, j3, j4, j5⟩ := hc d e1
              have := uB F j1 j2 ho hdd
              subst this
              rw [i7.2 heE] at j3; cases j3
        · have hp1 : mL rg Dp i = false := alH.2 fun x hx => alH.1 hp x (List.mem_cons_of_mem _ hx)
          have hp2 : i ∉ rg.an e := alH.1 hp e (List.mem_cons_self ..)
          rw [fr.pv]
          exact (hs.inv.obs i hi hp1).put (fun o' ho' => hput i hi hp2 o' ho') fun R hR => hkeep i R hR hp
        · rcases hs.env0 p hp with h | h
          · exact .inl h
          · exact (fr.env p h).symm
        · rcases fr.key p hp with ⟨q, hq, e1⟩ | ⟨j, o', j1, j2, j3⟩
          · rw [← e1]; exact hs.free q hq
          · rcases F.dst j o' j1 with h | h
            · rw [i7.2 h] at j3; cases j3
            · exact h _ j2
        · rw [List.mem_cons, List.mem_cons, hd.mem, or_assoc]
        · rcases List.mem_cons.1 hx with rfl | hx
          · exact hpub
          · exact hd.dp x hx
        · have hgl := hd.gl x hx d hxd
          obtain ⟨o2, _, d2, _, b1, _, b3, _, _, _, _, _, _, b10⟩ := F.lay x.1 (hd.ls x hx)
          unfold putG
          rw [if_neg fun e1 => hdl d e1 (by
            rw [gA b1, b3] at hxd
            cases hxd
            exact b10)]
          exact hgl
      have hM : ∀ t u, Frm.get ((st.E.frm β).only (rg.look o)) t = some u → g t = some u ∧ t ∈ o.looksAt rg.ops.toArray := by
        intro t u htu
        obtain ⟨e1, e2⟩ := Frm.only_get _ _ _ htu
        refine ⟨?_, e2⟩
        rw [Env.frm_get] at e1
        cases hsE : st.E.get t with
        | none => rw [hsE] at e1; cases e1
        | some s => rw [hsE] at e1; cases e1; exact hs.inv.env _ (Env.get_mem hsE)
      have go : ∀ {p : Prop}, p = (match abO o.op with
          | true => match ags (ij st.E (rg.look o)) o with
            | false => False
            | true => shE c.T c.tbl c.hint o { st with E := ij st.E (rg.look o) } fun s st' => afP st'.m (stay rg (e :: Dp) hcs) (stg c rg K kp' (e :: Dp) got (stay rg (e :: Dp) hcs) ({ st with m := st'.m }.put o.dst s))
          | false => shQ c.T false o { st with E := ij st.E (rg.look o), pv := rg.pvq st.pv e } fun s => stg c rg K kp' (e :: Dp) got hcs (st.put o.dst s)) → p →
          Eff P c.n B ((st.E.frm β).only (rg.look o)) ⟨st.m, pvR⟩ o (fun v h' => ∃ g', (∀ t, (∀ (j : Nat) (o' : Oper), rg.ops[j]? = some o' → o'.dst = some t → j ≠ e ∧ (j ∈ rg.E ∨ e ∉ rg.A.getD j [])) → g' t = g t) ∧ (∀ d, o.dst = some d → g' d = some v) ∧
            Stg P c.n B Q rg.ops rg.E rg.A rg.G k (e :: D) g' h') := by
        intro p hp' h2
        subst hp'
        split at h2
        · split at h2
          · exact h2.elim
          · rename_i hop
            have heff := amo (n := c.n) (B := B) (st := { st with E := ij st.E (rg.look o) }) β hT hlay hop h2 pvR
            unfold EffH at heff
            rw [mS] at heff
            refine heff.mono fun v h' ⟨s, m3, hv, e1, hk3⟩ => ?_
            subst e1
            obtain ⟨hR, hst⟩ := x9 hk3
            exact after hv hR (fun x hx => (af3.1 hx).1) (fun i R hR hp => af3.2 ⟨hR, hp⟩) hst
        · obtain ⟨s, hk3, hS, hQ⟩ := aiP (n := c.n) (st := { st with E := ij st.E (rg.look o), pv := rg.pvq st.pv e }) β hT h2
          have hq := hQ st.m hS
          intro a w ha hw' next Q' hn
          unfold Oper.wp
          rw [hq a w (aa3 ha) (hw'.rel.fewer (ahQ hp hw.key heW) (by
            show ((pvO β (rg.pvq st.pv e)).map (·.1)).Nodup
            rw [hs.pv]
            exact hn0.sublist (((aiS (rg := rg)).map _).map _)))]
          exact hn _ _ _ hw' (after (.inr rfl) hs.inv.hold (fun x hx => hx) (fun i R hR _ => hR) hk3)
      have at' : ∀ {t : Nat} {s : SV}, st.E.get t = some s → (st.E.frm β).get t = some (s.val β) := fun h => by rw [Env.frm_get, h]; rfl
      have hj' : ∀ {j t : Nat}, fB rg.ops j = some t → (rg.ops[j]?).bind (·.dst) = some t := by
        intro j t h
        have := wD h
        simpa using this
      refine ⟨_, hM, hod, ?_⟩
      split at h1
      · rename_i hg
        exact .inl ⟨hg, go rfl h1⟩
      · rename_i j want hg
        split at h1
        · exact h1.elim
        · rename_i t ht
          split at h1
          · rename_i hEt
            exact .inr (.inr ⟨lm hg (hj' ht) (at' hEt) (by simp [SV.val, undef]), after (m3 := st.m) (v := undef) (.inr rfl) hs.inv.hold (fun x hx => hx) (fun i R hR _ => hR) h1⟩)
          · rename_i b hEt
            split at h1
            · rename_i e1
              have e1 := am3.1 e1
              subst e1
              exact .inr (.inl ⟨mT hg (hj' ht) (at' hEt), go rfl h1⟩)
            · rename_i e1
              refine .inr (.inr ⟨lm hg (hj' ht) (at' hEt) fun e' => ?_, after (m3 := st.m) (v := undef) (.inr rfl) hs.inv.hold (fun x hx => hx) (fun i R hR _ => hR) h1⟩)
              have : b = want := by simpa [SV.val, TV.val, CV.val] using e'
              rw [am3.2 this] at e1
              cases e1
          · exact h1.elim
    · -- a block that is kept comes to be
      obtain ⟨o2, t, d, z, a1, a2, a3, a4, a5, a6, a7, a8, a9, a10⟩ := F.lay e hlay
      rw [ho] at a1
      cases a1
      refine ⟨[], fun t u htu => (by simp [Frm.get] at htu), by unfold okD; rw [a3]; simpa using a5, .inl ⟨a4, ?_⟩⟩
      refine (Eff.nd (EffX.allocP (k := fun _ => True) hT a2 a6 fun _ _ => trivial)).mono ?_
      rintro v h' ⟨⟨b, m2, rfl, rfl, hext, _⟩, hnd⟩
      have hze : mi c rg e = z := by unfold mi; rw [ho]; simp only [a2, a6, Option.getD_some]
      have hdst : fB rg.ops e = some d := by rw [gA ho, a3]
      have hWd : ∀ w ∈ Ws, w.2.1 ≠ d := by
        intro w hw' e1
        have h1 := F.layB _ (hw.key w hw') e hlay (by rw [hdst, e1])
        exact heD (hd.down _ (hWE w hw').1 e h1)
      refine ⟨putG g (some d) (.pointer (some ⟨b, 0, none⟩)), fun x hx => ?_, fun d' hd' => ?_, ?_⟩
      · unfold putG
        rw [if_neg fun e1 => (hx e o ho (a3.trans e1)).1 rfl]
      · rw [a3] at hd'; cases hd'; simp [putG]
      · refine ih (D := e :: D) (Dp := Dp) (Ls := (e, b) :: Ls) (Ws := Ws) (kp := kp) (got := got) (hcs := hcs) (st := { st with m := m2 }) (g := putG g (some d) (.pointer (some ⟨b, 0, none⟩))) (pvR := (b, z) :: pvR)
          ⟨⟨fun p hp => ?_, fun x hx => hs.inv.ext x hx _ _ hext (hs.inv.hold x hx), hs.inv.ext, fun i hi hp => ?_⟩, hs.comp, hs.pv, hs.dirty, hs.env0, hs.free, hs.gotE⟩ ⟨fun x => ?_, hd.dp, fun x hx => ?_, down', fun x hx d' hxd => ?_, hd.pre⟩ hw ⟨?_, fun p hp1 hp2 => List.mem_cons_of_mem _ (hp.old p hp1 hp2), fun x hx d' hxd => ?_⟩ hnd (by omega) hkp ?_ (fun m' e1 e2 => ?_)
        · unfold putG
          rw [if_neg fun e1 => hs.free p hp (by rw [← Option.some.inj e1]; exact a10)]
          exact hs.inv.env p hp
        · refine (hs.inv.obs i hi hp).put (fun o' ho' => ⟨fun x hx hm => ?_, fun x hx hm => ?_⟩) fun R hR => hR
          · cases hx
            rcases F.look i o' ho' with h | h
            · exact hs.gotE i hi (F.tailE i h)
            · exact h _ hm a10
          · cases hx
            have := uB F ho' hm ho a3
            subst this
            exact hs.gotE _ hi heE
        · simp only [List.mem_cons]
          rw [hd.mem]
          constructor
          · rintro (rfl | h | ⟨b', h⟩ | h)
            · exact .inr (.inl ⟨b, .inl rfl⟩)
            · exact .inl h
            · exact .inr (.inl ⟨b', .inr h⟩)
            · exact .inr (.inr h)
          · rintro (h | ⟨b', h | h⟩ | h)
            · exact .inr (.inl h)
            · cases h; exact .inl rfl
            · exact .inr (.inr (.inl ⟨b', h⟩))
            · exact .inr (.inr (.inr h))
        · rcases List.mem_cons.1 hx with rfl | hx
          · exact hlay
          · exact hd.ls x hx
        · rcases List.mem_cons.1 hx with rfl | hx
          · have : d' = d := by
              have h := hdst
              rw [show fB rg.ops e = some d' from hxd] at h
              exact Option.some.inj h
            subst this
            simp [putG]
          · unfold putG
            rw [if_neg fun e1 => ?_]
            · exact hd.gl x hx d' hxd
            · cases e1
              obtain ⟨o3, _, d3, _, b1, _, b3, _⟩ := F.lay x.1 (hd.ls x hx)
              rw [gA b1] at hxd
              have := uB F b1 hxd ho a3
              exact heD (this ▸ (hd.mem x.1).2 (.inr (.inl ⟨x.2, hx⟩)))
        · show b :: pvR.map (·.1) = (b :: Ls.map (·.2)) ++ st.pv.map (fun p => β p.1)
          rw [hp.keys]; rfl
        · rcases List.mem_cons.1 hx with rfl | hx
          · have : d' = d := by
              have h := hdst
              rw [show fB rg.ops e = some d' from hxd] at h
              exact Option.some.inj h
            subst this
            rw [yS hWd]
            show (b, mi c rg e) ∈ _
            rw [hze]
            exact List.mem_cons_self ..
          · exact List.mem_cons_of_mem _ (hp.new x hx d' hxd)
        · rw [acC]; exact hchk
        · refine H m' (hext.trans e1) fun hpn => ?_
          obtain ⟨x, hx, hex⟩ := aax.1 (aiM hpn e hlay)
          exact absurd hex (heP x ((hd.mem x).2 (.inl hx)) (F.pubE x (hd.dp x hx)))
    · -- a last amL
      obtain ⟨x, hx, rfl⟩ := List.mem_map.1 htl
      obtain ⟨x, kk⟩ := x
      have hcnt : cntN rg.E (x :: D) + 1 = cntN rg.E D := hcnt
      have hok := zc hchk _ hx (ahB F hd hw.key hA)
      unfold ah3 at hok
      split at hok
      · rename_i k' off l hkv
        simp only [Bool.and_eq_true] at hok
        have hkk := Nat.eq_of_beq_eq_true hok.1
        subst hkk
        have hlen := hok.2
        have hKV : KV c rg st.E x = some (k', off, l.map CV.val) := by unfold KV; rw [hkv]; rfl
        obtain ⟨o', t, ax, y, sz, ho', hop, hdst, hg, hadr, hsz, hval⟩ := agr hkv
        rw [ho] at ho'
        cases ho'
        have hnR' := hnR
        rw [hp.keys, List.nodup_append] at hnR'
        obtain ⟨n1, n2, n3⟩ := hnR'
        have hM : ∀ t u, Frm.get ((st.E.frm β).only (rg.look o)) t = some u → g t = some u ∧ t ∈ o.looksAt rg.ops.toArray := by
          intro t u htu
          obtain ⟨e1, e2⟩ := Frm.only_get _ _ _ htu
          refine ⟨?_, e2⟩
          rw [Env.frm_get] at e1
          cases hsE : st.E.get t with
          | none => rw [hsE] at e1; cases e1
          | some s => rw [hsE] at e1; cases e1; exact hs.inv.env _ (Env.get_mem hsE)
        have hyv : ∃ v : Value, (((st.E.frm β).only (rg.look o)).ev y = some v) ∧ ((sz = 1 ∧ one v = true ∧ l.map CV.val = [v]) ∨ (v = .agg (l.map CV.val).toArray ∧ sz = l.length ∧ bT (l.map CV.val) = true)) := by
          rcases hval with ⟨v, h1, h2, h3, rfl⟩ | ⟨h1, h2, h3⟩
          · exact ⟨v.val, by rw [← mS]; exact Env.ev_frm β h1, .inl ⟨h2, qu h3, rfl⟩⟩
          · exact ⟨_, by rw [← mS]; exact Env.ev_frm β h1, .inr ⟨rfl, h2, ace h3⟩⟩
        have hblk : ∃ (L : Frm) (blk : Nat) (base : List Value), (∀ t u, Frm.get L t = some u → g t = some u ∧ t ∈ o.looksAt rg.ops.toArray) ∧ L.ev ax = some (.pointer (some ⟨blk, off, none⟩)) ∧ L.ev y = ((st.E.frm β).only (rg.look o)).ev y ∧ (blk, eJ Ws k' base) ∈ pvR ∧ off + l.length ≤ base.length ∧
            ((k' ∉ rg.lds ∧ ∃ cs, (k', cs) ∈ st.pv ∧ blk = β k' ∧ base = cs.map CV.val) ∨ ∃ l0, (l0, blk) ∈ Ls ∧ fB rg.ops l0 = some k' ∧ base = mi c rg l0) := by
          obtain ⟨o2, t2, d2, y2, q1, q2, q3⟩ := F.lookT _ hx
          rw [ho] at q1
          cases q1
          rw [hop] at q2
          cases q2
          unfold agI at hadr
          simp only at hadr
          cases hld : memN rg.lds d2 with
          | true =>
            rw [hld] at hadr
            cases hadr
            obtain ⟨l0, r1, r2⟩ := F.ldk _ (i7.1 hld)
            have r3 := hA _ (F.layB _ hx l0 r1 r2)
            obtain ⟨b, r4⟩ : ∃ b, (l0, b) ∈ Ls := by
              obtain ⟨_, _, _, _, _, _, _, _, _, _, _, r8, r9, _⟩ := F.lay l0 r1
              rcases (hd.mem l0).1 r3 with h | h | ⟨w, h, rfl⟩
              · exact absurd (hd.dp _ h) r8
              · exact h
              · exact absurd (List.mem_map.2 ⟨_, hw.key w h, rfl⟩) r9
            refine ⟨(k', .pointer (some ⟨b, 0, none⟩)) :: (st.E.frm β).only (rg.look o), b, mi c rg l0, fun t u htu => ?_, by simp [Frm.ev, Frm.get], ?_, hp.new _ r4 _ r2, ?_, .inr ⟨l0, r4, r2, rfl⟩⟩
            · rw [Frm.get_cons] at htu
              split at htu
              · rename_i e1
                subst e1
                cases htu
                exact ⟨hd.gl _ r4 _ r2, q3⟩
              · exact hM t u htu
            · cases y with
              | tmp t =>
                show Frm.get ((k', _) :: _) t = _
                rw [Frm.get_cons, if_neg]
                · rfl
                · intro e1
                  subst e1
                  obtain ⟨v, h1, _⟩ := hyv
                  have h1 : Frm.get ((st.E.frm β).only (rg.look o)) k' = some v := h1
                  obtain ⟨e1, _⟩ := Frm.only_get _ _ _ h1
                  rw [Env.frm_get] at e1
                  cases hsE : st.E.get k' with
                  | none => rw [hsE] at e1; cases e1
                  | some s => exact hs.free _ (Env.get_mem hsE) (i7.1 hld)
              | _ => rfl
            · unfold akL at hlen
              rw [hld] at hlen
              have := List.all_eq_true.1 hlen l0 r1
              simp only [Bool.or_eq_true, Bool.not_eq_true'] at this
              rcases this with h | h
              · rw [amI.2 r2] at h; cases h
              · simpa using Nat.le_of_ble_eq_true h
          | false =>
            rw [hld] at hadr
            simp only at hadr
            split at hadr
            · rename_i k2 off2 hE2
              split at hadr
              · cases hadr
              · rename_i hk2
                cases hadr
                unfold akL at hlen
                rw [hk2] at hlen
                simp only at hlen
                split at hlen
                · rename_i cs hcs
                  have hm := pT hcs
                  have hnk : k' ∉ rg.lds := fun h => by rw [i7.2 h] at hk2; cases hk2
                  refine ⟨(st.E.frm β).only (rg.look o), β k', cs.map CV.val, hM, ?_, rfl, hp.old _ hm hnk, ?_, .inl ⟨hnk, cs, hm, rfl, rfl⟩⟩
                  · rw [← mS]
                    exact Env.ev_frm β (x := .tmp d2) hE2
                  · simpa using Nat.le_of_ble_eq_true hlen
                · cases hlen
            · cases hadr
        obtain ⟨L, blk, base, hL, hLx, hLy, hcur, hlen2, hwhere⟩ := hblk
        obtain ⟨v, hv1, hv2⟩ := hyv
        rw [hv1] at hLy
        obtain ⟨j, hj, s1, s2, s3⟩ := ald (new := jq (eJ Ws k' base) off (l.map CV.val)) hnR hcur
        have heff : Eff P c.n B L ⟨st.m, pvR⟩ o (fun _ h' => h' = ⟨st.m, pvR.set j (blk, jq (eJ Ws k' base) off (l.map CV.val))⟩) := by
          rcases hv2 with ⟨h1, h2, h3⟩ | ⟨h1, h2, h3⟩
          · subst h1
            have : l.length = 1 := by simpa using congrArg List.length h3
            refine EffX.storeP (i := j) hT hop hsz hLx hLy h2 hj rfl ?_ ?_
            · simp only [Nat.blt_eq, qm]; omega
            · rw [h3]; rfl
          · subst h1 h2
            refine EffX.storeSP (i := j) hT hop hsz hLx hLy (by simp) h3 hj rfl ?_ rfl
            simpa [qm] using hlen2
        refine ⟨L, hL, by unfold okD; rw [hdst], .inl ⟨hg, heff.mono fun _ h' e1 => ?_⟩⟩
        subst e1
        refine ⟨g, fun _ _ => rfl, fun d hd => (by rw [hdst] at hd; cases hd), ?_⟩
        have hnap : ∀ k2 cs, eJ (Ws ++ [(x, k', off, l.map CV.val)]) k2 cs = match Nat.beq k' k2 with | true => jq (eJ Ws k2 cs) off (l.map CV.val) | false => eJ Ws k2 cs := fun k2 cs => rx
        have key1 : ∀ {z u : List Value}, (blk, z) ∈ pvR → (blk, u) ∈ pvR → z = u := fun h1 h2 => congrArg Prod.snd (uW hnR h1 h2 rfl)
        refine ih (D := x :: D) (Dp := Dp) (Ls := Ls) (Ws := Ws ++ [(x, k', off, l.map CV.val)]) (kp := kp) (got := got) (hcs := hcs) (st := st) (g := g) hs ⟨fun z => ?_, hd.dp, hd.ls, down', hd.gl, fun k2 => ?_⟩ ⟨fun w hw' => ?_, fun w hw' => ?_, fun w hw' i hi hiE => ?_⟩ ⟨by rw [s3]; exact hp.keys, fun p hp1 hp2 => ?_, fun z hz d hzd => ?_⟩ (by rw [s3]; exact hnR) (by omega) hkp hchk H
        · simp only [List.mem_cons, List.mem_append, List.not_mem_nil, or_false]
          rw [hd.mem]
          constructor
          · rintro (rfl | h | h | ⟨w, h1, h2⟩)
            · exact .inr (.inr ⟨_, .inr rfl, rfl⟩)
            · exact .inl h
            · exact .inr (.inl h)
            · exact .inr (.inr ⟨w, .inl h1, h2⟩)
          · rintro (h | h | ⟨w, h1 | rfl, h2⟩)
            · exact .inr (.inl h)
            · exact .inr (.inr (.inl h))
            · exact .inr (.inr (.inr ⟨w, h1, h2⟩))
            · exact .inl h2.symm
        · obtain ⟨q, hq⟩ := hd.pre k2
          cases hb : Nat.beq k' k2 with
          | false =>
            refine ⟨q, ?_⟩
            unfold fil at hq ⊢
            rw [List.filter_append, List.filter_cons]
            simp only [hb]
            simpa using hq
          | true =>
            have hb := Nat.eq_of_beq_eq_true hb
            subst hb
            have hnT : (zW rg k').Nodup := F.ndT.sublist ((List.filter_sublist).map _)
            have hpw : (zW rg k').Pairwise (fun a b => a ∈ rg.av b) := by
              unfold zW
              rw [List.pairwise_map, List.pairwise_filter]
              exact F.same.imp fun h h1 h2 => h ((Nat.eq_of_beq_eq_true h1).trans (Nat.eq_of_beq_eq_true h2).symm)
            have hxt : x ∈ zW rg k' := List.mem_map.2 ⟨_, List.mem_filter.2 ⟨hx, by simp⟩, rfl⟩
            have hxn : x ∉ (fil k' Ws).map (·.1) := by
              intro hm
              obtain ⟨w, h1, h2⟩ := List.mem_map.1 hm
              exact heD ((hd.mem x).2 (.inr (.inr ⟨w, (List.mem_filter.1 h1).1, h2⟩)))
            rw [hq] at hxt hpw hnT
            have hxq := (List.mem_append.1 hxt).resolve_left hxn
            cases q with
            | nil => cases hxq
            | cons z q =>
              have hzx : z = x := by
                rcases List.mem_cons.1 hxq with h | h
                · exact h.symm
                · exfalso
                  have h1 := (List.pairwise_cons.1 (List.pairwise_append.1 hpw).2.1).1 x h
                  have hzD := hA z h1
                  have hzt : z ∈ zW rg k' := by rw [hq]; simp
                  obtain ⟨y0, hy0, hy1⟩ := List.mem_map.1 hzt
                  obtain ⟨hy2, hy3⟩ := List.mem_filter.1 hy0
                  have hztl : z ∈ rg.tail := List.mem_map.2 ⟨y0, hy2, hy1⟩
                  rcases (hd.mem z).1 hzD with h | ⟨b, h⟩ | ⟨w, h, hwz⟩
                  · exact F.dis _ (hd.dp _ h) hztl
                  · obtain ⟨_, _, _, _, _, _, _, _, _, _, _, _, r9, _⟩ := F.lay z (hd.ls (z, b) h)
                    exact r9 hztl
                  · have hwy : (w.1, w.2.1) = y0 := uW F.ndT (hw.key w h) hy2 (hwz.trans hy1.symm)
                    have hwk : Nat.beq w.2.1 k' = true := by rw [show w.2.1 = y0.2 from congrArg Prod.snd hwy]; exact hy3
                    exact (List.nodup_append.1 hnT).2.2 z (List.mem_map.2 ⟨w, List.mem_filter.2 ⟨h, hwk⟩, hwz⟩) z (List.mem_cons_self ..) rfl
              subst hzx
              refine ⟨q, ?_⟩
              rw [hq]
              unfold fil
              rw [List.filter_append]
              simp
        · rcases List.mem_append.1 hw' with h | h
          · exact hw.kv w h
          · have := List.mem_singleton.1 h
            subst this
            exact hKV
        · rcases List.mem_append.1 hw' with h | h
          · exact hw.key w h
          · have := List.mem_singleton.1 h
            subst this
            exact hx
        · rcases List.mem_append.1 hw' with h | h
          · exact hw.got w h i hi hiE
          · have := List.mem_singleton.1 h
            subst this
            have hiE' : i ∉ rg.E := fun h => by rw [i7.2 h] at hiE; cases hiE
            have hA' : ∀ y ∈ rg.av i, y ∈ D := fun y hy => hA y (alT F x o ho i hi y hy)
            have hil : i < rg.ops.length := by
              have hi2 := hi
              rcases Nat.lt_or_ge i rg.ops.length with h | h
              · exact h
              · exfalso
                obtain ⟨B0, B1, _⟩ := fc F.edges
                have : ∀ (n : Nat) (o : Oper), rg.ops[n]? = some o → ∀ j ∈ rg.an n, j < n := by
                  intro n
                  induction n using Nat.strongRecOn with
                  | _ n ih2 =>
                    intro o ho j hj
                    obtain ⟨y, hy, hyj⟩ := B0 n o ho j hj
                    have h1 := (B1 n o ho y hy).1
                    have hnl : n < rg.ops.length := (List.getElem?_eq_some_iff.1 ho).1
                    rcases hyj with rfl | hyj
                    · exact h1
                    · have hyl : y < rg.ops.length := Nat.lt_trans h1 hnl
                      exact Nat.lt_trans (ih2 y h1 (rg.ops[y]'hyl) (List.getElem?_eq_getElem hyl) j hyj) h1
                have h1 := this x o ho i hi
                have h2 : x < rg.ops.length := (List.getElem?_eq_some_iff.1 ho).1
                omega
            rcases hs.comp i hil with h | h | h
            · rw [h] at hiE; cases hiE
            · exact h
            · rw [ahB F hd hw.key hA'] at h; cases h
        · rw [hnap]
          have hold := hp.old p hp1 hp2
          cases hb : Nat.beq k' p.1 with
          | true =>
            have hb := Nat.eq_of_beq_eq_true hb
            rcases hwhere with ⟨w1, cs, w2, w3, w4⟩ | ⟨l0, w1, w2, w3⟩
            · rw [← hb] at hold ⊢
              rw [← w3] at hold ⊢
              rw [key1 hold hcur]
              exact s1
            · obtain ⟨o3, _, d3, _, b1, _, b3, _, _, _, _, _, _, b10⟩ := F.lay l0 (hd.ls _ w1)
              rw [gA b1, b3] at w2
              cases w2
              exact absurd (hb ▸ b10) hp2
          | false =>
            refine s2 _ hold fun e1 => ?_
            have e1 : β p.1 = blk := e1
            rcases hwhere with ⟨w1, cs, w2, w3, w4⟩ | ⟨l0, w1, w2, w3⟩
            · have := uW n2 hp1 w2 (e1.trans w3)
              rw [this] at hb; simp at hb
            · exact n3 blk (List.mem_map.2 ⟨_, w1, rfl⟩) (β p.1) (List.mem_map.2 ⟨p, hp1, rfl⟩) e1.symm
        · rw [hnap]
          have hnew := hp.new z hz d hzd
          cases hb : Nat.beq k' d with
          | true =>
            have hb := Nat.eq_of_beq_eq_true hb
            subst hb
            rcases hwhere with ⟨w1, cs, w2, w3, w4⟩ | ⟨l0, w1, w2, w3⟩
            · obtain ⟨o3, _, d3, _, b1, _, b3, _, _, _, _, _, _, b10⟩ := F.lay z.1 (hd.ls z hz)
              rw [gA b1, b3] at hzd
              cases hzd
              exact absurd b10 w1
            · have g1 := hd.gl z hz _ hzd
              have g2 := hd.gl _ w1 _ w2
              rw [g1] at g2
              have hzb : z.2 = blk := by simpa using g2
              obtain ⟨o3, _, d3, _, b1, _, b3, _⟩ := F.lay z.1 (hd.ls z hz)
              obtain ⟨o4, _, d4, _, c1, _, c3, _⟩ := F.lay l0 (hd.ls _ w1)
              rw [gA b1] at hzd
              rw [gA c1] at w2
              have hzl := uB F b1 hzd c1 w2
              rw [hzb] at hnew ⊢
              rw [key1 hnew hcur]
              exact s1
          | false =>
            refine s2 _ hnew fun e1 => ?_
            have e1 : z.2 = blk := e1
            rcases hwhere with ⟨w1, cs, w2, w3, w4⟩ | ⟨l0, w1, w2, w3⟩
            · exact n3 z.2 (List.mem_map.2 ⟨z, hz, rfl⟩) (β k') (List.mem_map.2 ⟨_, w2, rfl⟩) (e1.trans w3)
            · have := uW n1 hz w1 e1
              subst this
              rw [w2] at hzd
              cases hzd
              simp at hb
      · cases hok
theorem agT {n : Nat} {id : Nat} {ops : List Oper} {E : List Nat} {A G : List (List Nat)} (hm : P.follows .mixedOrders = true) (hB : oN ops E A G = true) {k : Nat} (hk : E.length = k) {g : Nat → Option Value} {h : Hp} {a : Act} {w : World}
    (ht : a.tmps.size = n) (hd : a.defers = []) (hg : ∀ t v, g t = some v → a.tmps[t]? = some v ∨ ∃ (j : Nat) (o : Oper), ops[j]? = some o ∧ o.dst = some t ∧ j ∉ E) (hw : InW B h w) (H : Stg P n B Q ops E A G k [] g h) : (Code.region id ops.toArray true).wp P Q a w := by
  refine wp_region_any hm ?_
  have hun : kJ (Array.replicate ops.length false) = ops.length := by
    unfold kJ
    simp
  have hsz : ops.toArray.size = ops.length := by simp
  rw [hsz]
  obtain ⟨B0, B1, B1a, B2, B3, B4, B5⟩ := fc hB
  have nolist : ∀ i, i < ops.length → (Array.replicate ops.length false).getD i true = false := by
    intro i hi; simp [hi]
  refine acO ops E A G hB ops.length _ k [] _ h a _ hun (by simp [hk]) List.nodup_nil ?_ (hw.same_heap ⟨rfl, rfl, rfl, (by first | exact Nat.le_refl _ | exact Nat.le_succ _ | (simp [World.drew]; done))⟩ rfl) H
  have hlt : ∀ {i : Nat} {o : Oper}, ops[i]? = some o → i < ops.length := fun ho => (List.getElem?_eq_some_iff.1 ho).1
  refine ⟨by simp, ?_, ?_, by simp, ?_, ht, hd, ?_⟩
  · intro i o ho hl
    rw [nolist i (hlt ho)] at hl; cases hl
  · intro e he
    have := nolist e (B4 e he)
    simp only [Array.getD_eq_getD_getElem?] at this
    simp [this]
  · intro i o ho hl
    rw [nolist i (hlt ho)] at hl; cases hl
  · intro t v hv hprod
    rcases hg t v hv with h1 | ⟨j, o, j1, j2, j3⟩
    · exact h1
    · have := hprod j o j1 j2 j3
      rw [nolist j (hlt j1)] at this
      cases this
end
theorem aaN {P : Program} {c : Ctx P} (hT : TTab.Ok P c.T) (hm : P.follows .mixedOrders = true) : adA c (stgD c) := by
  intro id ops B β st k a w Q h hr hQ
  unfold stgD at h
  simp only at h
  split at h
  · exact h.elim
  rename_i hok
  have F := Rg.ok_spec hok
  generalize hrg : mkRg c.hint st.calm.E ops = rg at h F
  have hops : rg.ops = ops := by rw [← hrg]; rfl
  have hn0 : ((pvO β st.pv).map (·.1)).Nodup := hr.inw.rel.nodup
  have hfil : ∀ p ∈ st.E, p.1 ∈ rg.lds ∨ p ∈ st.E.filter (fun p => !(memN rg.lds p.1)) := by
    intro p hp
    cases hb : memN rg.lds p.1
    · exact .inr (List.mem_filter.2 ⟨hp, by simp [hb]⟩)
    · exact .inl (i7.1 hb)
  have hlds : ∀ d ∈ rg.lds, d ∈ uC rg.ops := by
    intro d hd
    obtain ⟨l, h1, h2⟩ := F.ldk d hd
    obtain ⟨o, _, d', _, a1, _, a3, _⟩ := F.lay l h1
    rw [gA a1] at h2
    exact tp a1 h2
  obtain ⟨g', hc, hS⟩ := aaS (B := B) (Q := Q) (β := β) (st0 := { st.calm with E := st.E.filter (fun p => !(memN rg.lds p.1)), mem := false }) (k := rg.E.length) hT F hn0
    (aiF (st0 := { st.calm with E := st.E.filter (fun p => !(memN rg.lds p.1)), mem := false }) hT F (fun β' st' a w hr' he hk => hQ β' st' a w hr' (by
      rw [← hops]
      obtain ⟨pre, he⟩ := he
      refine ⟨pre, he.dirty, he.laid, he.beta, he.pv, fun p hp => ?_⟩
      rcases hfil p hp with h | h
      · exact .inl (hlds _ h)
      · exact he.env p h) hk) hr.nd hn0 rg.E.length) (D := []) (Ls := []) (Ws := []) (pvR := pvO β st.pv) (g := fun t => a.tmps[t]?) h ⟨fun p hp => hr.holds.at' p (List.mem_filter.1 hp).1, fun x hx => (by cases hx), fun x hx => (by cases hx), fun i hi => (by cases hi)⟩ (fun i hi => by cases hi) rfl rfl
    (fun p hp => .inr hp) (fun p hp hm => by
      obtain ⟨_, h2⟩ := List.mem_filter.1 hp
      rw [i7.2 hm] at h2
      cases h2) ⟨fun e => by simp, fun e he => (by cases he), fun x hx => (by cases hx), fun x hx => (by cases hx), fun x hx => (by cases hx), fun k => ⟨_, rfl⟩⟩ ⟨fun w hw => (by cases hw), fun w hw => (by cases hw), fun w hw => (by cases hw)⟩ ⟨by simp [St.calm], fun p hp _ => List.mem_map.2 ⟨p, hp, rfl⟩, fun x hx => (by cases hx)⟩ hn0 (aiw _) (aiw _)
  · have hS' := hS
    rw [hops] at hS'
    refine agT hm (hops ▸ F.edges) rfl hr.holds.size hr.holds.defers (fun t v hv => ?_) hr.inw hS'
    by_cases e : g' t = a.tmps[t]?
    · exact .inl (e ▸ hv)
    · obtain ⟨j, o, j1, j2, j3, _⟩ := hc t e
      exact .inr ⟨j, o, hops ▸ j1, j2, fun h => by rw [i7.2 h] at j3; cases j3⟩
end Go.Lift
