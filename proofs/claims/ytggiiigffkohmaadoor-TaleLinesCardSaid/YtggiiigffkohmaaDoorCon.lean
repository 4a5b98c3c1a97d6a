/-
  Laws that the proof of this claim's statement leans on, each proved under the conditions that it states.
-/
import Derived.Test.YtggiiigffkohmaaDoorTaleShelf
import Derived.Test.YtggiiigffkohmaaDoorSh
set_option linter.unusedVariables false
set_option linter.unusedSimpArgs false
namespace Go.Proofs.YtggiiigffkohmaaDoor
open Go Go.Lift Go.Sh Go.RowKit
theorem conW : ∀ (B b : Nat) (bs : List Value) (s : ByteArray) (w : World), Lib.IsBuilder 46 5 B b bs w → bs.length + s.size ≤ 140737488355328 → B ≤ w.heap.size →
    Calls Tryd.prog 20 #[.pointer (some ⟨b, 0, none⟩), .string s] w fun e' w' => e' = .returned (.tuple #[.int .i64 s.size, .nilIface]) ∧ (Lib.BuilderAt 46 5 B b (.pointer (some ⟨b, 0, none⟩)) (bs ++ Lib.strCells s) w' ∧ Below B w w') := Tryd.Builder_WriteString
theorem conS : ∀ (B b : Nat) (l : List UInt8) (w : World), Lib.IsBuilder 46 5 B b (Lib.byteCells l) w → B ≤ w.heap.size →
    Calls Tryd.prog 21 #[.pointer (some ⟨b, 0, none⟩)] w fun e' w' => e' = .returned (.string ⟨l.toArray⟩) ∧ Below B w w' := Tryd.Builder_String_any
theorem tab0 : Tryd.prog.globalNamed "internal/strconv.uint64pow10" = some 0 := by kernel_rfl
theorem lift_strconv_Itoa (n : Int) (w : World) (m : Heap) (hr : Rel ⟨m, []⟩ w.heap) (S : ByteArray → Heap → Prop) (H : strconv_Itoa n m S) : Calls Tryd.prog 12 #[.int .i64 n] w (Post ⟨w, m⟩ Value.string S) := by
  obtain ⟨⟨h0, h1⟩, ⟨T, fr, ht⟩, hk⟩ := H
  have htab : Lib.TabIs Tryd.prog w "internal/strconv.uint64pow10" .u64 Lib.pow10Tab := by
    unfold Lib.TabIs World.var?
    rw [tab0, Option.bind_some, hr.cellsAt ht]
  refine calls_below hr (G := fun r _ => r = ⟨(Lib.itoa n).toArray⟩) ((Tryd.strconv_Itoa n h0 h1 w htab).mono fun e w' ⟨he, k, os, hw⟩ => ⟨_, he, hw ▸ below_grow, rfl⟩) fun r w' hg hb => ?_
  subst hg
  exact hk _ (behind_ext m _)
theorem lift_strings_Split (s sep : ByteArray) (w : World) (m : Heap) (hr : Rel ⟨m, []⟩ w.heap) (S : Sl → Heap → Prop) (H : strings_Split s sep m S) : Calls Tryd.prog 14 #[.string s, .string sep] w (Post ⟨w, m⟩ Sl.toV S) := by
  obtain ⟨⟨h0, h1⟩, ⟨mm, hm⟩, hk⟩ := H
  have hs : w.heap.size = m.size := hr.size
  refine calls_below hr (G := fun r w' => r = ⟨some ⟨w.heap.size, 0, none⟩, Lib.countB s sep + 1, Lib.countB s sep + 1⟩ ∧ w' = w.alloc (.cells ((Lib.splitB sep 0 (Lib.countB s sep) s).map Value.string).toArray 9))
    ((Tryd.strings_Split s sep mm w h0 (hr.cell hm) h1).mono fun e w' ⟨he, hw⟩ => ⟨⟨some ⟨w.heap.size, 0, none⟩, _, _⟩, he, hw ▸ (Below.refl _ _).alloc (Nat.le_refl _) _, rfl, hw⟩) fun r w' hg hb => ?_
  obtain ⟨rfl, rfl⟩ := hg
  have hlen := Lib.splitB_all sep h1 0 _ s rfl
  refine hk _ _ (behind_ext m _) (R.mk' (by dsimp only; rw [hlen]) (Nat.le_refl _) _ rfl fun i hi => ?_)
  have ha : (⟨w.heap.size, 0, none⟩ : Addr).add i = ⟨w.heap.size, 0 + i, none⟩ := addr_add _ _ rfl
  rw [ha]
  have hb : (behind m (w.alloc (.cells ((Lib.splitB sep 0 (Lib.countB s sep) s).map Value.string).toArray 9)).heap)[w.heap.size]? = some (.cells ((Lib.splitB sep 0 (Lib.countB s sep) s).map Value.string).toArray 9 (0, 0)) := by
    rw [behind_new (by omega)]
    exact Array.getElem?_push_size
  unfold cell?
  dsimp only
  rw [hb, Nat.zero_add]
  generalize Lib.splitB sep 0 (Lib.countB s sep) s = l at *
  simp [hi]
theorem lift_strings_Join (x : Sl) (sep : ByteArray) (w : World) (m : Heap) (hr : Rel ⟨m, []⟩ w.heap) (S : ByteArray → Heap → Prop) (H : strings_Join x sep m S) : Calls Tryd.prog 18 #[Sl.toV x, .string sep] w (Post ⟨w, m⟩ Value.string S) := by
  obtain ⟨b, o, c, xs, rfl, hx, h1, h2, h3, hk⟩ := H
  have hc : ∀ (j : Nat) x, xs[j]? = some x → cell? m ⟨b, o + j, none⟩ = some (.string x) := fun j x hj => by
    obtain ⟨hj', rfl⟩ := List.getElem?_eq_some_iff.1 hj
    obtain ⟨a, ha, hcc⟩ := hx.get hj'
    cases ha
    rw [addr_add _ _ rfl] at hcc
    exact hcc
  have hb : b < m.size := by
    have := cell_lt (hc 0 xs[0] (by simp))
    exact this
  have hs : w.heap.size = m.size := hr.size
  refine calls_below hr (G := fun r _ => r = ⟨(Lib.join (xs.map (·.data.toList)) sep.data.toList).toArray⟩) ((Tryd.strings_Join b o c xs sep w (fun j x hj => hr.cell (hc j x hj)) (by omega) (by omega) hx.cap h3).mono fun e w' ⟨he, hw⟩ => ⟨_, he, hw, rfl⟩) fun r w' hg hb => ?_
  subst hg
  exact hk _ (behind_ext m _)
theorem lift_strconv_Atoi (s : ByteArray) (w : World) (m : Heap) (hr : Rel ⟨m, []⟩ w.heap) (S : (Int × Value) → Heap → Prop) (H : strconv_Atoi s m S) : Calls Tryd.prog 23 #[.string s] w (Post ⟨w, m⟩ (fun r => .tuple #[.int .i64 r.1, r.2]) S) := by
  obtain ⟨h0, ⟨e2, g2, o2⟩, ⟨e3, g3, o3⟩, hk⟩ := H
  refine calls_below hr (G := fun r _ => r.1 = atoiN s) ?_ fun r w' hg hb => ?_
  · unfold atoiN
    cases ha : Lib.atoiAll s.data.toList with
    | ok v =>
      refine (Tryd.strconv_Atoi_ok s (by omega) v ha w).mono fun e w' ⟨he, hw⟩ => ⟨(v, .nilIface), he, ?_, rfl⟩
      rcases hw with rfl | ⟨t, rfl⟩
      · exact Below.refl _ _
      · exact ⟨rfl, rfl, rfl, by rw [Lib.bytesWorld_size]; omega, fun k hk => Lib.bytesWorld_at_old w 5 t k hk⟩
    | range => exact (Tryd.strconv_Atoi_range s h0 ha e3 w (hr.cell g3) o3).mono fun e w' ⟨N, he, _, _, hw⟩ => ⟨(_, _), he, hw, rfl⟩
    | _ => exact (Tryd.strconv_Atoi_syntax s h0 (by simp [ha]) (by simp [ha]) e2 w (hr.cell g2) o2).mono fun e w' ⟨N, he, _, _, hw⟩ => ⟨(0, _), he, hw, rfl⟩
  · obtain ⟨r1, r2⟩ := r
    dsimp only at hg
    subst hg
    exact hk _ _ (behind_ext m _)
end Go.Proofs.YtggiiigffkohmaaDoor
