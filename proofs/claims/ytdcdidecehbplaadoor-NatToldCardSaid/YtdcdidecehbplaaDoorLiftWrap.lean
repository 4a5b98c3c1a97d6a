/- Laws that the proof of this claim's statement leans on, each proved under the conditions that it states. -/
import Derived.Test.YtdcdidecehbplaaDoorLiftMemo
import Derived.Test.YtdcdidecehbplaaDoorLiftNum
import Derived.Laws.BitsLemmas
set_option linter.unusedVariables false
set_option linter.unusedSimpArgs false
namespace Go.Lift
open Go

theorem w64 {n : Int} (h1 : -9223372036854775808 ≤ n) (h2 : n < 9223372036854775808) : IntKind.wrap .i64 n = n := by rw [IntKind.wrap_i64]; omega
theorem wu64 {n : Int} (h1 : 0 ≤ n) (h2 : n < 18446744073709551616) : IntKind.wrap .u64 n = n := by
  have : IntKind.wrap .u64 n = n % 18446744073709551616 := rfl
  rw [this]; omega
theorem wu64m (n : Int) : IntKind.wrap .u64 n = n % 18446744073709551616 := rfl
theorem wu32m (n : Int) : IntKind.wrap .u32 n = n % 4294967296 := rfl
theorem wu32 {n : Int} (h1 : 0 ≤ n) (h2 : n < 4294967296) : IntKind.wrap .u32 n = n := by rw [wu32m]; omega
theorem wu8m (n : Int) : IntKind.wrap .u8 n = n % 256 := rfl
theorem wu8 {n : Int} (h1 : 0 ≤ n) (h2 : n < 256) : IntKind.wrap .u8 n = n := by rw [wu8m]; omega

/-- A row of numbers of a kind. -/
abbrev RI (k : IntKind) (h : Heap) (s : Sl) (xs : List Nat) : Prop := R (fun n : Nat => Value.int k (n : Int)) h s xs
abbrev OwnI (k : IntKind) (B : Nat) (h : Heap) (s : Sl) (xs : List Nat) : Prop := Own (fun n : Nat => Value.int k (n : Int)) B h s xs
theorem RI.ld {kd : IntKind} {h : Heap} {s : Sl} {xs : List Nat} (hr : RI kd h s xs) {i : Int} {j : Nat} {k : Int → Prop} (hij : i = (j : Int)) (h1 : j < xs.length) (K : k (xs[j] : Nat)) : idxS s i 1 fun a => Lift.load (Value.int kd) a h k := by
  subst hij
  obtain ⟨a, ha, hc⟩ := hr.get h1
  have := hr.len
  refine ⟨a, ha, ⟨by omega, by omega⟩, ?_⟩
  refine ⟨_, ?_, K⟩
  simpa using hc
theorem one_int (k : IntKind) (n : Nat) : one (Value.int k (n : Int)) = true := rfl
end Go.Lift
