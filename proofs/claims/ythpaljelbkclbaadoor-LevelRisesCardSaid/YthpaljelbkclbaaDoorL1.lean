/-
  Part of a proof: see the last text of this claim.
-/
import Derived.Test.YthpaljelbkclbaaDoorPT
import Derived.Test.YthpaljelbkclbaaDoorT14
open Go Go.Abs Go.Proofs
set_option linter.unusedSimpArgs false
set_option linter.unusedVariables false
namespace R14
theorem s_in (n lo hi : Int) (σ : St) : (W cfg).f 26 [.int .i64 n, .int .i64 lo, .int .i64 hi] σ = some (.bool (decide (lo ≤ n) && decide (n ≤ hi)), σ) := by
  rw [E_26]; simp only [bodyOf, Tryd.f26]
  simp (disch := first | omega | assumption | ((simp only [St.next_push, St.next_set]); omega) | exact one_int _ _ | exact one_bool _ | exact one_str _ | exact one_ptr _ _ | exact one_slice _ _ _ _ _ | exact one_nilSlice | exact isSl_slice _ _ _ _ _ | exact isSl_nil | exact one_fn _ _ _ | exact one_map _ | ((repeat (first | rw [St.next_push] | rw [St.next_set])); done) | decide +kernel) only [go_sem, ↓run_draw0, ↓reduceIte, Nat.reduceLT, Nat.reduceEqDiff, Nat.reduceAdd, Nat.reduceLeDiff, Nat.reduceMul, Nat.reduceSub, Int.cast_ofNat_Int, Int.reduceEq, Int.reduceLT, Int.reduceLE]
  by_cases h1 : lo ≤ n <;> by_cases h2 : n ≤ hi <;> simp (disch := first | omega | assumption | ((simp only [St.next_push, St.next_set]); omega) | exact one_int _ _ | exact one_bool _ | exact one_str _ | exact one_ptr _ _ | exact one_slice _ _ _ _ _ | exact one_nilSlice | exact isSl_slice _ _ _ _ _ | exact isSl_nil | exact one_fn _ _ _ | exact one_map _ | ((repeat (first | rw [St.next_push] | rw [St.next_set])); done) | decide +kernel) only [go_sem, ↓run_draw0, h1, h2, ↓reduceIte, Nat.reduceLT, Nat.reduceEqDiff, Nat.reduceAdd, Nat.reduceLeDiff, Nat.reduceMul, Nat.reduceSub, Int.cast_ofNat_Int, Int.reduceEq, Int.reduceLT, Int.reduceLE]

end R14
