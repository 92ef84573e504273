/-
  Part of a proof: see the last text of this claim.
-/
import Derived.Test.YthpaljelbkclbaaDoorN10
open Go Go.Abs Go.Proofs
set_option linter.unusedSimpArgs false
set_option linter.unusedVariables false
set_option maxRecDepth 100000
namespace R14
noncomputable section
def allRise (n : Nat) : Bool := Nat.rec true (fun b ih => risesOf (b : Int) true && (risesOf (b : Int) false && ih)) n
theorem allRise_at : ∀ n, allRise n = true → ∀ b, b < n → ∀ f, risesOf (b : Int) f = true
  | 0, _, b, hb, _ => by omega
  | n + 1, h, b, hb, f => by
    have h' : (risesOf (n : Int) true && (risesOf (n : Int) false && allRise n)) = true := h
    rw [Bool.and_eq_true, Bool.and_eq_true] at h'
    by_cases e : b = n
    · subst e; cases f
      · exact h'.2.1
      · exact h'.1
    · exact allRise_at n h'.2.2 b (by omega) f
theorem rise_all : allRise 256 = true := by kernel_rfl
/-- **LevelRises answers true, at every input.** -/
theorem s_LevelRises (b : Int) (h0 : 0 ≤ b) (h1 : b < 256) (f : Bool) : ∃ σ', (W cfg).f 3 [.int .u8 b, .bool f] σ0 = some (.bool true, σ') := by
  obtain ⟨n, rfl⟩ := Int.eq_ofNat_of_zero_le h0
  exact s_Rises _ _ (allRise_at 256 rise_all n (by omega) f)
end
end R14
