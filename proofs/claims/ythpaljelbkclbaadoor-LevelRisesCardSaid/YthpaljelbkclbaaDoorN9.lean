/-
  Part of a proof: see the last text of this claim.
-/
import Derived.Test.YthpaljelbkclbaaDoorN8
open Go Go.Abs Go.Proofs
set_option linter.unusedSimpArgs false
set_option linter.unusedVariables false
set_option maxRecDepth 100000
namespace R14
noncomputable section
def σ0 : St := { next := 0, objs := Tree.nil }
def isT (x : ResF) : Bool := match x with | some (.bool b, _) => b | _ => false
theorem isT_ex {x : ResF} (h : isT x = true) : ∃ σ', x = some (.bool true, σ') := by
  unfold isT at h
  split at h
  · rename_i b σ'; subst h; exact ⟨σ', rfl⟩
  · cases h
theorem ex_ev : isT ((ev cfg 3000).f 5 [] σ0) = true := by kernel_rfl
theorem s_examples : ∃ σ', (W cfg).f 5 [] σ0 = some (.bool true, σ') := by
  obtain ⟨σ', h⟩ := isT_ex ex_ev
  exact ⟨σ', (W_f_iff cfg).2 ⟨_, h⟩⟩
end
end R14
