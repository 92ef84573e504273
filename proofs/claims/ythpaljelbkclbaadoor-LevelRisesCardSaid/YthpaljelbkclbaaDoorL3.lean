/-
  Part of a proof: see the last text of this claim.
-/
import Derived.Test.YthpaljelbkclbaaDoorL2
open Go Go.Abs Go.Proofs
set_option linter.unusedSimpArgs false
set_option linter.unusedVariables false
namespace R14
/-- the term of the entry at a place -/
def termOf (b bt : Int) (l : List Ent) (x : Int) : Int × Bool := if x = b then (bt, true) else match l.find? (fun e => decide (e.index = x)) with
  | some e => (e.term, true)
  | none => (0, false)
theorem find_idx {α : Type} (p : α → Bool) (l : List α) {i : Nat} {x : α} (h : idx p l = i) (hx : l[i]? = some x) : l.find? p = some x := by
  unfold idx at h
  cases hf : l.findIdx? p with
  | none => rw [hf] at h; simp only at h; omega
  | some j =>
    rw [hf] at h; simp only [Int.natCast_inj] at h; subst h
    rw [List.findIdx?_eq_some_iff_getElem] at hf
    obtain ⟨hi, hp, hn⟩ := hf
    rw [List.getElem?_eq_getElem hi] at hx; cases hx
    rw [List.find?_eq_some_iff_getElem]
    exact ⟨hp, j, hi, rfl, fun k hk => by simpa using hn k hk⟩
theorem find_idx_none {α : Type} (p : α → Bool) (l : List α) (h : idx p l = -1) : l.find? p = none := by
  unfold idx at h
  cases hf : l.findIdx? p with
  | some j => rw [hf] at h; simp at h
  | none => rw [List.findIdx?_eq_none_iff] at hf; rw [List.find?_eq_none]; intro x hx; simp [hf x hx]
end R14
