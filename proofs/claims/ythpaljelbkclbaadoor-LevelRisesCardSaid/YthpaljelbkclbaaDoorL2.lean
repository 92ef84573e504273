/-
  Part of a proof: see the last text of this claim.
-/
import Derived.Test.YthpaljelbkclbaaDoorL1
open Go Go.Abs Go.Proofs
set_option linter.unusedSimpArgs false
set_option linter.unusedVariables false
namespace R14
theorem s_IndexI {σ : St} {v : AV} {l : List Int} (x : Int) (h : Ints σ v l) (hn : l.length < 4294967296) : (W cfg).f 42 [v, .int .i64 x] σ = some (.int .i64 (idx (fun y => decide (x = y)) l), σ) := by
  have h2 := h.isSl
  have h3 := h.slenM
  rw [E_42]; simp only [bodyOf, Tryd.f42]
  simp (disch := first | omega | assumption | ((simp only [St.next_push, St.next_set]); omega) | exact one_int _ _ | exact one_bool _ | exact one_str _ | exact one_ptr _ _ | exact one_slice _ _ _ _ _ | exact one_nilSlice | exact isSl_slice _ _ _ _ _ | exact isSl_nil | exact one_fn _ _ _ | exact one_map _ | ((repeat (first | rw [St.next_push] | rw [St.next_set])); done) | decide +kernel) only [go_sem, ↓run_draw0, h3, ↓reduceIte, Nat.reduceLT, Nat.reduceEqDiff, Nat.reduceAdd, Nat.reduceLeDiff, Nat.reduceMul, Nat.reduceSub, Int.cast_ofNat_Int, Int.reduceEq, Int.reduceLT, Int.reduceLE]
  refine run_loop_inv cfg (Q := fun (r : ResF) => r = some (.int .i64 (idx (fun y => decide (x = y)) l), σ)) (I := fun n a σ1 => ∃ (η : Env) (i : Nat), a = ⟨mat 19 η, [], false⟩ ∧ i + n = l.length ∧ lk η 8 = .int .i64 (i : Nat) ∧ lk η 7 = .int .i64 l.length ∧ lk η 0 = v ∧ lk η 1 = .int .i64 x ∧ (∀ (j : Nat) (y : Int), j < i → l[j]? = some y → decide (x = y) = false) ∧ σ1 = σ)
    l.length ⟨_, 0, rfl, by omega, rfl, rfl, rfl, rfl, by omega, rfl⟩ ?_
  rintro n a σ1 ⟨η, i, rfl, hi, h8, h7, h0, h1, hno, rfl⟩ ih
  simp (disch := first | omega | assumption | ((simp only [St.next_push, St.next_set]); omega) | exact one_int _ _ | exact one_bool _ | exact one_str _ | exact one_ptr _ _ | exact one_slice _ _ _ _ _ | exact one_nilSlice | exact isSl_slice _ _ _ _ _ | exact isSl_nil | exact one_fn _ _ _ | exact one_map _ | ((repeat (first | rw [St.next_push] | rw [St.next_set])); done) | decide +kernel) only [go_sem, ↓run_draw0, h8, h7, ↓reduceIte, Nat.reduceLT, Nat.reduceEqDiff, Nat.reduceAdd, Nat.reduceLeDiff, Nat.reduceMul, Nat.reduceSub, Int.cast_ofNat_Int, Int.reduceEq, Int.reduceLT, Int.reduceLE]
  by_cases hlt : i < l.length
  · obtain ⟨id, off, cap, rfl, hid, _, _, hl0, _⟩ := h.atM (List.getElem?_eq_getElem hlt)
    have hl1 := hl0 (by omega)
    simp (disch := first | omega | assumption | ((simp only [St.next_push, St.next_set]); omega) | exact one_int _ _ | exact one_bool _ | exact one_str _ | exact one_ptr _ _ | exact one_slice _ _ _ _ _ | exact one_nilSlice | exact isSl_slice _ _ _ _ _ | exact isSl_nil | exact one_fn _ _ _ | exact one_map _ | ((repeat (first | rw [St.next_push] | rw [St.next_set])); done) | decide +kernel) only [go_sem, ↓run_draw0, h8, h7, h0, h1, hlt, hl1, Int.ofNat_lt, ↓reduceIte, Nat.reduceLT, Nat.reduceEqDiff, Nat.reduceAdd, Nat.reduceLeDiff, Nat.reduceMul, Nat.reduceSub, Int.cast_ofNat_Int, Int.reduceEq, Int.reduceLT, Int.reduceLE]
    by_cases hp : x = l[i]
    · rw [idx_hit (List.getElem?_eq_getElem hlt) (by simpa using hp) hno]
      simp (disch := first | omega | assumption | ((simp only [St.next_push, St.next_set]); omega) | exact one_int _ _ | exact one_bool _ | exact one_str _ | exact one_ptr _ _ | exact one_slice _ _ _ _ _ | exact one_nilSlice | exact isSl_slice _ _ _ _ _ | exact isSl_nil | exact one_fn _ _ _ | exact one_map _ | ((repeat (first | rw [St.next_push] | rw [St.next_set])); done) | decide +kernel) only [go_sem, ↓run_draw0, hp, ↓reduceIte, Nat.reduceLT, Nat.reduceEqDiff, Nat.reduceAdd, Nat.reduceLeDiff, Nat.reduceMul, Nat.reduceSub, Int.cast_ofNat_Int, Int.reduceEq, Int.reduceLT, Int.reduceLE]
    · have hw : wrapA .i64 ((i : Int) + 1) = ((i + 1 : Nat) : Int) := by rw [wrap64] <;> omega
      simp (disch := first | omega | assumption | ((simp only [St.next_push, St.next_set]); omega) | exact one_int _ _ | exact one_bool _ | exact one_str _ | exact one_ptr _ _ | exact one_slice _ _ _ _ _ | exact one_nilSlice | exact isSl_slice _ _ _ _ _ | exact isSl_nil | exact one_fn _ _ _ | exact one_map _ | ((repeat (first | rw [St.next_push] | rw [St.next_set])); done) | decide +kernel) only [go_sem, ↓run_draw0, h8, hw, hp, ↓reduceIte, Nat.reduceLT, Nat.reduceEqDiff, Nat.reduceAdd, Nat.reduceLeDiff, Nat.reduceMul, Nat.reduceSub, Int.cast_ofNat_Int, Int.reduceEq, Int.reduceLT, Int.reduceLE]
      exact ih (n - 1) _ _ (by omega) ⟨_, i + 1, rfl, by omega, rfl, h7, h0, h1, fun j y hj hy => by
        rcases Nat.lt_or_eq_of_le (Nat.le_of_lt_succ hj) with h | h
        · exact hno j y h hy
        · subst h; rw [List.getElem?_eq_getElem hlt] at hy; cases hy; simpa using hp, rfl⟩
  · simp (disch := first | omega | assumption | ((simp only [St.next_push, St.next_set]); omega) | exact one_int _ _ | exact one_bool _ | exact one_str _ | exact one_ptr _ _ | exact one_slice _ _ _ _ _ | exact one_nilSlice | exact isSl_slice _ _ _ _ _ | exact isSl_nil | exact one_fn _ _ _ | exact one_map _ | ((repeat (first | rw [St.next_push] | rw [St.next_set])); done) | decide +kernel) only [go_sem, ↓run_draw0, hlt, Int.ofNat_lt, ↓reduceIte, Nat.reduceLT, Nat.reduceEqDiff, Nat.reduceAdd, Nat.reduceLeDiff, Nat.reduceMul, Nat.reduceSub, Int.cast_ofNat_Int, Int.reduceEq, Int.reduceLT, Int.reduceLE]
    rw [idx_none fun j y hy => hno j y (by have := (List.getElem?_eq_some_iff.1 hy).1; omega) hy]

theorem s_ContainsI {σ : St} {v : AV} {l : List Int} (x : Int) (h : Ints σ v l) (hn : l.length < 4294967296) : (W cfg).f 27 [v, .int .i64 x] σ = some (.bool (l.any fun y => decide (x = y)), σ) := by
  rw [E_27]; simp only [bodyOf, Tryd.f27]
  simp (disch := first | omega | assumption | ((simp only [St.next_push, St.next_set]); omega) | exact one_int _ _ | exact one_bool _ | exact one_str _ | exact one_ptr _ _ | exact one_slice _ _ _ _ _ | exact one_nilSlice | exact isSl_slice _ _ _ _ _ | exact isSl_nil | exact one_fn _ _ _ | exact one_map _ | ((repeat (first | rw [St.next_push] | rw [St.next_set])); done) | decide +kernel) only [go_sem, ↓run_draw0, s_IndexI x h hn, idx_any, ↓reduceIte, Nat.reduceLT, Nat.reduceEqDiff, Nat.reduceAdd, Nat.reduceLeDiff, Nat.reduceMul, Nat.reduceSub, Int.cast_ofNat_Int, Int.reduceEq, Int.reduceLT, Int.reduceLE]

theorem s_Has {σ : St} {mv hv : AV} {l : List Int} (lv : Int) (fi : Bool) (x : Int) (h : Ints σ mv l) (hn : l.length < 4294967296) :
    ∃ σ', (W cfg).f 10 [.agg [mv, hv, .int .i64 lv, .bool fi], .int .i64 x] σ = some (.bool (l.any fun y => decide (x = y)), σ') ∧ Ext [] [] σ σ' := by
  have hx : Ext [] [] σ (σ.push (.cells [mv, hv, .int .i64 lv, .bool fi] 0 false)) := .push _ _ _ _
  rw [E_10]; simp only [bodyOf, Tryd.f10]
  simp (disch := first | omega | assumption | ((simp only [St.next_push, St.next_set]); omega) | exact one_int _ _ | exact one_bool _ | exact one_str _ | exact one_ptr _ _ | exact one_slice _ _ _ _ _ | exact one_nilSlice | exact isSl_slice _ _ _ _ _ | exact isSl_nil | exact one_fn _ _ _ | exact one_map _ | ((repeat (first | rw [St.next_push] | rw [St.next_set])); done) | decide +kernel) only [go_sem, ↓run_draw0, s_ContainsI x (h.ext hx) hn, ↓reduceIte, Nat.reduceLT, Nat.reduceEqDiff, Nat.reduceAdd, Nat.reduceLeDiff, Nat.reduceMul, Nat.reduceSub, Int.cast_ofNat_Int, Int.reduceEq, Int.reduceLT, Int.reduceLE]
  exact ⟨_, rfl, hx⟩

theorem s_Quorum {σ : St} {mv hv : AV} {l : List Int} (lv : Int) (fi : Bool) (h : Ints σ mv l) (hn : l.length < 4294967296) :
    ∃ σ', (W cfg).f 12 [.agg [mv, hv, .int .i64 lv, .bool fi]] σ = some (.int .i64 ((l.length / 2 + 1 : Nat) : Int), σ') ∧ Ext [] [] σ σ' := by
  have h2 := h.isSl
  have h3 := h.slenM
  have hw : wrapA .i64 (wrapA .i64 (Int.tdiv (l.length : Int) 2) + 1) = ((l.length / 2 + 1 : Nat) : Int) := by
    rw [show Int.tdiv (l.length : Int) 2 = ((l.length / 2 : Nat) : Int) from rfl, wrap64, wrap64] <;> (try rw [wrap64]) <;> omega
  rw [E_12]; simp only [bodyOf, Tryd.f12]
  simp (disch := first | omega | assumption | ((simp only [St.next_push, St.next_set]); omega) | exact one_int _ _ | exact one_bool _ | exact one_str _ | exact one_ptr _ _ | exact one_slice _ _ _ _ _ | exact one_nilSlice | exact isSl_slice _ _ _ _ _ | exact isSl_nil | exact one_fn _ _ _ | exact one_map _ | ((repeat (first | rw [St.next_push] | rw [St.next_set])); done) | decide +kernel) only [go_sem, ↓run_draw0, h3, hw, Int.reduceEq, ↓reduceIte, Nat.reduceLT, Nat.reduceEqDiff, Nat.reduceAdd, Nat.reduceLeDiff, Nat.reduceMul, Nat.reduceSub, Int.cast_ofNat_Int, Int.reduceEq, Int.reduceLT, Int.reduceLE]
  exact ⟨_, rfl, .push _ _ _ _⟩

/-- the last entry's place, and its term -/
def lastOf (base bterm : Int) (l : List Ent) : Int × Int := match l.getLast? with
  | some e => (e.index, e.term)
  | none => (base, bterm)

end R14
