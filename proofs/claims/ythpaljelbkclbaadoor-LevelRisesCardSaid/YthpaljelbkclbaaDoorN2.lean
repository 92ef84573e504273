/-
  Part of a proof: see the last text of this claim.
-/
import Derived.Test.YthpaljelbkclbaaDoorN1
open Go Go.Abs Go.Proofs
set_option linter.unusedSimpArgs false
set_option linter.unusedVariables false
set_option maxRecDepth 100000
namespace R14
def gi (l : List Int) (j : Nat) : Int := l.getD j 0
/-- one goes down to its place -/
def sink (l : List Int) : Nat → List Int
  | 0 => l
  | j + 1 => bif decide (gi l (j + 1) < gi l j) then sink ((l.set (j + 1) (gi l j)).set j (gi l (j + 1))) j else l
def isortN (l : List Int) : Nat → List Int
  | 0 => l
  | i + 1 => sink (isortN l i) (i + 1)
def isort (l : List Int) : List Int := isortN l (l.length - 1)
theorem sink_len : ∀ (j : Nat) (l : List Int), (sink l j).length = l.length
  | 0, l => rfl
  | j + 1, l => by
    unfold sink
    cases decide (gi l (j + 1) < gi l j) with
    | true => simp [sink_len j]
    | false => rfl
theorem isortN_len (l : List Int) : ∀ i, (isortN l i).length = l.length
  | 0 => rfl
  | i + 1 => by unfold isortN; rw [sink_len, isortN_len l i]
theorem isort_len (l : List Int) : (isort l).length = l.length := isortN_len l _
theorem ld_iv {l : List Int} {j : Nat} (h : j < l.length) : ld1 (some (l.map iv)) j = some (.int .i64 (gi l j)) := by
  rw [ld1_some, List.getElem?_map, List.getElem?_eq_getElem h]
  unfold gi; rw [List.getD_eq_getElem?_getD, List.getElem?_eq_getElem h]; rfl
theorem splice_ii (l : List Int) {k : Nat} (x : Int) (h : k < l.length) : splice (l.map iv) k [.int .i64 x] = (l.set k x).map iv := splice_iv l k x h
set_option maxHeartbeats 1000000 in
theorem s_insSort {σ : St} {v : AV} {l : List Int} (h : OwnI σ v l) (hn : l.length < 4294967296) :
    ∃ σ' v', (W cfg).f 62 [v, .int .i64 0, .int .i64 l.length] σ = some (v', σ') ∧ OwnI σ' v (isort l) ∧ Ext (sid v) [] σ σ' := by
  rw [E_62]; simp only [bodyOf, Tryd.f62]
  simp (disch := first | omega | assumption | ((simp only [St.next_push, St.next_set]); omega) | exact one_int _ _ | exact one_bool _ | exact one_str _ | exact one_ptr _ _ | exact one_slice _ _ _ _ _ | exact one_nilSlice | exact isSl_slice _ _ _ _ _ | exact isSl_nil | exact one_fn _ _ _ | exact one_map _ | ((repeat (first | rw [St.next_push] | rw [St.next_set])); done) | decide +kernel) only [go_sem, ↓run_draw0, ↓reduceIte, Nat.reduceLT, Nat.reduceEqDiff, Nat.reduceAdd, Nat.reduceLeDiff, Nat.reduceMul, Nat.reduceSub, Int.cast_ofNat_Int, Int.reduceEq, Int.reduceLT, Int.reduceLE]
  refine run_loop_inv cfg (Q := fun (r : ResF) => ∃ σ' v', r = some (v', σ') ∧ OwnI σ' v (isort l) ∧ Ext (sid v) [] σ σ')
    (I := fun n a σ1 => ∃ (η : Env) (i : Nat), a = ⟨mat 49 η, [], false⟩ ∧ i + n = l.length + 1 ∧ lk η 6 = .int .i64 ((i + 1 : Nat) : Int) ∧ lk η 2 = .int .i64 l.length ∧ lk η 1 = .int .i64 0 ∧ lk η 0 = v ∧ OwnI σ1 v (isortN l i) ∧ (0 < i → i < l.length) ∧ Ext (sid v) [] σ σ1)
    (l.length + 1) ⟨_, 0, rfl, by omega, rfl, rfl, rfl, rfl, h, by omega, .refl _ _ _⟩ ?_
  rintro n a σ1 ⟨η, i, rfl, hi, h6, h2, h1, h0, hI, hil, hx⟩ ih
  simp (disch := first | omega | assumption | ((simp only [St.next_push, St.next_set]); omega) | exact one_int _ _ | exact one_bool _ | exact one_str _ | exact one_ptr _ _ | exact one_slice _ _ _ _ _ | exact one_nilSlice | exact isSl_slice _ _ _ _ _ | exact isSl_nil | exact one_fn _ _ _ | exact one_map _ | ((repeat (first | rw [St.next_push] | rw [St.next_set])); done) | decide +kernel) only [go_sem, ↓run_draw0, h6, h2, ↓reduceIte, Nat.reduceLT, Nat.reduceEqDiff, Nat.reduceAdd, Nat.reduceLeDiff, Nat.reduceMul, Nat.reduceSub, Int.cast_ofNat_Int, Int.reduceEq, Int.reduceLT, Int.reduceLE]
  by_cases hlt : i + 1 < l.length
  · have hlt0 := hlt
    have hlt' : ((i + 1 : Nat) : Int) < (l.length : Int) := by omega
    simp (disch := first | omega | assumption | ((simp only [St.next_push, St.next_set]); omega) | exact one_int _ _ | exact one_bool _ | exact one_str _ | exact one_ptr _ _ | exact one_slice _ _ _ _ _ | exact one_nilSlice | exact isSl_slice _ _ _ _ _ | exact isSl_nil | exact one_fn _ _ _ | exact one_map _ | ((repeat (first | rw [St.next_push] | rw [St.next_set])); done) | decide +kernel) only [go_sem, ↓run_draw0, h6, h2, hlt', ↓reduceIte, Nat.reduceLT, Nat.reduceEqDiff, Nat.reduceAdd, Nat.reduceLeDiff, Nat.reduceMul, Nat.reduceSub, Int.cast_ofNat_Int, Int.reduceEq, Int.reduceLT, Int.reduceLE]
    refine run_loop_inv cfg (Q := fun (r : ResF) => ∃ σ' v', r = some (v', σ') ∧ OwnI σ' v (isort l) ∧ Ext (sid v) [] σ σ')
      (I := fun n a σ2 => ∃ (η : Env) (j : Nat) (l' : List Int), a = ⟨mat 49 η, [], false⟩ ∧ j = n ∧ j ≤ i + 1 ∧ lk η 7 = .int .i64 (j : Int) ∧ lk η 6 = .int .i64 ((i + 1 : Nat) : Int) ∧ lk η 2 = .int .i64 l.length ∧ lk η 1 = .int .i64 0 ∧ lk η 0 = v ∧ OwnI σ2 v l' ∧ l'.length = l.length ∧ sink l' j = isortN l (i + 1) ∧ Ext (sid v) [] σ σ2)
      (i + 1) ⟨_, i + 1, isortN l i, rfl, rfl, Nat.le_refl _, by simp (disch := first | omega | assumption | ((simp only [St.next_push, St.next_set]); omega) | exact one_int _ _ | exact one_bool _ | exact one_str _ | exact one_ptr _ _ | exact one_slice _ _ _ _ _ | exact one_nilSlice | exact isSl_slice _ _ _ _ _ | exact isSl_nil | exact one_fn _ _ _ | exact one_map _ | ((repeat (first | rw [St.next_push] | rw [St.next_set])); done) | decide +kernel) only [go_sem, ↓run_draw0, h6, ↓reduceIte, Nat.reduceLT, Nat.reduceEqDiff, Nat.reduceAdd, Nat.reduceLeDiff, Nat.reduceMul, Nat.reduceSub, Int.cast_ofNat_Int, Int.reduceEq, Int.reduceLT, Int.reduceLE], h6, h2, h1, h0, hI, isortN_len l i, rfl, hx⟩ ?_
    rintro n2 a σ2 ⟨η, j, l', rfl, rfl, hj, h7, h6, h2, h1, h0, hI, hl', hsk, hx⟩ ih2
    rcases hI with ⟨rfl, rfl⟩ | ⟨id, hv, hg⟩
    · simp at hl'; omega
    rw [hv] at h0
    have hid := St.get_lt hg
    have hc : cellsOf σ2 id = some (l'.map iv) := by rw [cellsOf_get, hg]; rfl
    cases j with
    | zero =>
      have hd : ¬ (0 : Int) < ((0 : Nat) : Int) := by omega
      have hw : wrapA .i64 (((i + 1 : Nat) : Int) + 1) = ((i + 1 + 1 : Nat) : Int) := by rw [wrap64] <;> omega
      simp (disch := first | omega | assumption | ((simp only [St.next_push, St.next_set]); omega) | exact one_int _ _ | exact one_bool _ | exact one_str _ | exact one_ptr _ _ | exact one_slice _ _ _ _ _ | exact one_nilSlice | exact isSl_slice _ _ _ _ _ | exact isSl_nil | exact one_fn _ _ _ | exact one_map _ | ((repeat (first | rw [St.next_push] | rw [St.next_set])); done) | decide +kernel) only [go_sem, ↓run_draw0, h7, h6, h2, h1, h0, hd, hw, ↓reduceIte, Nat.reduceLT, Nat.reduceEqDiff, Nat.reduceAdd, Nat.reduceLeDiff, Nat.reduceMul, Nat.reduceSub, Int.cast_ofNat_Int, Int.reduceEq, Int.reduceLT, Int.reduceLE]
      exact ih (n - 1) _ _ (by omega) ⟨_, i + 1, rfl, by omega, rfl, h2, h1, h0.trans hv.symm, by rw [← hsk]; exact .inr ⟨id, hv, hg⟩, fun _ => hlt, hx⟩
    | succ j =>
      have hd : (0 : Int) < ((j + 1 : Nat) : Int) := by omega
      have hw : wrapA .i64 (((j + 1 : Nat) : Int) - 1) = (j : Int) := by rw [wrap64] <;> omega
      have hj1 : j + 1 < l'.length := by omega
      have hj0 : j < l'.length := by omega
      have k1 : j + 1 < l.length := by omega
      have k0 : j < l.length := by omega
      have k2 : j + 1 + 1 ≤ l.length := by omega
      have k1' : j + 1 ≤ l.length := by omega
      have hj0' : j < (l'.set (j + 1) (gi l' j)).length := by simp; omega
      have e1 := ld_iv hj1
      have e0 := ld_iv hj0
      cases hlt : decide (gi l' (j + 1) < gi l' j)
      · simp (disch := first | omega | assumption | ((simp only [St.next_push, St.next_set]); omega) | exact one_int _ _ | exact one_bool _ | exact one_str _ | exact one_ptr _ _ | exact one_slice _ _ _ _ _ | exact one_nilSlice | exact isSl_slice _ _ _ _ _ | exact isSl_nil | exact one_fn _ _ _ | exact one_map _ | ((repeat (first | rw [St.next_push] | rw [St.next_set])); done) | decide +kernel) only [go_sem, ↓run_draw0, h7, h6, h2, h1, h0, hd, hw, hc, e1, e0, s_less, hlt, k1, k0, hl', Nat.mul_one, ↓reduceIte, Nat.reduceLT, Nat.reduceEqDiff, Nat.reduceAdd, Nat.reduceLeDiff, Nat.reduceMul, Nat.reduceSub, Int.cast_ofNat_Int, Int.reduceEq, Int.reduceLT, Int.reduceLE]
        have hw2 : wrapA .i64 (((i + 1 : Nat) : Int) + 1) = ((i + 1 + 1 : Nat) : Int) := by rw [wrap64] <;> omega
        rw [hw2]
        exact ih (n - 1) _ _ (by omega) ⟨_, i + 1, rfl, by omega, rfl, h2, h1, h0.trans hv.symm, by rw [← hsk]; unfold sink; rw [hlt]; exact .inr ⟨id, hv, hg⟩, fun _ => hlt0, hx⟩
      · have hw2 : wrapA .i64 (((i + 1 : Nat) : Int) + 1) = ((i + 1 + 1 : Nat) : Int) := by rw [wrap64] <;> omega
        simp (disch := first | omega | assumption | ((simp only [St.next_push, St.next_set]); omega) | exact one_int _ _ | exact one_bool _ | exact one_str _ | exact one_ptr _ _ | exact one_slice _ _ _ _ _ | exact one_nilSlice | exact isSl_slice _ _ _ _ _ | exact isSl_nil | exact one_fn _ _ _ | exact one_map _ | ((repeat (first | rw [St.next_push] | rw [St.next_set])); done) | decide +kernel) only [go_sem, ↓run_draw0, h7, h6, h2, h1, h0, hd, hw, hc, e1, e0, s_less, hlt, k1, k0, hl', Nat.mul_one, hg, splice_ii _ _ hj1, List.length_map, List.length_set, Nat.zero_le, k2, k1', splice_ii (l'.set (j + 1) (gi l' j)) _ hj0', ↓reduceIte, Nat.reduceLT, Nat.reduceEqDiff, Nat.reduceAdd, Nat.reduceLeDiff, Nat.reduceMul, Nat.reduceSub, Int.cast_ofNat_Int, Int.reduceEq, Int.reduceLT, Int.reduceLE]
        refine ih2 j _ _ (by omega) ⟨_, j, (l'.set (j + 1) (gi l' j)).set j (gi l' (j + 1)), rfl, rfl, by omega, rfl, h6, h2, h1, h0.trans hv.symm, .inr ⟨id, by rw [hv]; simp, St.get_set_eq _ _ rfl hid⟩, by simpa using hl', ?_, hx.setR _ (.inl (by rw [hv]; simp [sid]))⟩
        rw [← hsk]
        conv => rhs; unfold sink
        rw [hlt]; rfl
  · have hlt' : ¬ ((i + 1 : Nat) : Int) < (l.length : Int) := by omega
    simp (disch := first | omega | assumption | ((simp only [St.next_push, St.next_set]); omega) | exact one_int _ _ | exact one_bool _ | exact one_str _ | exact one_ptr _ _ | exact one_slice _ _ _ _ _ | exact one_nilSlice | exact isSl_slice _ _ _ _ _ | exact isSl_nil | exact one_fn _ _ _ | exact one_map _ | ((repeat (first | rw [St.next_push] | rw [St.next_set])); done) | decide +kernel) only [go_sem, ↓run_draw0, h6, h2, hlt', ↓reduceIte, Nat.reduceLT, Nat.reduceEqDiff, Nat.reduceAdd, Nat.reduceLeDiff, Nat.reduceMul, Nat.reduceSub, Int.cast_ofNat_Int, Int.reduceEq, Int.reduceLT, Int.reduceLE]
    refine ⟨_, _, rfl, ?_, hx⟩
    unfold isort
    rcases Nat.eq_zero_or_pos i with h0 | h0
    · subst h0; rw [show l.length - 1 = 0 by omega]; exact hI
    · have := hil h0
      rw [show l.length - 1 = i by omega]; exact hI
theorem s_pdq {σ : St} {v : AV} {l : List Int} (lim : Int) (h : OwnI σ v l) (hn : l.length ≤ 12) :
    ∃ σ' v', (W cfg).f 48 [v, .int .i64 0, .int .i64 l.length, .int .i64 lim] σ = some (v', σ') ∧ OwnI σ' v (isort l) ∧ Ext (sid v) [] σ σ' := by
  obtain ⟨σ', v', h1, h2⟩ := s_insSort h (by omega)
  have hw : wrapA .i64 ((l.length : Int) - 0) = l.length := by rw [wrap64] <;> omega
  have hd : (l.length : Int) ≤ 12 := by omega
  rw [E_48]; simp only [bodyOf, Tryd.f48]
  simp (disch := first | omega | assumption | ((simp only [St.next_push, St.next_set]); omega) | exact one_int _ _ | exact one_bool _ | exact one_str _ | exact one_ptr _ _ | exact one_slice _ _ _ _ _ | exact one_nilSlice | exact isSl_slice _ _ _ _ _ | exact isSl_nil | exact one_fn _ _ _ | exact one_map _ | ((repeat (first | rw [St.next_push] | rw [St.next_set])); done) | decide +kernel) only [go_sem, ↓run_draw0, ↓reduceIte, Nat.reduceLT, Nat.reduceEqDiff, Nat.reduceAdd, Nat.reduceLeDiff, Nat.reduceMul, Nat.reduceSub, Int.cast_ofNat_Int, Int.reduceEq, Int.reduceLT, Int.reduceLE]
  rw [run_loop]
  simp (disch := first | omega | assumption | ((simp only [St.next_push, St.next_set]); omega) | exact one_int _ _ | exact one_bool _ | exact one_str _ | exact one_ptr _ _ | exact one_slice _ _ _ _ _ | exact one_nilSlice | exact isSl_slice _ _ _ _ _ | exact isSl_nil | exact one_fn _ _ _ | exact one_map _ | ((repeat (first | rw [St.next_push] | rw [St.next_set])); done) | decide +kernel) only [go_sem, ↓run_draw0, hw, hd, h1, ↓reduceIte, Nat.reduceLT, Nat.reduceEqDiff, Nat.reduceAdd, Nat.reduceLeDiff, Nat.reduceMul, Nat.reduceSub, Int.cast_ofNat_Int, Int.reduceEq, Int.reduceLT, Int.reduceLE]
  exact ⟨_, _, rfl, h2⟩
theorem s_Len (n : Nat) (hn : n ≤ 12) (σ : St) : ∃ k : Int, (W cfg).f 49 [.int .u64 n] σ = some (.int .i64 k, σ) := by
  have h : ∃ k : Int, (W cfg).f 71 [.int .u64 n] σ = some (.int .i64 k, σ) := by
    rcases n with _ | _ | _ | _ | _ | _ | _ | _ | _ | _ | _ | _ | _ | n
    all_goals try omega
    · rw [E_71]; simp only [bodyOf, Tryd.f71]
      simp (disch := first | omega | assumption | ((simp only [St.next_push, St.next_set]); omega) | exact one_int _ _ | exact one_bool _ | exact one_str _ | exact one_ptr _ _ | exact one_slice _ _ _ _ _ | exact one_nilSlice | exact isSl_slice _ _ _ _ _ | exact isSl_nil | exact one_fn _ _ _ | exact one_map _ | ((repeat (first | rw [St.next_push] | rw [St.next_set])); done) | decide +kernel) only [go_sem, ↓run_draw0, ↓reduceIte, Nat.reduceLT, Nat.reduceEqDiff, Nat.reduceAdd, Nat.reduceLeDiff, Nat.reduceMul, Nat.reduceSub, Int.cast_ofNat_Int, Int.reduceEq, Int.reduceLT, Int.reduceLE]
      generalize hq : aIndex cfg.T 9 _ _ = q
      have hq' : q = some (.int .u8 0) := by rw [← hq]; kernel_rfl
      subst hq'
      simp (disch := first | omega | assumption | ((simp only [St.next_push, St.next_set]); omega) | exact one_int _ _ | exact one_bool _ | exact one_str _ | exact one_ptr _ _ | exact one_slice _ _ _ _ _ | exact one_nilSlice | exact isSl_slice _ _ _ _ _ | exact isSl_nil | exact one_fn _ _ _ | exact one_map _ | ((repeat (first | rw [St.next_push] | rw [St.next_set])); done) | decide +kernel) only [go_sem, ↓run_draw0, ↓reduceIte, Nat.reduceLT, Nat.reduceEqDiff, Nat.reduceAdd, Nat.reduceLeDiff, Nat.reduceMul, Nat.reduceSub, Int.cast_ofNat_Int, Int.reduceEq, Int.reduceLT, Int.reduceLE]
      exact ⟨_, rfl⟩
    · rw [E_71]; simp only [bodyOf, Tryd.f71]
      simp (disch := first | omega | assumption | ((simp only [St.next_push, St.next_set]); omega) | exact one_int _ _ | exact one_bool _ | exact one_str _ | exact one_ptr _ _ | exact one_slice _ _ _ _ _ | exact one_nilSlice | exact isSl_slice _ _ _ _ _ | exact isSl_nil | exact one_fn _ _ _ | exact one_map _ | ((repeat (first | rw [St.next_push] | rw [St.next_set])); done) | decide +kernel) only [go_sem, ↓run_draw0, ↓reduceIte, Nat.reduceLT, Nat.reduceEqDiff, Nat.reduceAdd, Nat.reduceLeDiff, Nat.reduceMul, Nat.reduceSub, Int.cast_ofNat_Int, Int.reduceEq, Int.reduceLT, Int.reduceLE]
      generalize hq : aIndex cfg.T 9 _ _ = q
      have hq' : q = some (.int .u8 1) := by rw [← hq]; kernel_rfl
      subst hq'
      simp (disch := first | omega | assumption | ((simp only [St.next_push, St.next_set]); omega) | exact one_int _ _ | exact one_bool _ | exact one_str _ | exact one_ptr _ _ | exact one_slice _ _ _ _ _ | exact one_nilSlice | exact isSl_slice _ _ _ _ _ | exact isSl_nil | exact one_fn _ _ _ | exact one_map _ | ((repeat (first | rw [St.next_push] | rw [St.next_set])); done) | decide +kernel) only [go_sem, ↓run_draw0, ↓reduceIte, Nat.reduceLT, Nat.reduceEqDiff, Nat.reduceAdd, Nat.reduceLeDiff, Nat.reduceMul, Nat.reduceSub, Int.cast_ofNat_Int, Int.reduceEq, Int.reduceLT, Int.reduceLE]
      exact ⟨_, rfl⟩
    · rw [E_71]; simp only [bodyOf, Tryd.f71]
      simp (disch := first | omega | assumption | ((simp only [St.next_push, St.next_set]); omega) | exact one_int _ _ | exact one_bool _ | exact one_str _ | exact one_ptr _ _ | exact one_slice _ _ _ _ _ | exact one_nilSlice | exact isSl_slice _ _ _ _ _ | exact isSl_nil | exact one_fn _ _ _ | exact one_map _ | ((repeat (first | rw [St.next_push] | rw [St.next_set])); done) | decide +kernel) only [go_sem, ↓run_draw0, ↓reduceIte, Nat.reduceLT, Nat.reduceEqDiff, Nat.reduceAdd, Nat.reduceLeDiff, Nat.reduceMul, Nat.reduceSub, Int.cast_ofNat_Int, Int.reduceEq, Int.reduceLT, Int.reduceLE]
      generalize hq : aIndex cfg.T 9 _ _ = q
      have hq' : q = some (.int .u8 2) := by rw [← hq]; kernel_rfl
      subst hq'
      simp (disch := first | omega | assumption | ((simp only [St.next_push, St.next_set]); omega) | exact one_int _ _ | exact one_bool _ | exact one_str _ | exact one_ptr _ _ | exact one_slice _ _ _ _ _ | exact one_nilSlice | exact isSl_slice _ _ _ _ _ | exact isSl_nil | exact one_fn _ _ _ | exact one_map _ | ((repeat (first | rw [St.next_push] | rw [St.next_set])); done) | decide +kernel) only [go_sem, ↓run_draw0, ↓reduceIte, Nat.reduceLT, Nat.reduceEqDiff, Nat.reduceAdd, Nat.reduceLeDiff, Nat.reduceMul, Nat.reduceSub, Int.cast_ofNat_Int, Int.reduceEq, Int.reduceLT, Int.reduceLE]
      exact ⟨_, rfl⟩
    · rw [E_71]; simp only [bodyOf, Tryd.f71]
      simp (disch := first | omega | assumption | ((simp only [St.next_push, St.next_set]); omega) | exact one_int _ _ | exact one_bool _ | exact one_str _ | exact one_ptr _ _ | exact one_slice _ _ _ _ _ | exact one_nilSlice | exact isSl_slice _ _ _ _ _ | exact isSl_nil | exact one_fn _ _ _ | exact one_map _ | ((repeat (first | rw [St.next_push] | rw [St.next_set])); done) | decide +kernel) only [go_sem, ↓run_draw0, ↓reduceIte, Nat.reduceLT, Nat.reduceEqDiff, Nat.reduceAdd, Nat.reduceLeDiff, Nat.reduceMul, Nat.reduceSub, Int.cast_ofNat_Int, Int.reduceEq, Int.reduceLT, Int.reduceLE]
      generalize hq : aIndex cfg.T 9 _ _ = q
      have hq' : q = some (.int .u8 2) := by rw [← hq]; kernel_rfl
      subst hq'
      simp (disch := first | omega | assumption | ((simp only [St.next_push, St.next_set]); omega) | exact one_int _ _ | exact one_bool _ | exact one_str _ | exact one_ptr _ _ | exact one_slice _ _ _ _ _ | exact one_nilSlice | exact isSl_slice _ _ _ _ _ | exact isSl_nil | exact one_fn _ _ _ | exact one_map _ | ((repeat (first | rw [St.next_push] | rw [St.next_set])); done) | decide +kernel) only [go_sem, ↓run_draw0, ↓reduceIte, Nat.reduceLT, Nat.reduceEqDiff, Nat.reduceAdd, Nat.reduceLeDiff, Nat.reduceMul, Nat.reduceSub, Int.cast_ofNat_Int, Int.reduceEq, Int.reduceLT, Int.reduceLE]
      exact ⟨_, rfl⟩
    · rw [E_71]; simp only [bodyOf, Tryd.f71]
      simp (disch := first | omega | assumption | ((simp only [St.next_push, St.next_set]); omega) | exact one_int _ _ | exact one_bool _ | exact one_str _ | exact one_ptr _ _ | exact one_slice _ _ _ _ _ | exact one_nilSlice | exact isSl_slice _ _ _ _ _ | exact isSl_nil | exact one_fn _ _ _ | exact one_map _ | ((repeat (first | rw [St.next_push] | rw [St.next_set])); done) | decide +kernel) only [go_sem, ↓run_draw0, ↓reduceIte, Nat.reduceLT, Nat.reduceEqDiff, Nat.reduceAdd, Nat.reduceLeDiff, Nat.reduceMul, Nat.reduceSub, Int.cast_ofNat_Int, Int.reduceEq, Int.reduceLT, Int.reduceLE]
      generalize hq : aIndex cfg.T 9 _ _ = q
      have hq' : q = some (.int .u8 3) := by rw [← hq]; kernel_rfl
      subst hq'
      simp (disch := first | omega | assumption | ((simp only [St.next_push, St.next_set]); omega) | exact one_int _ _ | exact one_bool _ | exact one_str _ | exact one_ptr _ _ | exact one_slice _ _ _ _ _ | exact one_nilSlice | exact isSl_slice _ _ _ _ _ | exact isSl_nil | exact one_fn _ _ _ | exact one_map _ | ((repeat (first | rw [St.next_push] | rw [St.next_set])); done) | decide +kernel) only [go_sem, ↓run_draw0, ↓reduceIte, Nat.reduceLT, Nat.reduceEqDiff, Nat.reduceAdd, Nat.reduceLeDiff, Nat.reduceMul, Nat.reduceSub, Int.cast_ofNat_Int, Int.reduceEq, Int.reduceLT, Int.reduceLE]
      exact ⟨_, rfl⟩
    · rw [E_71]; simp only [bodyOf, Tryd.f71]
      simp (disch := first | omega | assumption | ((simp only [St.next_push, St.next_set]); omega) | exact one_int _ _ | exact one_bool _ | exact one_str _ | exact one_ptr _ _ | exact one_slice _ _ _ _ _ | exact one_nilSlice | exact isSl_slice _ _ _ _ _ | exact isSl_nil | exact one_fn _ _ _ | exact one_map _ | ((repeat (first | rw [St.next_push] | rw [St.next_set])); done) | decide +kernel) only [go_sem, ↓run_draw0, ↓reduceIte, Nat.reduceLT, Nat.reduceEqDiff, Nat.reduceAdd, Nat.reduceLeDiff, Nat.reduceMul, Nat.reduceSub, Int.cast_ofNat_Int, Int.reduceEq, Int.reduceLT, Int.reduceLE]
      generalize hq : aIndex cfg.T 9 _ _ = q
      have hq' : q = some (.int .u8 3) := by rw [← hq]; kernel_rfl
      subst hq'
      simp (disch := first | omega | assumption | ((simp only [St.next_push, St.next_set]); omega) | exact one_int _ _ | exact one_bool _ | exact one_str _ | exact one_ptr _ _ | exact one_slice _ _ _ _ _ | exact one_nilSlice | exact isSl_slice _ _ _ _ _ | exact isSl_nil | exact one_fn _ _ _ | exact one_map _ | ((repeat (first | rw [St.next_push] | rw [St.next_set])); done) | decide +kernel) only [go_sem, ↓run_draw0, ↓reduceIte, Nat.reduceLT, Nat.reduceEqDiff, Nat.reduceAdd, Nat.reduceLeDiff, Nat.reduceMul, Nat.reduceSub, Int.cast_ofNat_Int, Int.reduceEq, Int.reduceLT, Int.reduceLE]
      exact ⟨_, rfl⟩
    · rw [E_71]; simp only [bodyOf, Tryd.f71]
      simp (disch := first | omega | assumption | ((simp only [St.next_push, St.next_set]); omega) | exact one_int _ _ | exact one_bool _ | exact one_str _ | exact one_ptr _ _ | exact one_slice _ _ _ _ _ | exact one_nilSlice | exact isSl_slice _ _ _ _ _ | exact isSl_nil | exact one_fn _ _ _ | exact one_map _ | ((repeat (first | rw [St.next_push] | rw [St.next_set])); done) | decide +kernel) only [go_sem, ↓run_draw0, ↓reduceIte, Nat.reduceLT, Nat.reduceEqDiff, Nat.reduceAdd, Nat.reduceLeDiff, Nat.reduceMul, Nat.reduceSub, Int.cast_ofNat_Int, Int.reduceEq, Int.reduceLT, Int.reduceLE]
      generalize hq : aIndex cfg.T 9 _ _ = q
      have hq' : q = some (.int .u8 3) := by rw [← hq]; kernel_rfl
      subst hq'
      simp (disch := first | omega | assumption | ((simp only [St.next_push, St.next_set]); omega) | exact one_int _ _ | exact one_bool _ | exact one_str _ | exact one_ptr _ _ | exact one_slice _ _ _ _ _ | exact one_nilSlice | exact isSl_slice _ _ _ _ _ | exact isSl_nil | exact one_fn _ _ _ | exact one_map _ | ((repeat (first | rw [St.next_push] | rw [St.next_set])); done) | decide +kernel) only [go_sem, ↓run_draw0, ↓reduceIte, Nat.reduceLT, Nat.reduceEqDiff, Nat.reduceAdd, Nat.reduceLeDiff, Nat.reduceMul, Nat.reduceSub, Int.cast_ofNat_Int, Int.reduceEq, Int.reduceLT, Int.reduceLE]
      exact ⟨_, rfl⟩
    · rw [E_71]; simp only [bodyOf, Tryd.f71]
      simp (disch := first | omega | assumption | ((simp only [St.next_push, St.next_set]); omega) | exact one_int _ _ | exact one_bool _ | exact one_str _ | exact one_ptr _ _ | exact one_slice _ _ _ _ _ | exact one_nilSlice | exact isSl_slice _ _ _ _ _ | exact isSl_nil | exact one_fn _ _ _ | exact one_map _ | ((repeat (first | rw [St.next_push] | rw [St.next_set])); done) | decide +kernel) only [go_sem, ↓run_draw0, ↓reduceIte, Nat.reduceLT, Nat.reduceEqDiff, Nat.reduceAdd, Nat.reduceLeDiff, Nat.reduceMul, Nat.reduceSub, Int.cast_ofNat_Int, Int.reduceEq, Int.reduceLT, Int.reduceLE]
      generalize hq : aIndex cfg.T 9 _ _ = q
      have hq' : q = some (.int .u8 3) := by rw [← hq]; kernel_rfl
      subst hq'
      simp (disch := first | omega | assumption | ((simp only [St.next_push, St.next_set]); omega) | exact one_int _ _ | exact one_bool _ | exact one_str _ | exact one_ptr _ _ | exact one_slice _ _ _ _ _ | exact one_nilSlice | exact isSl_slice _ _ _ _ _ | exact isSl_nil | exact one_fn _ _ _ | exact one_map _ | ((repeat (first | rw [St.next_push] | rw [St.next_set])); done) | decide +kernel) only [go_sem, ↓run_draw0, ↓reduceIte, Nat.reduceLT, Nat.reduceEqDiff, Nat.reduceAdd, Nat.reduceLeDiff, Nat.reduceMul, Nat.reduceSub, Int.cast_ofNat_Int, Int.reduceEq, Int.reduceLT, Int.reduceLE]
      exact ⟨_, rfl⟩
    · rw [E_71]; simp only [bodyOf, Tryd.f71]
      simp (disch := first | omega | assumption | ((simp only [St.next_push, St.next_set]); omega) | exact one_int _ _ | exact one_bool _ | exact one_str _ | exact one_ptr _ _ | exact one_slice _ _ _ _ _ | exact one_nilSlice | exact isSl_slice _ _ _ _ _ | exact isSl_nil | exact one_fn _ _ _ | exact one_map _ | ((repeat (first | rw [St.next_push] | rw [St.next_set])); done) | decide +kernel) only [go_sem, ↓run_draw0, ↓reduceIte, Nat.reduceLT, Nat.reduceEqDiff, Nat.reduceAdd, Nat.reduceLeDiff, Nat.reduceMul, Nat.reduceSub, Int.cast_ofNat_Int, Int.reduceEq, Int.reduceLT, Int.reduceLE]
      generalize hq : aIndex cfg.T 9 _ _ = q
      have hq' : q = some (.int .u8 4) := by rw [← hq]; kernel_rfl
      subst hq'
      simp (disch := first | omega | assumption | ((simp only [St.next_push, St.next_set]); omega) | exact one_int _ _ | exact one_bool _ | exact one_str _ | exact one_ptr _ _ | exact one_slice _ _ _ _ _ | exact one_nilSlice | exact isSl_slice _ _ _ _ _ | exact isSl_nil | exact one_fn _ _ _ | exact one_map _ | ((repeat (first | rw [St.next_push] | rw [St.next_set])); done) | decide +kernel) only [go_sem, ↓run_draw0, ↓reduceIte, Nat.reduceLT, Nat.reduceEqDiff, Nat.reduceAdd, Nat.reduceLeDiff, Nat.reduceMul, Nat.reduceSub, Int.cast_ofNat_Int, Int.reduceEq, Int.reduceLT, Int.reduceLE]
      exact ⟨_, rfl⟩
    · rw [E_71]; simp only [bodyOf, Tryd.f71]
      simp (disch := first | omega | assumption | ((simp only [St.next_push, St.next_set]); omega) | exact one_int _ _ | exact one_bool _ | exact one_str _ | exact one_ptr _ _ | exact one_slice _ _ _ _ _ | exact one_nilSlice | exact isSl_slice _ _ _ _ _ | exact isSl_nil | exact one_fn _ _ _ | exact one_map _ | ((repeat (first | rw [St.next_push] | rw [St.next_set])); done) | decide +kernel) only [go_sem, ↓run_draw0, ↓reduceIte, Nat.reduceLT, Nat.reduceEqDiff, Nat.reduceAdd, Nat.reduceLeDiff, Nat.reduceMul, Nat.reduceSub, Int.cast_ofNat_Int, Int.reduceEq, Int.reduceLT, Int.reduceLE]
      generalize hq : aIndex cfg.T 9 _ _ = q
      have hq' : q = some (.int .u8 4) := by rw [← hq]; kernel_rfl
      subst hq'
      simp (disch := first | omega | assumption | ((simp only [St.next_push, St.next_set]); omega) | exact one_int _ _ | exact one_bool _ | exact one_str _ | exact one_ptr _ _ | exact one_slice _ _ _ _ _ | exact one_nilSlice | exact isSl_slice _ _ _ _ _ | exact isSl_nil | exact one_fn _ _ _ | exact one_map _ | ((repeat (first | rw [St.next_push] | rw [St.next_set])); done) | decide +kernel) only [go_sem, ↓run_draw0, ↓reduceIte, Nat.reduceLT, Nat.reduceEqDiff, Nat.reduceAdd, Nat.reduceLeDiff, Nat.reduceMul, Nat.reduceSub, Int.cast_ofNat_Int, Int.reduceEq, Int.reduceLT, Int.reduceLE]
      exact ⟨_, rfl⟩
    · rw [E_71]; simp only [bodyOf, Tryd.f71]
      simp (disch := first | omega | assumption | ((simp only [St.next_push, St.next_set]); omega) | exact one_int _ _ | exact one_bool _ | exact one_str _ | exact one_ptr _ _ | exact one_slice _ _ _ _ _ | exact one_nilSlice | exact isSl_slice _ _ _ _ _ | exact isSl_nil | exact one_fn _ _ _ | exact one_map _ | ((repeat (first | rw [St.next_push] | rw [St.next_set])); done) | decide +kernel) only [go_sem, ↓run_draw0, ↓reduceIte, Nat.reduceLT, Nat.reduceEqDiff, Nat.reduceAdd, Nat.reduceLeDiff, Nat.reduceMul, Nat.reduceSub, Int.cast_ofNat_Int, Int.reduceEq, Int.reduceLT, Int.reduceLE]
      generalize hq : aIndex cfg.T 9 _ _ = q
      have hq' : q = some (.int .u8 4) := by rw [← hq]; kernel_rfl
      subst hq'
      simp (disch := first | omega | assumption | ((simp only [St.next_push, St.next_set]); omega) | exact one_int _ _ | exact one_bool _ | exact one_str _ | exact one_ptr _ _ | exact one_slice _ _ _ _ _ | exact one_nilSlice | exact isSl_slice _ _ _ _ _ | exact isSl_nil | exact one_fn _ _ _ | exact one_map _ | ((repeat (first | rw [St.next_push] | rw [St.next_set])); done) | decide +kernel) only [go_sem, ↓run_draw0, ↓reduceIte, Nat.reduceLT, Nat.reduceEqDiff, Nat.reduceAdd, Nat.reduceLeDiff, Nat.reduceMul, Nat.reduceSub, Int.cast_ofNat_Int, Int.reduceEq, Int.reduceLT, Int.reduceLE]
      exact ⟨_, rfl⟩
    · rw [E_71]; simp only [bodyOf, Tryd.f71]
      simp (disch := first | omega | assumption | ((simp only [St.next_push, St.next_set]); omega) | exact one_int _ _ | exact one_bool _ | exact one_str _ | exact one_ptr _ _ | exact one_slice _ _ _ _ _ | exact one_nilSlice | exact isSl_slice _ _ _ _ _ | exact isSl_nil | exact one_fn _ _ _ | exact one_map _ | ((repeat (first | rw [St.next_push] | rw [St.next_set])); done) | decide +kernel) only [go_sem, ↓run_draw0, ↓reduceIte, Nat.reduceLT, Nat.reduceEqDiff, Nat.reduceAdd, Nat.reduceLeDiff, Nat.reduceMul, Nat.reduceSub, Int.cast_ofNat_Int, Int.reduceEq, Int.reduceLT, Int.reduceLE]
      generalize hq : aIndex cfg.T 9 _ _ = q
      have hq' : q = some (.int .u8 4) := by rw [← hq]; kernel_rfl
      subst hq'
      simp (disch := first | omega | assumption | ((simp only [St.next_push, St.next_set]); omega) | exact one_int _ _ | exact one_bool _ | exact one_str _ | exact one_ptr _ _ | exact one_slice _ _ _ _ _ | exact one_nilSlice | exact isSl_slice _ _ _ _ _ | exact isSl_nil | exact one_fn _ _ _ | exact one_map _ | ((repeat (first | rw [St.next_push] | rw [St.next_set])); done) | decide +kernel) only [go_sem, ↓run_draw0, ↓reduceIte, Nat.reduceLT, Nat.reduceEqDiff, Nat.reduceAdd, Nat.reduceLeDiff, Nat.reduceMul, Nat.reduceSub, Int.cast_ofNat_Int, Int.reduceEq, Int.reduceLT, Int.reduceLE]
      exact ⟨_, rfl⟩
    · rw [E_71]; simp only [bodyOf, Tryd.f71]
      simp (disch := first | omega | assumption | ((simp only [St.next_push, St.next_set]); omega) | exact one_int _ _ | exact one_bool _ | exact one_str _ | exact one_ptr _ _ | exact one_slice _ _ _ _ _ | exact one_nilSlice | exact isSl_slice _ _ _ _ _ | exact isSl_nil | exact one_fn _ _ _ | exact one_map _ | ((repeat (first | rw [St.next_push] | rw [St.next_set])); done) | decide +kernel) only [go_sem, ↓run_draw0, ↓reduceIte, Nat.reduceLT, Nat.reduceEqDiff, Nat.reduceAdd, Nat.reduceLeDiff, Nat.reduceMul, Nat.reduceSub, Int.cast_ofNat_Int, Int.reduceEq, Int.reduceLT, Int.reduceLE]
      generalize hq : aIndex cfg.T 9 _ _ = q
      have hq' : q = some (.int .u8 4) := by rw [← hq]; kernel_rfl
      subst hq'
      simp (disch := first | omega | assumption | ((simp only [St.next_push, St.next_set]); omega) | exact one_int _ _ | exact one_bool _ | exact one_str _ | exact one_ptr _ _ | exact one_slice _ _ _ _ _ | exact one_nilSlice | exact isSl_slice _ _ _ _ _ | exact isSl_nil | exact one_fn _ _ _ | exact one_map _ | ((repeat (first | rw [St.next_push] | rw [St.next_set])); done) | decide +kernel) only [go_sem, ↓run_draw0, ↓reduceIte, Nat.reduceLT, Nat.reduceEqDiff, Nat.reduceAdd, Nat.reduceLeDiff, Nat.reduceMul, Nat.reduceSub, Int.cast_ofNat_Int, Int.reduceEq, Int.reduceLT, Int.reduceLE]
      exact ⟨_, rfl⟩
  obtain ⟨k, h⟩ := h
  refine ⟨k, ?_⟩
  rw [E_49]; simp only [bodyOf, Tryd.f49]
  simp (disch := first | omega | assumption | ((simp only [St.next_push, St.next_set]); omega) | exact one_int _ _ | exact one_bool _ | exact one_str _ | exact one_ptr _ _ | exact one_slice _ _ _ _ _ | exact one_nilSlice | exact isSl_slice _ _ _ _ _ | exact isSl_nil | exact one_fn _ _ _ | exact one_map _ | ((repeat (first | rw [St.next_push] | rw [St.next_set])); done) | decide +kernel) only [go_sem, ↓run_draw0, h, ↓reduceIte, Nat.reduceLT, Nat.reduceEqDiff, Nat.reduceAdd, Nat.reduceLeDiff, Nat.reduceMul, Nat.reduceSub, Int.cast_ofNat_Int, Int.reduceEq, Int.reduceLT, Int.reduceLE]
theorem s_Sort {σ : St} {v : AV} {l : List Int} (h : OwnI σ v l) (hn : l.length ≤ 12) :
    ∃ σ' v', (W cfg).f 31 [v] σ = some (v', σ') ∧ OwnI σ' v (isort l) ∧ Ext (sid v) [] σ σ' := by
  have g1 := h.ints.one
  have g2 := h.ints.isSl
  have g3 := h.ints.slenM
  obtain ⟨k, hk⟩ := s_Len l.length hn σ
  obtain ⟨σ', v', h1, h2⟩ := s_pdq k h hn
  have hw : wrapA .u64 (l.length : Int) = l.length := by rw [wrapU64] <;> omega
  rw [E_31]; simp only [bodyOf, Tryd.f31]
  simp (disch := first | omega | assumption | ((simp only [St.next_push, St.next_set]); omega) | exact one_int _ _ | exact one_bool _ | exact one_str _ | exact one_ptr _ _ | exact one_slice _ _ _ _ _ | exact one_nilSlice | exact isSl_slice _ _ _ _ _ | exact isSl_nil | exact one_fn _ _ _ | exact one_map _ | ((repeat (first | rw [St.next_push] | rw [St.next_set])); done) | decide +kernel) only [go_sem, ↓run_draw0, g3, hw, hk, h1, ↓reduceIte, Nat.reduceLT, Nat.reduceEqDiff, Nat.reduceAdd, Nat.reduceLeDiff, Nat.reduceMul, Nat.reduceSub, Int.cast_ofNat_Int, Int.reduceEq, Int.reduceLT, Int.reduceLE]
  exact ⟨_, _, rfl, h2⟩
end R14
