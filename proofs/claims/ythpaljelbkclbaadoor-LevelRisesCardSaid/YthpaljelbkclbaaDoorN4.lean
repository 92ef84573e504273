/-
  Part of a proof: see the last text of this claim.
-/
import Derived.Test.YthpaljelbkclbaaDoorN3
open Go Go.Abs Go.Proofs
set_option linter.unusedSimpArgs false
set_option linter.unusedVariables false
set_option maxRecDepth 100000
namespace R14
theorem s_Mul64 (n : Nat) (hn : n ≤ 12) (σ : St) : (W cfg).f 51 [.int .u64 1, .int .u64 n] σ = some (.tuple [.int .u64 0, .int .u64 n], σ) := by
  rcases n with _ | _ | _ | _ | _ | _ | _ | _ | _ | _ | _ | _ | _ | n
  all_goals try omega
  all_goals exact (W_f_iff cfg).2 ⟨200, by kernel_rfl⟩
theorem s_Mul (n : Nat) (hn : n ≤ 12) (σ : St) : (W cfg).f 33 [.int .u64 1, .int .u64 n] σ = some (.tuple [.int .u64 0, .int .u64 n], σ) := by
  rw [E_33]; simp only [bodyOf, Tryd.f33]
  simp (disch := first | omega | assumption | ((simp only [St.next_push, St.next_set]); omega) | exact one_int _ _ | exact one_bool _ | exact one_str _ | exact one_ptr _ _ | exact one_slice _ _ _ _ _ | exact one_nilSlice | exact isSl_slice _ _ _ _ _ | exact isSl_nil | exact one_fn _ _ _ | exact one_map _ | ((repeat (first | rw [St.next_push] | rw [St.next_set])); done) | decide +kernel) only [go_sem, ↓run_draw0, s_Mul64 n hn, ↓reduceIte, Nat.reduceLT, Nat.reduceEqDiff, Nat.reduceAdd, Nat.reduceLeDiff, Nat.reduceMul, Nat.reduceSub, Int.cast_ofNat_Int, Int.reduceEq, Int.reduceLT, Int.reduceLE]
theorem s_Sorted {σ : St} {r : Nat} {v : AV} {l : List Int} (hv : cellsOf σ r = some [v]) (h : Ints σ v l) (hn : l.length ≤ 12) :
    ∃ σ' v', (W cfg).f 14 [.fn 32 [] [.ptr r 0]] σ = some (v', σ') ∧ OwnI σ' v' (isort l) ∧ Ext [] [] σ σ' ∧ (∀ i ∈ sid v', σ.next ≤ i) := by
  obtain ⟨σ1, v1, h1, o1, x1, f1⟩ := s_Collect hv h (by omega)
  obtain ⟨σ2, v2, h2, o2, x2⟩ := s_Sort o1 hn
  rw [E_14]; simp only [bodyOf, Tryd.f14]
  simp (disch := first | omega | assumption | ((simp only [St.next_push, St.next_set]); omega) | exact one_int _ _ | exact one_bool _ | exact one_str _ | exact one_ptr _ _ | exact one_slice _ _ _ _ _ | exact one_nilSlice | exact isSl_slice _ _ _ _ _ | exact isSl_nil | exact one_fn _ _ _ | exact one_map _ | ((repeat (first | rw [St.next_push] | rw [St.next_set])); done) | decide +kernel) only [go_sem, ↓run_draw0, h1, h2, ↓reduceIte, Nat.reduceLT, Nat.reduceEqDiff, Nat.reduceAdd, Nat.reduceLeDiff, Nat.reduceMul, Nat.reduceSub, Int.cast_ofNat_Int, Int.reduceEq, Int.reduceLT, Int.reduceLE]
  exact ⟨_, _, rfl, o2, x1.new x2 (fun i hi => .inr (f1 i hi)) (by simp), f1⟩
theorem rep_ints {σ : St} {id n m : Nat} {x : Int} {cap : Nat} (hg : σ.get id = some (.cells ((List.replicate m x ++ List.replicate (n - m) 0).map iv) 0 false)) (hm : m ≤ n) (hc : m ≤ cap) : Ints σ (.slice id 0 m cap 1) (List.replicate m x) := by
  refine ⟨ic_all _, rfl, by simp, hc, .inr ⟨_, by rw [cellsOf_get, hg]; rfl, by simp, ?_⟩⟩
  rw [flat_ic]
  simp
set_option maxHeartbeats 1000000 in
theorem s_Repeat {σ : St} {v : AV} {x : Int} {n : Nat} (h : Ints σ v [x]) (hn : n ≤ 12) :
    ∃ σ' v', (W cfg).f 16 [v, .int .i64 n] σ = some (v', σ') ∧ OwnI σ' v' (List.replicate n x) ∧ Ext [] [] σ σ' ∧ (∀ i ∈ sid v', σ.next ≤ i) := by
  have g1 := h.one
  have g2 := h.isSl
  have g3 := h.slenM
  have hnn : ¬ ((n : Int) < 0) := by omega
  have hw : wrapA .u64 (n : Int) = n := by rw [wrapU64] <;> omega
  have hw' : wrapA .i64 (n : Int) = n := by rw [wrap64] <;> omega
  have hmx : ¬ ((9223372036854775807 : Int) < (n : Int)) := by omega
  have w1 : wrapA .u64 1 = 1 := by rw [wrapU64] <;> omega
  have e0 : Ext [] [] σ (σ.push (.cells ((List.replicate n 0).map iv) 0 false)) := .push _ _ _ _
  have hcp := ocp_23 (σ := σ.push (.cells ((List.replicate n 0).map iv) 0 false)) (id := σ.next) (off := 0) (len := n) (cap := n) (l := List.replicate n 0) (St.get_push_eq _ _ rfl) (h.ext e0) (by simp)
  rw [E_16]; simp only [bodyOf, Tryd.f16]
  simp (disch := first | omega | assumption | ((simp only [St.next_push, St.next_set]); omega) | exact one_int _ _ | exact one_bool _ | exact one_str _ | exact one_ptr _ _ | exact one_slice _ _ _ _ _ | exact one_nilSlice | exact isSl_slice _ _ _ _ _ | exact isSl_nil | exact one_fn _ _ _ | exact one_map _ | ((repeat (first | rw [St.next_push] | rw [St.next_set])); done) | decide +kernel) only [go_sem, ↓run_draw0, g3, hnn, s_Mul n hn, hw, hw', hmx, List.length_singleton, w1, oms_23 (show n ≤ 17179869184 by omega), hcp, ↓reduceIte, Nat.reduceLT, Nat.reduceEqDiff, Nat.reduceAdd, Nat.reduceLeDiff, Nat.reduceMul, Nat.reduceSub, Int.cast_ofNat_Int, Int.reduceEq, Int.reduceLT, Int.reduceLE]
  refine run_loop_inv cfg (Q := fun (r : ResF) => ∃ σ' v', r = some (v', σ') ∧ OwnI σ' v' (List.replicate n x) ∧ Ext [] [] σ σ' ∧ (∀ i ∈ sid v', σ.next ≤ i))
    (I := fun k a σ1 => ∃ (η : Env) (m : Nat), a = ⟨mat 48 η, [], false⟩ ∧ m + k = n ∧ (m = 0 → n = 0) ∧ lk η 8 = .int .i64 (m : Int) ∧ lk η 7 = .slice σ.next 0 n n 1 ∧ σ1.get σ.next = some (.cells ((List.replicate m x ++ List.replicate (n - m) 0).map iv) 0 false) ∧ Ext [] [] σ σ1)
    (n - min 1 n) ⟨_, min 1 n, rfl, by omega, by omega, rfl, rfl, ?_, ?_⟩ ?_
  · cases n with
    | zero => exact St.get_push_eq _ _ rfl
    | succ n =>
      rw [if_pos (by omega), St.get_push_eq _ _ rfl, show min 1 (n + 1) = 1 by omega]
      congr 3
  · split
    · exact .push _ _ _ _
    · exact .push _ _ _ _
  rintro k a σ1 ⟨η, m, rfl, hk, hm0, h8, h7, hg, hx⟩ ih
  by_cases hlt : m < n
  · have hlt' : (m : Int) < (n : Int) := by omega
    have hmp : 0 < m := by omega
    have hs1 : ∀ σ', aSlice cfg.T σ' 23 (.slice σ.next 0 n n 1) (some (.int .i64 (m : Int))) none = some (.slice σ.next m (n - m) (n - m) 1) := fun σ' => by
      have := osl_23 (id := σ.next) (off := 0) (n := n) (cap := n) (a := m) (b := n) (lo := some (.int .i64 (m : Int))) (hi := none) (.inr ⟨_, rfl⟩) (.inl ⟨rfl, rfl⟩) (by omega) (Nat.le_refl _) σ'
      rw [Nat.zero_add] at this; exact this
    have hs2 : ∀ σ', aSlice cfg.T σ' 23 (.slice σ.next 0 n n 1) none (some (.int .i64 (m : Int))) = some (.slice σ.next 0 m n 1) := fun σ' =>
      osl_23 (id := σ.next) (off := 0) (n := n) (cap := n) (a := 0) (b := m) (lo := none) (hi := some (.int .i64 (m : Int))) (.inl ⟨rfl, rfl⟩) (.inr ⟨_, rfl⟩) (by omega) (by omega) σ'
    have hcp := ocp_23 (σ := σ1) (id := σ.next) (off := m) (len := n - m) (cap := n - m) hg (rep_ints hg (by omega) (show m ≤ n by omega)) (by simp)
    rw [List.length_replicate, if_pos (by omega)] at hcp
    have hid := St.get_lt hg
    have hw5 : wrapA .i64 ((m : Int) + ((min m (n - m) : Nat) : Int)) = ((m + min m (n - m) : Nat) : Int) := by rw [wrap64] <;> omega
    simp (disch := first | omega | assumption | ((simp only [St.next_push, St.next_set]); omega) | exact one_int _ _ | exact one_bool _ | exact one_str _ | exact one_ptr _ _ | exact one_slice _ _ _ _ _ | exact one_nilSlice | exact isSl_slice _ _ _ _ _ | exact isSl_nil | exact one_fn _ _ _ | exact one_map _ | ((repeat (first | rw [St.next_push] | rw [St.next_set])); done) | decide +kernel) only [go_sem, ↓run_draw0, h8, h7, hlt', hs1, hs2, hcp, hw5, ↓reduceIte, Nat.reduceLT, Nat.reduceEqDiff, Nat.reduceAdd, Nat.reduceLeDiff, Nat.reduceMul, Nat.reduceSub, Int.cast_ofNat_Int, Int.reduceEq, Int.reduceLT, Int.reduceLE]
    refine ih (k - min m (n - m)) _ _ (by omega) ⟨_, m + min m (n - m), rfl, by omega, by omega, rfl, h7, ?_, hx.setR _ (.inr (Nat.le_refl _))⟩
    rw [St.get_set_eq _ _ rfl hid]
    congr 3
    rw [List.take_left' (by simp), List.take_replicate, Nat.min_eq_left (by omega)]
    rw [List.drop_append, List.drop_of_length_le (by simp), List.length_replicate, Nat.add_sub_cancel_left, List.drop_replicate, List.nil_append, List.replicate_append_replicate, show n - m - min m (n - m) = n - (m + min m (n - m)) by omega]
  · have hlt' : ¬ (m : Int) < (n : Int) := by omega
    simp (disch := first | omega | assumption | ((simp only [St.next_push, St.next_set]); omega) | exact one_int _ _ | exact one_bool _ | exact one_str _ | exact one_ptr _ _ | exact one_slice _ _ _ _ _ | exact one_nilSlice | exact isSl_slice _ _ _ _ _ | exact isSl_nil | exact one_fn _ _ _ | exact one_map _ | ((repeat (first | rw [St.next_push] | rw [St.next_set])); done) | decide +kernel) only [go_sem, ↓run_draw0, h8, h7, hlt', ↓reduceIte, Nat.reduceLT, Nat.reduceEqDiff, Nat.reduceAdd, Nat.reduceLeDiff, Nat.reduceMul, Nat.reduceSub, Int.cast_ofNat_Int, Int.reduceEq, Int.reduceLT, Int.reduceLE]
    have : m = n := by omega
    subst this
    refine ⟨_, _, rfl, .inr ⟨σ.next, by simp, ?_⟩, hx, by simp [sid]⟩
    rw [hg]; simp
end R14
