/-
  Part of a proof: see the last text of this claim.
-/
import Derived.Test.YthpaljelbkclbaaDoorN2
open Go Go.Abs Go.Proofs
set_option linter.unusedSimpArgs false
set_option linter.unusedVariables false
set_option maxRecDepth 100000
namespace R14
theorem osl_23 {id off n cap a b : Nat} {lo hi : Option AV} (hlo : (lo = none ∧ a = 0) ∨ ∃ k, lo = some (.int k (a : Int))) (hhi : (hi = none ∧ b = n) ∨ ∃ k, hi = some (.int k (b : Int))) (hab : a ≤ b) (hb : b ≤ cap) (σ : St) :
    aSlice cfg.T σ 23 (.slice id off n cap 1) lo hi = some (.slice id (off + a) (b - a) (cap - a) 1) :=
  aSlice_own (T := cfg.T) (e := 3) (i := tyOf cfg.T 23) (j := tyOf cfg.T 3) (by kernel_rfl) (by kernel_rfl) (by kernel_rfl) (by kernel_rfl) hlo hhi hab hb σ
theorem ocl_23 {σ : St} {id off len cap : Nat} {l : List Int} (hg : σ.get id = some (.cells (l.map iv) 0 false)) (h0 : 0 < len) (hl : off + len ≤ l.length) :
    aBuiltin cfg.T σ .clear #[23] [.slice id off len cap 1] = some (.undef, σ.set id (.cells ((l.take off ++ List.replicate len 0 ++ l.drop (off + len)).map iv) 0 false)) :=
  aClear_own (T := cfg.T) (t := 23) (e := 3) (i := tyOf cfg.T 23) (j := tyOf cfg.T 3) (by kernel_rfl) (by kernel_rfl) (by kernel_rfl) (by kernel_rfl) hg h0 hl #[23] rfl
theorem ocp_23 {σ : St} {id off len cap : Nat} {l r : List Int} {x : AV} (hg : σ.get id = some (.cells (l.map iv) 0 false)) (hx : Ints σ x r) (hl : off + len ≤ l.length) :
    aBuiltin cfg.T σ .copy #[23, 23] [.slice id off len cap 1, x] = some (.int .i64 (min r.length len : Nat), if 0 < min r.length len then σ.set id (.cells ((l.take off ++ r.take (min r.length len) ++ l.drop (off + min r.length len)).map iv) 0 false) else σ) :=
  aCopy_own (T := cfg.T) (t := 23) (e := 3) (i := tyOf cfg.T 23) (j := tyOf cfg.T 3) (by kernel_rfl) (by kernel_rfl) (by kernel_rfl) (by kernel_rfl) hg hx hl #[23, 23] rfl
theorem oms_23 {n : Nat} (hn : n ≤ 17179869184) (σ : St) (k k' : IntKind) : aMakeSlice cfg.T σ 23 (.int k (n : Int)) (.int k' (n : Int)) = some (.slice σ.next 0 n n 1, σ.push (.cells ((List.replicate n 0).map iv) 0 false)) :=
  aMakeSlice_own (T := cfg.T) (e := 3) (i := tyOf cfg.T 23) (j := tyOf cfg.T 3) (bytes := 8) (by kernel_rfl) (by kernel_rfl) (by kernel_rfl) (by kernel_rfl) (by kernel_rfl) (by kernel_rfl) (by decide) (by unfold bigBytes; omega) σ k k'
/-- what stands behind a number, without what is like its forerunner -/
def dtail (x : Int) : List Int → List Int
  | [] => []
  | y :: r => bif decide (y = x) then dtail y r else y :: dtail y r
def compact : List Int → List Int
  | [] => []
  | x :: r => x :: dtail x r
theorem compact_at {l : List Int} (h : 0 < l.length) : compact l = l.take 1 ++ dtail (gi l 0) (l.drop 1) := by
  cases l with
  | nil => simp at h
  | cons x r => rfl
theorem dtail_at {l : List Int} {k : Nat} {x : Int} (h : k < l.length) : dtail x (l.drop k) = bif decide (gi l k = x) then dtail (gi l k) (l.drop (k + 1)) else gi l k :: dtail (gi l k) (l.drop (k + 1)) := by
  rw [List.drop_eq_getElem_cons h]
  have : gi l k = l[k] := by unfold gi; simp [h]
  rw [this]; rfl
theorem take_gi {l : List Int} {k : Nat} (h : k < l.length) : l.take (k + 1) = l.take k ++ [gi l k] := by
  have : gi l k = l[k] := by unfold gi; simp [h]
  rw [this]; simp
theorem gi_set_ne {l : List Int} {k q : Nat} {x : Int} (h : q ≠ k) : gi (l.set k x) q = gi l q := by
  unfold gi
  rw [List.getD_eq_getElem?_getD, List.getD_eq_getElem?_getD, List.getElem?_set_ne (by omega)]
theorem take_set {l : List Int} {k : Nat} {x : Int} (h : k < l.length) : (l.set k x).take (k + 1) = l.take k ++ [x] := by
  rw [take_gi (by simpa using h)]
  congr 1
  · rw [List.take_set_of_le (Nat.le_refl _)]
  · unfold gi; simp [h]
set_option maxHeartbeats 4000000 in
theorem s_Compact {σ : St} {v : AV} {l : List Int} (h : OwnI σ v l) (hn : l.length < 4294967296) :
    ∃ σ' v', (W cfg).f 13 [v] σ = some (v', σ') ∧ Ints σ' v' (compact l) ∧ Ext (sid v) [] σ σ' ∧ (∀ i ∈ sid v', i ∈ sid v) := by
  have g1 := h.ints.one
  have g2 := h.ints.isSl
  have g3 := h.ints.slenM
  rw [E_13]; simp only [bodyOf, Tryd.f13]
  cases hsm : decide ((l.length : Int) < 2)
  · simp (disch := first | omega | assumption | ((simp only [St.next_push, St.next_set]); omega) | exact one_int _ _ | exact one_bool _ | exact one_str _ | exact one_ptr _ _ | exact one_slice _ _ _ _ _ | exact one_nilSlice | exact isSl_slice _ _ _ _ _ | exact isSl_nil | exact one_fn _ _ _ | exact one_map _ | ((repeat (first | rw [St.next_push] | rw [St.next_set])); done) | decide +kernel) only [go_sem, ↓run_draw0, g3, hsm, ↓reduceIte, Nat.reduceLT, Nat.reduceEqDiff, Nat.reduceAdd, Nat.reduceLeDiff, Nat.reduceMul, Nat.reduceSub, Int.cast_ofNat_Int, Int.reduceEq, Int.reduceLT, Int.reduceLE]
    rcases h with ⟨rfl, rfl⟩ | ⟨id, rfl, hg⟩
    · simp at hsm
    have hl2 : 2 ≤ l.length := by have := of_decide_eq_false hsm; omega
    refine run_loop_inv cfg (Q := fun (r : ResF) => ∃ σ' v', r = some (v', σ') ∧ Ints σ' v' (compact l) ∧ Ext (sid (.slice id 0 l.length l.length 1)) [] σ σ' ∧ (∀ i ∈ sid v', i ∈ sid (.slice id 0 l.length l.length 1)))
      (I := fun n a σ1 => ∃ (η : Env) (k : Nat), a = ⟨mat 61 η, [], false⟩ ∧ k + n = l.length ∧ 0 < k ∧ lk η 3 = .int .i64 (k : Int) ∧ lk η 0 = .slice id 0 l.length l.length 1 ∧ compact l = l.take k ++ dtail (gi l (k - 1)) (l.drop k) ∧ σ1 = σ)
      (l.length - 1) ⟨_, 1, rfl, by omega, by omega, rfl, rfl, compact_at (by omega), rfl⟩ ?_
    rintro n a σ1 ⟨η, k, rfl, hk, hk0, h3, h0, hc, rfl⟩ ih
    have hcs : cellsOf σ1 id = some (l.map iv) := by rw [cellsOf_get, hg]; rfl
    by_cases hlt : k < l.length
    · obtain ⟨m, rfl⟩ : ∃ m, k = m + 1 := ⟨k - 1, by omega⟩
      have e1 := ld_iv hlt
      have e0 := ld_iv (show m < l.length by omega)
      have hm0 : m < l.length := by omega
      have hlt' : ((m + 1 : Nat) : Int) < (l.length : Int) := by omega
      have hw : wrapA .i64 (((m + 1 : Nat) : Int) - 1) = (m : Int) := by rw [wrap64] <;> omega
      have hw2 : wrapA .i64 (((m + 1 : Nat) : Int) + 1) = ((m + 1 + 1 : Nat) : Int) := by rw [wrap64] <;> omega
      have hs1 : ∀ σ, aSlice cfg.T σ 23 (.slice id 0 l.length l.length 1) (some (.int .i64 ((m + 1 : Nat) : Int))) none = some (.slice id (m + 1) (l.length - (m + 1)) (l.length - (m + 1)) 1) := fun σ => by
        have := osl_23 (id := id) (off := 0) (n := l.length) (cap := l.length) (a := m + 1) (b := l.length) (lo := some (.int .i64 ((m + 1 : Nat) : Int))) (hi := none) (.inr ⟨_, rfl⟩) (.inl ⟨rfl, rfl⟩) (by omega) (Nat.le_refl _) σ
        rw [Nat.zero_add] at this; exact this
      rw [dtail_at hlt] at hc
      simp only [Nat.add_sub_cancel] at hc
      cases heq : decide (gi l (m + 1) = gi l m)
      · simp (disch := first | omega | assumption | ((simp only [St.next_push, St.next_set]); omega) | exact one_int _ _ | exact one_bool _ | exact one_str _ | exact one_ptr _ _ | exact one_slice _ _ _ _ _ | exact one_nilSlice | exact isSl_slice _ _ _ _ _ | exact isSl_nil | exact one_fn _ _ _ | exact one_map _ | ((repeat (first | rw [St.next_push] | rw [St.next_set])); done) | decide +kernel) only [go_sem, ↓run_draw0, h3, h0, g3, hlt', hw, hcs, e1, e0, hlt, hm0, Nat.mul_one, heq, hw2, ↓reduceIte, Nat.reduceLT, Nat.reduceEqDiff, Nat.reduceAdd, Nat.reduceLeDiff, Nat.reduceMul, Nat.reduceSub, Int.cast_ofNat_Int, Int.reduceEq, Int.reduceLT, Int.reduceLE]
        exact ih (n - 1) _ _ (by omega) ⟨_, m + 1 + 1, rfl, by omega, by omega, rfl, h0, by rw [hc, heq, take_gi hlt]; simp, rfl⟩
      · simp (disch := first | omega | assumption | ((simp only [St.next_push, St.next_set]); omega) | exact one_int _ _ | exact one_bool _ | exact one_str _ | exact one_ptr _ _ | exact one_slice _ _ _ _ _ | exact one_nilSlice | exact isSl_slice _ _ _ _ _ | exact isSl_nil | exact one_fn _ _ _ | exact one_map _ | ((repeat (first | rw [St.next_push] | rw [St.next_set])); done) | decide +kernel) only [go_sem, ↓run_draw0, h3, h0, g3, hlt', hw, hcs, e1, e0, hlt, hm0, Nat.mul_one, heq, hw2, hs1, ↓reduceIte, Nat.reduceLT, Nat.reduceEqDiff, Nat.reduceAdd, Nat.reduceLeDiff, Nat.reduceMul, Nat.reduceSub, Int.cast_ofNat_Int, Int.reduceEq, Int.reduceLT, Int.reduceLE]
        refine run_loop_inv cfg (Q := fun (r : ResF) => ∃ σ' v', r = some (v', σ') ∧ Ints σ' v' (compact l) ∧ Ext (sid (.slice id 0 l.length l.length 1)) [] σ1 σ' ∧ (∀ i ∈ sid v', i ∈ sid (.slice id 0 l.length l.length 1)))
          (I := fun n a σ2 => ∃ (η : Env) (p k : Nat) (A : List Int), a = ⟨mat 61 η, [], false⟩ ∧ p + 1 + n = l.length - (m + 1) ∧ lk η 5 = .int .i64 ((p + 1 : Nat) : Int) ∧ lk η 4 = .slice id (m + 1) (l.length - (m + 1)) (l.length - (m + 1)) 1 ∧ lk η 0 = .slice id 0 l.length l.length 1 ∧ lk η 3 = .int .i64 (k : Int) ∧
            A.length = l.length ∧ k ≤ m + (p + 1) ∧ (∀ q, m + (p + 1) ≤ q → q < l.length → gi A q = gi l q) ∧ compact l = A.take k ++ dtail (gi l (m + (p + 1))) (l.drop (m + 1 + (p + 1))) ∧ σ2.get id = some (.cells (A.map iv) 0 false) ∧ Ext [id] [] σ1 σ2)
          (l.length - (m + 1) - 1) ⟨_, 0, m + 1, l, rfl, by omega, rfl, rfl, h0, h3, rfl, by omega, fun _ _ _ => rfl, by rw [hc, heq]; rfl, hg, .refl _ _ _⟩ ?_
        rintro n2 a σ2 ⟨η, p, k, A, rfl, hp, h5, h4, h0, h3, hA, hkm, hAl, hc, hg2, hx⟩ ih2
        have hcs2 : cellsOf σ2 id = some (A.map iv) := by rw [cellsOf_get, hg2]; rfl
        by_cases hlt2 : p + 1 < l.length - (m + 1)
        · have hlt2' : ((p + 1 : Nat) : Int) < ((l.length - (m + 1) : Nat) : Int) := by omega
          have hp2 : p < l.length - (m + 1) := by omega
          have f1 := ld_iv (l := A) (j := m + 1 + (p + 1)) (by omega)
          have f0 := ld_iv (l := A) (j := m + 1 + p) (by omega)
          have hkl : k < l.length := by omega
          have hkl' : k + 1 ≤ l.length := by omega
          have hw3 : wrapA .i64 (((p + 1 : Nat) : Int) - 1) = (p : Int) := by rw [wrap64] <;> omega
          have hw4 : wrapA .i64 (((p + 1 : Nat) : Int) + 1) = ((p + 1 + 1 : Nat) : Int) := by rw [wrap64] <;> omega
          have hw5 : wrapA .i64 ((k : Int) + 1) = ((k + 1 : Nat) : Int) := by rw [wrap64] <;> omega
          rw [hAl _ (by omega) (by omega)] at f1 f0
          rw [dtail_at (by omega), show m + 1 + (p + 1) = m + 1 + p + 1 from rfl, show m + (p + 1) = m + 1 + p by omega] at hc
          cases hq : decide (gi l (m + 1 + (p + 1)) = gi l (m + 1 + p))
          · simp (disch := first | omega | assumption | ((simp only [St.next_push, St.next_set]); omega) | exact one_int _ _ | exact one_bool _ | exact one_str _ | exact one_ptr _ _ | exact one_slice _ _ _ _ _ | exact one_nilSlice | exact isSl_slice _ _ _ _ _ | exact isSl_nil | exact one_fn _ _ _ | exact one_map _ | ((repeat (first | rw [St.next_push] | rw [St.next_set])); done) | decide +kernel) only [go_sem, ↓run_draw0, h5, h4, h0, h3, hlt2', hlt2, hp2, hw3, hw4, hw5, hcs2, f1, f0, hq, Nat.mul_one, hkl, hkl', hg2, hA, splice_ii A _ (show k < A.length by omega), List.length_map, Nat.zero_le, ↓reduceIte, Nat.reduceLT, Nat.reduceEqDiff, Nat.reduceAdd, Nat.reduceLeDiff, Nat.reduceMul, Nat.reduceSub, Int.cast_ofNat_Int, Int.reduceEq, Int.reduceLT, Int.reduceLE]
            have hid := St.get_lt hg2
            refine ih2 (n2 - 1) _ _ (by omega) ⟨_, p + 1, k + 1, A.set k (gi l (m + 1 + (p + 1))), rfl, by omega, rfl, h4, h0, rfl, by simpa using hA, by omega, fun q h1 h2 => by rw [gi_set_ne (by omega)]; exact hAl q (by omega) h2, ?_, St.get_set_eq _ _ rfl hid, hx.setR _ (.inl (by simp))⟩
            rw [take_set (by omega), hc]
            have hq' : decide (gi l (m + 1 + p + 1) = gi l (m + 1 + p)) = false := hq
            rw [hq', show m + (p + 1 + 1) = m + 1 + p + 1 by omega]
            simp only [cond_false, List.append_assoc, List.singleton_append]
            rfl
          · simp (disch := first | omega | assumption | ((simp only [St.next_push, St.next_set]); omega) | exact one_int _ _ | exact one_bool _ | exact one_str _ | exact one_ptr _ _ | exact one_slice _ _ _ _ _ | exact one_nilSlice | exact isSl_slice _ _ _ _ _ | exact isSl_nil | exact one_fn _ _ _ | exact one_map _ | ((repeat (first | rw [St.next_push] | rw [St.next_set])); done) | decide +kernel) only [go_sem, ↓run_draw0, h5, h4, h0, h3, hlt2', hlt2, hp2, hw3, hw4, hw5, hcs2, f1, f0, hq, Nat.mul_one, ↓reduceIte, Nat.reduceLT, Nat.reduceEqDiff, Nat.reduceAdd, Nat.reduceLeDiff, Nat.reduceMul, Nat.reduceSub, Int.cast_ofNat_Int, Int.reduceEq, Int.reduceLT, Int.reduceLE]
            refine ih2 (n2 - 1) _ _ (by omega) ⟨_, p + 1, k, A, rfl, by omega, rfl, h4, h0, h3, hA, by omega, fun q h1 h2 => hAl q (by omega) h2, ?_, hg2, hx⟩
            rw [hc]
            have hq' : decide (gi l (m + 1 + p + 1) = gi l (m + 1 + p)) = true := hq
            rw [hq', show m + (p + 1 + 1) = m + 1 + p + 1 by omega]
            rfl
        · have hlt2' : ¬ ((p + 1 : Nat) : Int) < ((l.length - (m + 1) : Nat) : Int) := by omega
          have hid := St.get_lt hg2
          have hs2 : ∀ σ, aSlice cfg.T σ 23 (.slice id 0 l.length l.length 1) (some (.int .i64 (k : Int))) none = some (.slice id k (l.length - k) (l.length - k) 1) := fun σ => by
            have := osl_23 (id := id) (off := 0) (n := l.length) (cap := l.length) (a := k) (b := l.length) (lo := some (.int .i64 (k : Int))) (hi := none) (.inr ⟨_, rfl⟩) (.inl ⟨rfl, rfl⟩) (by omega) (Nat.le_refl _) σ
            rw [Nat.zero_add] at this; exact this
          have hs3 : ∀ σ, aSlice cfg.T σ 23 (.slice id 0 l.length l.length 1) none (some (.int .i64 (k : Int))) = some (.slice id 0 k l.length 1) := fun σ =>
            osl_23 (id := id) (off := 0) (n := l.length) (cap := l.length) (a := 0) (b := k) (lo := none) (hi := some (.int .i64 (k : Int))) (.inl ⟨rfl, rfl⟩) (.inr ⟨_, rfl⟩) (by omega) (by omega) σ
          have hcl := ocl_23 (off := k) (len := l.length - k) (cap := l.length - k) hg2 (by omega) (by omega)
          simp (disch := first | omega | assumption | ((simp only [St.next_push, St.next_set]); omega) | exact one_int _ _ | exact one_bool _ | exact one_str _ | exact one_ptr _ _ | exact one_slice _ _ _ _ _ | exact one_nilSlice | exact isSl_slice _ _ _ _ _ | exact isSl_nil | exact one_fn _ _ _ | exact one_map _ | ((repeat (first | rw [St.next_push] | rw [St.next_set])); done) | decide +kernel) only [go_sem, ↓run_draw0, h5, h4, h0, h3, hlt2', hs2, hcl, hs3, ↓reduceIte, Nat.reduceLT, Nat.reduceEqDiff, Nat.reduceAdd, Nat.reduceLeDiff, Nat.reduceMul, Nat.reduceSub, Int.cast_ofNat_Int, Int.reduceEq, Int.reduceLT, Int.reduceLE]
          refine ⟨_, _, rfl, ?_, hx.setR _ (.inl (by simp)), by simp [sid]⟩
          have hct : compact l = A.take k := by
            rw [hc, List.drop_of_length_le (by omega)]; simp [dtail]
          rw [hct]
          refine ⟨ic_all _, rfl, by simp; omega, by omega, .inr ⟨_, by rw [cellsOf_get, St.get_set_eq _ _ rfl hid]; rfl, by simp; omega, ?_⟩⟩
          rw [flat_ic]
          simp only [Nat.mul_one, List.drop_zero, List.map_append, List.map_take, List.append_assoc]
          rw [List.take_append_of_le_length (by simp; omega), List.take_take, Nat.min_self]
    · have hlt' : ¬ (k : Int) < (l.length : Int) := by omega
      simp (disch := first | omega | assumption | ((simp only [St.next_push, St.next_set]); omega) | exact one_int _ _ | exact one_bool _ | exact one_str _ | exact one_ptr _ _ | exact one_slice _ _ _ _ _ | exact one_nilSlice | exact isSl_slice _ _ _ _ _ | exact isSl_nil | exact one_fn _ _ _ | exact one_map _ | ((repeat (first | rw [St.next_push] | rw [St.next_set])); done) | decide +kernel) only [go_sem, ↓run_draw0, h3, h0, g3, hlt', ↓reduceIte, Nat.reduceLT, Nat.reduceEqDiff, Nat.reduceAdd, Nat.reduceLeDiff, Nat.reduceMul, Nat.reduceSub, Int.cast_ofNat_Int, Int.reduceEq, Int.reduceLT, Int.reduceLE]
      refine ⟨_, _, rfl, ?_, .refl _ _ _, fun i hi => hi⟩
      rw [hc, show l.take k = l by rw [List.take_of_length_le (by omega)], show l.drop k = [] by rw [List.drop_of_length_le (by omega)]]
      simpa [dtail] using (show OwnI σ1 _ l from .inr ⟨id, rfl, hg⟩).ints
  · simp (disch := first | omega | assumption | ((simp only [St.next_push, St.next_set]); omega) | exact one_int _ _ | exact one_bool _ | exact one_str _ | exact one_ptr _ _ | exact one_slice _ _ _ _ _ | exact one_nilSlice | exact isSl_slice _ _ _ _ _ | exact isSl_nil | exact one_fn _ _ _ | exact one_map _ | ((repeat (first | rw [St.next_push] | rw [St.next_set])); done) | decide +kernel) only [go_sem, ↓run_draw0, g3, hsm, ↓reduceIte, Nat.reduceLT, Nat.reduceEqDiff, Nat.reduceAdd, Nat.reduceLeDiff, Nat.reduceMul, Nat.reduceSub, Int.cast_ofNat_Int, Int.reduceEq, Int.reduceLT, Int.reduceLE]
    refine ⟨_, _, rfl, ?_, .refl _ _ _, fun i hi => hi⟩
    have : l.length < 2 := by have := of_decide_eq_true hsm; omega
    have : compact l = l := by
      match l, this with
      | [], _ => rfl
      | [x], _ => rfl
    rw [this]; exact h.ints
end R14
