/-
  Part of a proof: see the last text of this claim.
-/
import Derived.Test.YthpaljelbkclbaaDoorN4
import Derived.Test.YthpaljelbkclbaaDoorL4
open Go Go.Abs Go.Proofs
set_option linter.unusedSimpArgs false
set_option linter.unusedVariables false
set_option maxRecDepth 100000
namespace R14
/-- a config of levels -/
structure Lc where
  mem : List Int
  hi : List Int
  lv : Int
  fin : Bool
  deriving DecidableEq
def Lc.cells (c : Lc) (mv hv : AV) : List AV := [mv, hv, .int .i64 c.lv, .bool c.fin]
def inB (n lo hi : Int) : Bool := decide (lo ≤ n) && decide (n ≤ hi)
def okM (lv : Int) : Int → List Int → List Int → Bool
  | last, m :: ms, h :: hs => inB m (last + 1) 7 && (inB h lv 2 && okM lv m ms hs)
  | _, [], _ => true
  | _, _ :: _, [] => false
/-- may a config be -/
def lright (c : Lc) : Bool := inB c.mem.length 1 7 && (decide (c.hi.length = c.mem.length) && (inB c.lv 1 2 && (!(c.fin && decide (c.lv < 2)) && okM c.lv 0 c.mem c.hi)))
theorem s_in' (n lo hi : Int) (σ : St) : (W cfg).f 26 [.int .i64 n, .int .i64 lo, .int .i64 hi] σ = some (.bool (inB n lo hi), σ) := s_in n lo hi σ
set_option maxHeartbeats 2000000 in
theorem s_LRight {σ : St} {mv hv : AV} (c : Lc) (hm : Ints σ mv c.mem) (hh : Ints σ hv c.hi) (n1 : c.mem.length < 4294967296) (n2 : c.hi.length < 4294967296) :
    ∃ σ', (W cfg).f 17 [.agg (c.cells mv hv)] σ = some (.bool (lright c), σ') ∧ Ext [] [] σ σ' := by
  have g1 := hm.one
  have g2 := hm.isSl
  have g3 := hm.slenM
  have k1 := hh.one
  have k2 := hh.isSl
  have k3 := hh.slenM
  have x0 : Ext [] [] σ (σ.push (.cells (c.cells mv hv) 0 false)) := .push _ _ _ _
  unfold Lc.cells at x0 ⊢
  rw [E_17]; simp only [bodyOf, Tryd.f17]
  unfold lright
  cases ha : inB c.mem.length 1 7
  · simp (disch := first | omega | assumption | ((simp only [St.next_push, St.next_set]); omega) | exact one_int _ _ | exact one_bool _ | exact one_str _ | exact one_ptr _ _ | exact one_slice _ _ _ _ _ | exact one_nilSlice | exact isSl_slice _ _ _ _ _ | exact isSl_nil | exact one_fn _ _ _ | exact one_map _ | ((repeat (first | rw [St.next_push] | rw [St.next_set])); done) | decide +kernel) only [go_sem, ↓run_draw0, g3, s_in', ha, Bool.false_and, ↓reduceIte, Nat.reduceLT, Nat.reduceEqDiff, Nat.reduceAdd, Nat.reduceLeDiff, Nat.reduceMul, Nat.reduceSub, Int.cast_ofNat_Int, Int.reduceEq, Int.reduceLT, Int.reduceLE]
    exact ⟨_, rfl, x0⟩
  cases hb : decide (c.hi.length = c.mem.length)
  · have hb' : decide ((c.hi.length : Int) = (c.mem.length : Int)) = false := by rw [← hb]; simp [Int.natCast_inj]
    simp (disch := first | omega | assumption | ((simp only [St.next_push, St.next_set]); omega) | exact one_int _ _ | exact one_bool _ | exact one_str _ | exact one_ptr _ _ | exact one_slice _ _ _ _ _ | exact one_nilSlice | exact isSl_slice _ _ _ _ _ | exact isSl_nil | exact one_fn _ _ _ | exact one_map _ | ((repeat (first | rw [St.next_push] | rw [St.next_set])); done) | decide +kernel) only [go_sem, ↓run_draw0, g3, k3, s_in', ha, hb, hb', Bool.false_and, ↓reduceIte, Nat.reduceLT, Nat.reduceEqDiff, Nat.reduceAdd, Nat.reduceLeDiff, Nat.reduceMul, Nat.reduceSub, Int.cast_ofNat_Int, Int.reduceEq, Int.reduceLT, Int.reduceLE]
    exact ⟨_, rfl, x0⟩
  have hb' : decide ((c.hi.length : Int) = (c.mem.length : Int)) = true := by rw [← hb]; simp [Int.natCast_inj]
  cases hcc : inB c.lv 1 2
  · simp (disch := first | omega | assumption | ((simp only [St.next_push, St.next_set]); omega) | exact one_int _ _ | exact one_bool _ | exact one_str _ | exact one_ptr _ _ | exact one_slice _ _ _ _ _ | exact one_nilSlice | exact isSl_slice _ _ _ _ _ | exact isSl_nil | exact one_fn _ _ _ | exact one_map _ | ((repeat (first | rw [St.next_push] | rw [St.next_set])); done) | decide +kernel) only [go_sem, ↓run_draw0, g3, k3, s_in', ha, hb, hb', hcc, Bool.false_and, ↓reduceIte, Nat.reduceLT, Nat.reduceEqDiff, Nat.reduceAdd, Nat.reduceLeDiff, Nat.reduceMul, Nat.reduceSub, Int.cast_ofNat_Int, Int.reduceEq, Int.reduceLT, Int.reduceLE]
    exact ⟨_, rfl, x0⟩
  cases hq : c.fin && decide (c.lv < 2)
  · cases hf : c.fin
    · have x0' := x0
      rw [hf] at x0'
      simp (disch := first | omega | assumption | ((simp only [St.next_push, St.next_set]); omega) | exact one_int _ _ | exact one_bool _ | exact one_str _ | exact one_ptr _ _ | exact one_slice _ _ _ _ _ | exact one_nilSlice | exact isSl_slice _ _ _ _ _ | exact isSl_nil | exact one_fn _ _ _ | exact one_map _ | ((repeat (first | rw [St.next_push] | rw [St.next_set])); done) | decide +kernel) only [go_sem, ↓run_draw0, g3, k3, s_in', ha, hb, hb', hcc, hf, Bool.false_and, ↓reduceIte, Nat.reduceLT, Nat.reduceEqDiff, Nat.reduceAdd, Nat.reduceLeDiff, Nat.reduceMul, Nat.reduceSub, Int.cast_ofNat_Int, Int.reduceEq, Int.reduceLT, Int.reduceLE]
      refine run_loop_inv cfg (Q := fun (r : ResF) => ∃ σ', r = some (.bool (okM c.lv 0 c.mem c.hi), σ') ∧ Ext [] [] σ σ')
        (I := fun n a σ1 => ∃ (η : Env) (k : Nat) (last : Int), a = ⟨mat 61 η, [], false⟩ ∧ k + n = c.mem.length ∧ 0 ≤ last ∧ last ≤ 7 ∧ lk η 38 = .int .i64 (k : Int) ∧ lk η 37 = .int .i64 c.mem.length ∧ lk η 36 = mv ∧ lk η 3 = .int .i64 last ∧ lk η 1 = .ptr σ.next 0 ∧
          okM c.lv 0 c.mem c.hi = okM c.lv last (c.mem.drop k) (c.hi.drop k) ∧ σ1 = σ.push (.cells [mv, hv, .int .i64 c.lv, .bool c.fin] 0 false))
        c.mem.length ⟨_, 0, 0, rfl, by omega, by omega, by omega, rfl, rfl, rfl, rfl, rfl, rfl, by rw [hf]⟩ ?_
      rintro n a σ1 ⟨η, k, last, rfl, hk, hla, hlb, h38, h37, h36, h3, h1, hok, rfl⟩ ih
      by_cases hlt : k < c.mem.length
      · have hlt' : (k : Int) < (c.mem.length : Int) := by omega
        have hlen : c.hi.length = c.mem.length := of_decide_eq_true hb
        obtain ⟨id, off, cap, hmv, hid, _, _, hl0, _⟩ := hm.atM (List.getElem?_eq_getElem hlt)
        obtain ⟨id2, off2, cap2, hhv, hid2, hlt2, _, hl2, _⟩ := hh.atM (List.getElem?_eq_getElem (show k < c.hi.length by omega))
        have hl1 := hl0 (by omega)
        have hl3 := hl2 (by omega)
        have hw : wrapA .i64 (last + 1) = last + 1 := by rw [wrap64] <;> omega
        have hw2 : wrapA .i64 ((k : Int) + 1) = ((k + 1 : Nat) : Int) := by rw [wrap64] <;> omega
        rw [List.drop_eq_getElem_cons hlt, List.drop_eq_getElem_cons (show k < c.hi.length by omega), okM] at hok
        cases hp : inB c.mem[k] (last + 1) 7
        · simp (disch := first | omega | assumption | ((simp only [St.next_push, St.next_set]); omega) | exact one_int _ _ | exact one_bool _ | exact one_str _ | exact one_ptr _ _ | exact one_slice _ _ _ _ _ | exact one_nilSlice | exact isSl_slice _ _ _ _ _ | exact isSl_nil | exact one_fn _ _ _ | exact one_map _ | ((repeat (first | rw [St.next_push] | rw [St.next_set])); done) | decide +kernel) only [go_sem, ↓run_draw0, h38, h37, h36, hmv, h3, h1, hlt', hlt, hl1, hw, s_in', hp, Bool.false_and, ↓reduceIte, Nat.reduceLT, Nat.reduceEqDiff, Nat.reduceAdd, Nat.reduceLeDiff, Nat.reduceMul, Nat.reduceSub, Int.cast_ofNat_Int, Int.reduceEq, Int.reduceLT, Int.reduceLE]
          exact ⟨_, by rw [hok, hp]; rfl, .push _ _ _ _⟩
        · cases hr : inB (c.hi[k]'(by omega)) c.lv 2
          · simp (disch := first | omega | assumption | ((simp only [St.next_push, St.next_set]); omega) | exact one_int _ _ | exact one_bool _ | exact one_str _ | exact one_ptr _ _ | exact one_slice _ _ _ _ _ | exact one_nilSlice | exact isSl_slice _ _ _ _ _ | exact isSl_nil | exact one_fn _ _ _ | exact one_map _ | ((repeat (first | rw [St.next_push] | rw [St.next_set])); done) | decide +kernel) only [go_sem, ↓run_draw0, h38, h37, h36, hmv, hhv, h3, h1, hlt', hlt, hlt2, hl1, hl3, hw, s_in', hp, hr, Bool.false_and, ↓reduceIte, Nat.reduceLT, Nat.reduceEqDiff, Nat.reduceAdd, Nat.reduceLeDiff, Nat.reduceMul, Nat.reduceSub, Int.cast_ofNat_Int, Int.reduceEq, Int.reduceLT, Int.reduceLE]
            exact ⟨_, by rw [hok, hp, hr]; rfl, .push _ _ _ _⟩
          · simp (disch := first | omega | assumption | ((simp only [St.next_push, St.next_set]); omega) | exact one_int _ _ | exact one_bool _ | exact one_str _ | exact one_ptr _ _ | exact one_slice _ _ _ _ _ | exact one_nilSlice | exact isSl_slice _ _ _ _ _ | exact isSl_nil | exact one_fn _ _ _ | exact one_map _ | ((repeat (first | rw [St.next_push] | rw [St.next_set])); done) | decide +kernel) only [go_sem, ↓run_draw0, h38, h37, h36, hmv, hhv, h3, h1, hlt', hlt, hlt2, hl1, hl3, hw, hw2, s_in', hp, hr, ↓reduceIte, Nat.reduceLT, Nat.reduceEqDiff, Nat.reduceAdd, Nat.reduceLeDiff, Nat.reduceMul, Nat.reduceSub, Int.cast_ofNat_Int, Int.reduceEq, Int.reduceLT, Int.reduceLE]
            have hp' := hp
            unfold inB at hp'
            rw [Bool.and_eq_true, decide_eq_true_eq, decide_eq_true_eq] at hp'
            exact ih (n - 1) _ _ (by omega) ⟨_, k + 1, c.mem[k], rfl, by omega, by omega, hp'.2, rfl, h37, h36, rfl, h1, by rw [hok, hp, hr]; rfl, by rw [hmv, hhv]⟩
      · have hlt' : ¬ (k : Int) < (c.mem.length : Int) := by omega
        simp (disch := first | omega | assumption | ((simp only [St.next_push, St.next_set]); omega) | exact one_int _ _ | exact one_bool _ | exact one_str _ | exact one_ptr _ _ | exact one_slice _ _ _ _ _ | exact one_nilSlice | exact isSl_slice _ _ _ _ _ | exact isSl_nil | exact one_fn _ _ _ | exact one_map _ | ((repeat (first | rw [St.next_push] | rw [St.next_set])); done) | decide +kernel) only [go_sem, ↓run_draw0, h38, h37, h36, h3, h1, hlt', ↓reduceIte, Nat.reduceLT, Nat.reduceEqDiff, Nat.reduceAdd, Nat.reduceLeDiff, Nat.reduceMul, Nat.reduceSub, Int.cast_ofNat_Int, Int.reduceEq, Int.reduceLT, Int.reduceLE]
        rw [hok, show c.mem.drop k = [] by rw [List.drop_of_length_le (by omega)]]
        exact ⟨_, by unfold okM; rfl, x0⟩
    · have x0' := x0
      rw [hf] at x0'
      have hl : decide (c.lv < 2) = false := by rw [hf, Bool.true_and] at hq; exact hq
      simp (disch := first | omega | assumption | ((simp only [St.next_push, St.next_set]); omega) | exact one_int _ _ | exact one_bool _ | exact one_str _ | exact one_ptr _ _ | exact one_slice _ _ _ _ _ | exact one_nilSlice | exact isSl_slice _ _ _ _ _ | exact isSl_nil | exact one_fn _ _ _ | exact one_map _ | ((repeat (first | rw [St.next_push] | rw [St.next_set])); done) | decide +kernel) only [go_sem, ↓run_draw0, g3, k3, s_in', ha, hb, hb', hcc, hf, hl, Bool.false_and, ↓reduceIte, Nat.reduceLT, Nat.reduceEqDiff, Nat.reduceAdd, Nat.reduceLeDiff, Nat.reduceMul, Nat.reduceSub, Int.cast_ofNat_Int, Int.reduceEq, Int.reduceLT, Int.reduceLE]
      refine run_loop_inv cfg (Q := fun (r : ResF) => ∃ σ', r = some (.bool (okM c.lv 0 c.mem c.hi), σ') ∧ Ext [] [] σ σ')
        (I := fun n a σ1 => ∃ (η : Env) (k : Nat) (last : Int), a = ⟨mat 61 η, [], false⟩ ∧ k + n = c.mem.length ∧ 0 ≤ last ∧ last ≤ 7 ∧ lk η 38 = .int .i64 (k : Int) ∧ lk η 37 = .int .i64 c.mem.length ∧ lk η 36 = mv ∧ lk η 3 = .int .i64 last ∧ lk η 1 = .ptr σ.next 0 ∧
          okM c.lv 0 c.mem c.hi = okM c.lv last (c.mem.drop k) (c.hi.drop k) ∧ σ1 = σ.push (.cells [mv, hv, .int .i64 c.lv, .bool c.fin] 0 false))
        c.mem.length ⟨_, 0, 0, rfl, by omega, by omega, by omega, rfl, rfl, rfl, rfl, rfl, rfl, by rw [hf]⟩ ?_
      rintro n a σ1 ⟨η, k, last, rfl, hk, hla, hlb, h38, h37, h36, h3, h1, hok, rfl⟩ ih
      by_cases hlt : k < c.mem.length
      · have hlt' : (k : Int) < (c.mem.length : Int) := by omega
        have hlen : c.hi.length = c.mem.length := of_decide_eq_true hb
        obtain ⟨id, off, cap, hmv, hid, _, _, hl0, _⟩ := hm.atM (List.getElem?_eq_getElem hlt)
        obtain ⟨id2, off2, cap2, hhv, hid2, hlt2, _, hl2, _⟩ := hh.atM (List.getElem?_eq_getElem (show k < c.hi.length by omega))
        have hl1 := hl0 (by omega)
        have hl3 := hl2 (by omega)
        have hw : wrapA .i64 (last + 1) = last + 1 := by rw [wrap64] <;> omega
        have hw2 : wrapA .i64 ((k : Int) + 1) = ((k + 1 : Nat) : Int) := by rw [wrap64] <;> omega
        rw [List.drop_eq_getElem_cons hlt, List.drop_eq_getElem_cons (show k < c.hi.length by omega), okM] at hok
        cases hp : inB c.mem[k] (last + 1) 7
        · simp (disch := first | omega | assumption | ((simp only [St.next_push, St.next_set]); omega) | exact one_int _ _ | exact one_bool _ | exact one_str _ | exact one_ptr _ _ | exact one_slice _ _ _ _ _ | exact one_nilSlice | exact isSl_slice _ _ _ _ _ | exact isSl_nil | exact one_fn _ _ _ | exact one_map _ | ((repeat (first | rw [St.next_push] | rw [St.next_set])); done) | decide +kernel) only [go_sem, ↓run_draw0, h38, h37, h36, hmv, h3, h1, hlt', hlt, hl1, hw, s_in', hp, Bool.false_and, ↓reduceIte, Nat.reduceLT, Nat.reduceEqDiff, Nat.reduceAdd, Nat.reduceLeDiff, Nat.reduceMul, Nat.reduceSub, Int.cast_ofNat_Int, Int.reduceEq, Int.reduceLT, Int.reduceLE]
          exact ⟨_, by rw [hok, hp]; rfl, .push _ _ _ _⟩
        · cases hr : inB (c.hi[k]'(by omega)) c.lv 2
          · simp (disch := first | omega | assumption | ((simp only [St.next_push, St.next_set]); omega) | exact one_int _ _ | exact one_bool _ | exact one_str _ | exact one_ptr _ _ | exact one_slice _ _ _ _ _ | exact one_nilSlice | exact isSl_slice _ _ _ _ _ | exact isSl_nil | exact one_fn _ _ _ | exact one_map _ | ((repeat (first | rw [St.next_push] | rw [St.next_set])); done) | decide +kernel) only [go_sem, ↓run_draw0, h38, h37, h36, hmv, hhv, h3, h1, hlt', hlt, hlt2, hl1, hl3, hw, s_in', hp, hr, Bool.false_and, ↓reduceIte, Nat.reduceLT, Nat.reduceEqDiff, Nat.reduceAdd, Nat.reduceLeDiff, Nat.reduceMul, Nat.reduceSub, Int.cast_ofNat_Int, Int.reduceEq, Int.reduceLT, Int.reduceLE]
            exact ⟨_, by rw [hok, hp, hr]; rfl, .push _ _ _ _⟩
          · simp (disch := first | omega | assumption | ((simp only [St.next_push, St.next_set]); omega) | exact one_int _ _ | exact one_bool _ | exact one_str _ | exact one_ptr _ _ | exact one_slice _ _ _ _ _ | exact one_nilSlice | exact isSl_slice _ _ _ _ _ | exact isSl_nil | exact one_fn _ _ _ | exact one_map _ | ((repeat (first | rw [St.next_push] | rw [St.next_set])); done) | decide +kernel) only [go_sem, ↓run_draw0, h38, h37, h36, hmv, hhv, h3, h1, hlt', hlt, hlt2, hl1, hl3, hw, hw2, s_in', hp, hr, ↓reduceIte, Nat.reduceLT, Nat.reduceEqDiff, Nat.reduceAdd, Nat.reduceLeDiff, Nat.reduceMul, Nat.reduceSub, Int.cast_ofNat_Int, Int.reduceEq, Int.reduceLT, Int.reduceLE]
            have hp' := hp
            unfold inB at hp'
            rw [Bool.and_eq_true, decide_eq_true_eq, decide_eq_true_eq] at hp'
            exact ih (n - 1) _ _ (by omega) ⟨_, k + 1, c.mem[k], rfl, by omega, by omega, hp'.2, rfl, h37, h36, rfl, h1, by rw [hok, hp, hr]; rfl, by rw [hmv, hhv]⟩
      · have hlt' : ¬ (k : Int) < (c.mem.length : Int) := by omega
        simp (disch := first | omega | assumption | ((simp only [St.next_push, St.next_set]); omega) | exact one_int _ _ | exact one_bool _ | exact one_str _ | exact one_ptr _ _ | exact one_slice _ _ _ _ _ | exact one_nilSlice | exact isSl_slice _ _ _ _ _ | exact isSl_nil | exact one_fn _ _ _ | exact one_map _ | ((repeat (first | rw [St.next_push] | rw [St.next_set])); done) | decide +kernel) only [go_sem, ↓run_draw0, h38, h37, h36, h3, h1, hlt', ↓reduceIte, Nat.reduceLT, Nat.reduceEqDiff, Nat.reduceAdd, Nat.reduceLeDiff, Nat.reduceMul, Nat.reduceSub, Int.cast_ofNat_Int, Int.reduceEq, Int.reduceLT, Int.reduceLE]
        rw [hok, show c.mem.drop k = [] by rw [List.drop_of_length_le (by omega)]]
        exact ⟨_, by unfold okM; rfl, x0⟩
  · have hf : c.fin = true := by rw [Bool.and_eq_true] at hq; exact hq.1
    have hl : decide (c.lv < 2) = true := by rw [Bool.and_eq_true] at hq; exact hq.2
    rw [hf] at x0
    simp (disch := first | omega | assumption | ((simp only [St.next_push, St.next_set]); omega) | exact one_int _ _ | exact one_bool _ | exact one_str _ | exact one_ptr _ _ | exact one_slice _ _ _ _ _ | exact one_nilSlice | exact isSl_slice _ _ _ _ _ | exact isSl_nil | exact one_fn _ _ _ | exact one_map _ | ((repeat (first | rw [St.next_push] | rw [St.next_set])); done) | decide +kernel) only [go_sem, ↓run_draw0, g3, k3, s_in', ha, hb, hb', hcc, hf, hl, Bool.false_and, ↓reduceIte, Nat.reduceLT, Nat.reduceEqDiff, Nat.reduceAdd, Nat.reduceLeDiff, Nat.reduceMul, Nat.reduceSub, Int.cast_ofNat_Int, Int.reduceEq, Int.reduceLT, Int.reduceLE]
    exact ⟨_, rfl, x0⟩
end R14
