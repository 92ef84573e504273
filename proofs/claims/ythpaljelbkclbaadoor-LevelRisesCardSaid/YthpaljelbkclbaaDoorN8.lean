/-
  Part of a proof: see the last text of this claim.
-/
import Derived.Test.YthpaljelbkclbaaDoorN7
open Go Go.Abs Go.Proofs
set_option linter.unusedSimpArgs false
set_option linter.unusedVariables false
set_option maxRecDepth 100000
namespace R14
noncomputable section
def someBit (b : Int) (i : Nat) : Bool := decide ((b / ((2 ^ min i (bitsA .u8) : Nat) : Int)).tmod 2 = 1)
/-- the members that bits tell -/
def someN (b : Int) : Nat → List Int
  | 0 => [wrapA .i64 (1 + wrapA .i64 (wrapA .u8 (b.tdiv 128)))]
  | i + 1 => someN b i ++ (bif someBit b i then [((i + 1 : Nat) : Int)] else [])
theorem someN_len (b : Int) : ∀ i, (someN b i).length ≤ i + 1
  | 0 => Nat.le_refl _
  | i + 1 => by
    unfold someN
    have := someN_len b i
    cases someBit b i
    · simp; omega
    · simp; omega
set_option maxHeartbeats 2000000 in
theorem s_some (b : Int) (σ : St) : ∃ v' σ', (W cfg).f 7 [.int .u8 b] σ = some (v', σ') ∧ OwnI σ' v' (someN b 7) ∧ Ext [] [] σ σ' ∧ (∀ i ∈ sid v', σ.next ≤ i) := by
  rw [E_7]; simp only [bodyOf, Tryd.f7]
  simp (disch := first | omega | assumption | ((simp only [St.next_push, St.next_set]); omega) | exact one_int _ _ | exact one_bool _ | exact one_str _ | exact one_ptr _ _ | exact one_slice _ _ _ _ _ | exact one_nilSlice | exact isSl_slice _ _ _ _ _ | exact isSl_nil | exact one_fn _ _ _ | exact one_map _ | ((repeat (first | rw [St.next_push] | rw [St.next_set])); done) | decide +kernel) only [go_sem, ↓run_draw0, ↓reduceIte, Nat.reduceLT, Nat.reduceEqDiff, Nat.reduceAdd, Nat.reduceLeDiff, Nat.reduceMul, Nat.reduceSub, Int.cast_ofNat_Int, Int.reduceEq, Int.reduceLT, Int.reduceLE]
  refine run_loop_inv cfg (Q := fun (r : ResF) => ∃ v' σ', r = some (v', σ') ∧ OwnI σ' v' (someN b 7) ∧ Ext [] [] σ σ' ∧ (∀ i ∈ sid v', σ.next ≤ i))
    (I := fun n a σ1 => ∃ (η : Env) (i : Nat) (v : AV), a = ⟨mat 25 η, [], false⟩ ∧ i + n = 7 ∧ lk η 4 = .int .i64 (i : Int) ∧ lk η 3 = v ∧ lk η 0 = .int .u8 b ∧ OwnI σ1 v (someN b i) ∧ Ext [] [] σ σ1 ∧ (∀ i ∈ sid v, σ.next ≤ i))
    7 ⟨_, 0, _, rfl, by omega, rfl, rfl, rfl, OwnI.new (l := someN b 0) rfl rfl, .push _ _ _ _, by intro i hi; exact Nat.le_of_eq (List.mem_singleton.1 hi).symm⟩ ?_
  rintro n a σ1 ⟨η, i, v, rfl, hi, h4, h3, h0, ho, hx, hf⟩ ih
  by_cases hlt : i < 7
  · have hlt' : (i : Int) < 7 := by omega
    have hsh := aBin_shrI cfg.T cfg.E 5 .u8 .i64 b i
    have hsh : aBin cfg.T cfg.E .shr 5 (.int .u8 b) (.int .i64 (i : Int)) = some (.int .u8 (b / ((2 ^ min i (bitsA .u8) : Nat) : Int))) := hsh
    have hw : wrapA .i64 ((i : Int) + 1) = ((i + 1 : Nat) : Int) := by rw [wrap64] <;> omega
    have hsn : someN b (i + 1) = someN b i ++ (bif someBit b i then [((i + 1 : Nat) : Int)] else []) := rfl
    cases hb : someBit b i
    · rw [hb, cond_false, List.append_nil] at hsn
      unfold someBit at hb
      simp (disch := first | omega | assumption | ((simp only [St.next_push, St.next_set]); omega) | exact one_int _ _ | exact one_bool _ | exact one_str _ | exact one_ptr _ _ | exact one_slice _ _ _ _ _ | exact one_nilSlice | exact isSl_slice _ _ _ _ _ | exact isSl_nil | exact one_fn _ _ _ | exact one_map _ | ((repeat (first | rw [St.next_push] | rw [St.next_set])); done) | decide +kernel) only [go_sem, ↓run_draw0, h4, h3, h0, hlt', hsh, hb, hw, ↓reduceIte, Nat.reduceLT, Nat.reduceEqDiff, Nat.reduceAdd, Nat.reduceLeDiff, Nat.reduceMul, Nat.reduceSub, Int.cast_ofNat_Int, Int.reduceEq, Int.reduceLT, Int.reduceLE]
      exact ih (n - 1) _ _ (by omega) ⟨_, i + 1, v, rfl, by omega, rfl, h3, h0, by rw [hsn]; exact ho, hx, hf⟩
    · rw [hb, cond_true] at hsn
      unfold someBit at hb
      have hlen := someN_len b i
      obtain ⟨v2, σ2, ha, ho2, hx2, hv2⟩ := oap_23 (ho.mono (Ext.push [] [] σ1 (.cells [.int .i64 ((i + 1 : Nat) : Int)] 0 false)) (by simp)) ((OwnI.new (σ := σ1) (l := [((i + 1 : Nat) : Int)]) (n := 1) rfl rfl).ints) (by simp; omega)
      simp (disch := first | omega | assumption | ((simp only [St.next_push, St.next_set]); omega) | exact one_int _ _ | exact one_bool _ | exact one_str _ | exact one_ptr _ _ | exact one_slice _ _ _ _ _ | exact one_nilSlice | exact isSl_slice _ _ _ _ _ | exact isSl_nil | exact one_fn _ _ _ | exact one_map _ | ((repeat (first | rw [St.next_push] | rw [St.next_set])); done) | decide +kernel) only [go_sem, ↓run_draw0, h4, h3, h0, hlt', hsh, hb, hw, ha, ↓reduceIte, Nat.reduceLT, Nat.reduceEqDiff, Nat.reduceAdd, Nat.reduceLeDiff, Nat.reduceMul, Nat.reduceSub, Int.cast_ofNat_Int, Int.reduceEq, Int.reduceLT, Int.reduceLE]
      refine ih (n - 1) _ _ (by omega) ⟨_, i + 1, v2, rfl, by omega, rfl, rfl, h0, by rw [hsn]; exact ho2, (hx.pushR _).new hx2 (fun j hj => .inr (hf j hj)) (by simp), ?_⟩
      rcases hv2 with ⟨rfl, _⟩ | rfl
      · exact hf
      · have := hx.next
        intro j hj; simp only [sid, List.mem_singleton, St.next_push] at hj; omega
  · have hlt' : ¬ (i : Int) < 7 := by omega
    have : i = 7 := by omega
    subst this
    simp (disch := first | omega | assumption | ((simp only [St.next_push, St.next_set]); omega) | exact one_int _ _ | exact one_bool _ | exact one_str _ | exact one_ptr _ _ | exact one_slice _ _ _ _ _ | exact one_nilSlice | exact isSl_slice _ _ _ _ _ | exact isSl_nil | exact one_fn _ _ _ | exact one_map _ | ((repeat (first | rw [St.next_push] | rw [St.next_set])); done) | decide +kernel) only [go_sem, ↓run_draw0, h4, h3, h0, hlt', ↓reduceIte, Nat.reduceLT, Nat.reduceEqDiff, Nat.reduceAdd, Nat.reduceLeDiff, Nat.reduceMul, Nat.reduceSub, Int.cast_ofNat_Int, Int.reduceEq, Int.reduceLT, Int.reduceLE]
    exact ⟨_, _, rfl, ho, hx, hf⟩
def newOf (l : List Int) : Lc := { mem := compact (isort l), hi := List.replicate (compact (isort l)).length 1, lv := 1, fin := false }
theorem dtail_len : ∀ (l : List Int) (x : Int), (dtail x l).length ≤ l.length
  | [], _ => Nat.le_refl _
  | y :: r, x => by
    unfold dtail
    cases decide (y = x)
    · simp; exact dtail_len r y
    · simp; have := dtail_len r y; omega
theorem compact_len (l : List Int) : (compact l).length ≤ l.length := by
  cases l with
  | nil => exact Nat.le_refl _
  | cons x r => simp [compact]; exact dtail_len r x
set_option maxHeartbeats 4000000 in
theorem s_New {σ : St} {v : AV} {l : List Int} (h : Ints σ v l) (hn : l.length ≤ 12) :
    ∃ mv' hv' σ', (W cfg).f 6 [v] σ = some (.tuple [.agg ((if lright (newOf l) then newOf l else ⟨[], [], 0, false⟩ : Lc).cells mv' hv'), .bool (lright (newOf l))], σ') ∧ Ext [] [] σ σ' ∧
      (lright (newOf l) = true → Ints σ' mv' (newOf l).mem ∧ OwnI σ' hv' (newOf l).hi ∧ (∀ i ∈ sid mv', σ.next ≤ i)) ∧ (lright (newOf l) = false → mv' = .nilSlice ∧ hv' = .nilSlice) := by
  have hv := h.one
  have x0 : Ext [] [] σ ((σ.push (.cells [.nilSlice, .nilSlice, .int .i64 0, .bool false] 0 false)).push (.cells [v] 0 false)) := (Ext.push _ _ _ _).pushR _
  have hval : ∀ σ, (W cfg).f 15 [v] σ = some (.fn 32 [] [.ptr σ.next 0], σ.push (.cells [v] 0 false)) := by
    intro σ
    rw [E_15]; simp only [bodyOf, Tryd.f15]
    simp (disch := first | omega | assumption | ((simp only [St.next_push, St.next_set]); omega) | exact one_int _ _ | exact one_bool _ | exact one_str _ | exact one_ptr _ _ | exact one_slice _ _ _ _ _ | exact one_nilSlice | exact isSl_slice _ _ _ _ _ | exact isSl_nil | exact one_fn _ _ _ | exact one_map _ | ((repeat (first | rw [St.next_push] | rw [St.next_set])); done) | decide +kernel) only [go_sem, ↓run_draw0, ↓reduceIte, Nat.reduceLT, Nat.reduceEqDiff, Nat.reduceAdd, Nat.reduceLeDiff, Nat.reduceMul, Nat.reduceSub, Int.cast_ofNat_Int, Int.reduceEq, Int.reduceLT, Int.reduceLE]
  obtain ⟨σ1, v1, h1, o1, x1, f1⟩ := s_Sorted (r := σ.next + 1) (cellsOf_push_eq _ _ _ _ (by simp)) (h.ext x0) hn
  obtain ⟨σ2, v2, h2, o2, x2, f2⟩ := s_Compact o1 (by rw [isort_len]; omega)
  have hlen := compact_len (isort l)
  rw [isort_len] at hlen
  have p1 := x1.next
  have p2 := x2.next
  simp only [St.next_push] at p1
  have q1 := o2.one
  have q2 := o2.isSl
  have q3 := o2.slenM
  have y2 : Ext [] [] σ σ2 := (x0.trans x1).new x2 (fun i hi => .inr (by have := f1 i hi; simp at this; omega)) (by simp)
  obtain ⟨σ3, v3, h3, o3, x3, f3⟩ := s_Repeat (σ := (σ2.push (.cells [v2, .nilSlice, .int .i64 1, .bool false] 0 false)).push (.cells [.int .i64 1] 0 false)) (v := .slice (σ2.next + 1) 0 1 1 1) (x := 1) (n := (compact (isort l)).length) ((OwnI.new (σ := σ2.push (.cells [v2, .nilSlice, .int .i64 1, .bool false] 0 false)) (l := [1]) rfl rfl).ints) (by omega)
  have q4 := o3.ints.one
  have p3 := x3.next
  simp only [St.next_push] at p3
  rw [E_6]; simp only [bodyOf, Tryd.f6]
  have hg3 : σ3.get σ2.next = some (.cells [v2, .nilSlice, .int .i64 1, .bool false] 0 false) := by
    rw [x3.get0 (by simp; omega), St.get_push_ne _ _ (by simp)]; exact St.get_push_eq _ _ rfl
  have z3 : Ext [] [] σ2 σ3 := ((Ext.push _ _ _ _).pushR _).trans x3
  have e3 : Ext [σ2.next] [] σ3 (σ3.set σ2.next (.cells [v2, v3, .int .i64 1, .bool false] 0 false)) := Ext.set _ (.inl (by simp))
  have y3 : Ext [] [] σ2 (σ3.set σ2.next (.cells [v2, v3, .int .i64 1, .bool false] 0 false)) := z3.new e3 (by simp) (by simp)
  have hv2lt : ∀ i ∈ sid v2, i < σ2.next := fun i hi => by have := o1.lt i (f2 i hi); omega
  have o3' : OwnI (σ3.set σ2.next (.cells [v2, v3, .int .i64 1, .bool false] 0 false)) v3 (newOf l).hi := o3.mono e3 (fun i hi => by have := f3 i hi; simp at this; simp; omega)
  have o2' : Ints (σ3.set σ2.next (.cells [v2, v3, .int .i64 1, .bool false] 0 false)) v2 (newOf l).mem := o2.ext y3
  have hnm : (newOf l).mem.length ≤ 12 := by show (compact (isort l)).length ≤ 12; omega
  have hnh : (newOf l).hi.length ≤ 12 := by show (List.replicate (compact (isort l)).length (1 : Int)).length ≤ 12; simp; omega
  obtain ⟨σ4, h4, x4⟩ := s_LRight (newOf l) o2' o3'.ints (by omega) (by omega)
  have p4 := x4.next
  simp only [St.next_set] at p4
  unfold Lc.cells at h4
  have h4 : (W cfg).f 17 [.agg [v2, v3, .int .i64 1, .bool false]] (σ3.set σ2.next (.cells [v2, v3, .int .i64 1, .bool false] 0 false)) = some (.bool (lright (newOf l)), σ4) := h4
  have hg4 : σ4.get σ.next = some (.cells [.nilSlice, .nilSlice, .int .i64 0, .bool false] 0 false) := by
    rw [x4.get0 (by simp; omega), y3.get0 (by omega), x2.get σ.next (by omega) (fun hi => by have := f1 _ hi; simp at this; omega) (by simp), x1.get0 (by simp; omega), St.get_push_ne _ _ (by simp)]
    exact St.get_push_eq _ _ rfl
  have hc4 : cellsOf σ4 σ2.next = some [v2, v3, .int .i64 1, .bool false] := by
    rw [x4.cells0 (by simp; omega)]; exact cellsOf_set_eq _ _ _ _ rfl (by omega)
  cases hr : lright (newOf l)
  · rw [hr] at h4
    simp (disch := first | omega | assumption | ((simp only [St.next_push, St.next_set]); omega) | exact one_int _ _ | exact one_bool _ | exact one_str _ | exact one_ptr _ _ | exact one_slice _ _ _ _ _ | exact one_nilSlice | exact isSl_slice _ _ _ _ _ | exact isSl_nil | exact one_fn _ _ _ | exact one_map _ | ((repeat (first | rw [St.next_push] | rw [St.next_set])); done) | decide +kernel) only [go_sem, ↓run_draw0, hval, h1, h2, q3, h3, hg3, h4, hg4, hc4, ↓reduceIte, Nat.reduceLT, Nat.reduceEqDiff, Nat.reduceAdd, Nat.reduceLeDiff, Nat.reduceMul, Nat.reduceSub, Int.cast_ofNat_Int, Int.reduceEq, Int.reduceLT, Int.reduceLE]
    exact ⟨_, _, _, rfl, (y2.trans (y3.trans x4)).setR _ (.inr (Nat.le_refl _)), fun h => h.elim, fun _ => ⟨rfl, rfl⟩⟩
  · rw [hr] at h4
    simp (disch := first | omega | assumption | ((simp only [St.next_push, St.next_set]); omega) | exact one_int _ _ | exact one_bool _ | exact one_str _ | exact one_ptr _ _ | exact one_slice _ _ _ _ _ | exact one_nilSlice | exact isSl_slice _ _ _ _ _ | exact isSl_nil | exact one_fn _ _ _ | exact one_map _ | ((repeat (first | rw [St.next_push] | rw [St.next_set])); done) | decide +kernel) only [go_sem, ↓run_draw0, hval, h1, h2, q3, h3, hg3, h4, hg4, hc4, ↓reduceIte, Nat.reduceLT, Nat.reduceEqDiff, Nat.reduceAdd, Nat.reduceLeDiff, Nat.reduceMul, Nat.reduceSub, Int.cast_ofNat_Int, Int.reduceEq, Int.reduceLT, Int.reduceLE]
    have e5 : Ext [σ.next] [] σ4 (σ4.set σ.next (.cells [v2, v3, .int .i64 1, .bool false] 0 false)) := Ext.set _ (.inl (by simp))
    have f2' : ∀ i ∈ sid v2, σ.next + 2 ≤ i := fun i hi => by have := f1 i (f2 i hi); simpa using this
    refine ⟨_, _, _, rfl, (y2.trans (y3.trans x4)).setR _ (.inr (Nat.le_refl _)), fun _ => ⟨(o2'.ext x4).mono' e5 (fun i hi => by have := f2' i hi; simp; omega), (o3'.mono x4 (by simp)).mono e5 (fun i hi => by have := f3 i hi; simp at this; simp; omega), fun i hi => by have := f2' i hi; omega⟩, fun h => h.elim⟩
end
end R14
