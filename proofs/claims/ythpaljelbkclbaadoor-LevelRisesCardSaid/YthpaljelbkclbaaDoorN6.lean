/-
  Part of a proof: see the last text of this claim.
-/
import Derived.Test.YthpaljelbkclbaaDoorN5
open Go Go.Abs Go.Proofs
set_option linter.unusedSimpArgs false
set_option linter.unusedVariables false
set_option maxRecDepth 100000
namespace R14
theorem s_CloneI {σ : St} {v : AV} {l : List Int} (h : Ints σ v l) (hn : l.length ≤ 4294967296) :
    ∃ v' σ', (W cfg).f 38 [v] σ = some (v', σ') ∧ OwnI σ' v' l ∧ Ext [] [] σ σ' ∧ (∀ i ∈ sid v', σ.next ≤ i) := by
  have g2 := h.isSl
  rw [E_38]; simp only [bodyOf, Tryd.f38]
  simp (disch := first | omega | assumption | ((simp only [St.next_push, St.next_set]); omega) | exact one_int _ _ | exact one_bool _ | exact one_str _ | exact one_ptr _ _ | exact one_slice _ _ _ _ _ | exact one_nilSlice | exact isSl_slice _ _ _ _ _ | exact isSl_nil | exact one_fn _ _ _ | exact one_map _ | ((repeat (first | rw [St.next_push] | rw [St.next_set])); done) | decide +kernel) only [go_sem, ↓run_draw0, ↓reduceIte, Nat.reduceLT, Nat.reduceEqDiff, Nat.reduceAdd, Nat.reduceLeDiff, Nat.reduceMul, Nat.reduceSub, Int.cast_ofNat_Int, Int.reduceEq, Int.reduceLT, Int.reduceLE]
  cases hv : isNilS v
  · have he : OwnI (σ.push (.cells [] 0 false)) (.slice σ.next 0 0 0 1) [] := OwnI.new (l := []) rfl rfl
    obtain ⟨v', σ', h1, h2, h4, h5⟩ := oap_23 he (h.ext (Ext.push [] [] σ (.cells [] 0 false))) (by simp; omega)
    simp (disch := first | omega | assumption | ((simp only [St.next_push, St.next_set]); omega) | exact one_int _ _ | exact one_bool _ | exact one_str _ | exact one_ptr _ _ | exact one_slice _ _ _ _ _ | exact one_nilSlice | exact isSl_slice _ _ _ _ _ | exact isSl_nil | exact one_fn _ _ _ | exact one_map _ | ((repeat (first | rw [St.next_push] | rw [St.next_set])); done) | decide +kernel) only [go_sem, ↓run_draw0, hv, h1, ↓reduceIte, Nat.reduceLT, Nat.reduceEqDiff, Nat.reduceAdd, Nat.reduceLeDiff, Nat.reduceMul, Nat.reduceSub, Int.cast_ofNat_Int, Int.reduceEq, Int.reduceLT, Int.reduceLE]
    refine ⟨_, _, rfl, h2, (Ext.push [] [] σ _).new h4 (by simp [sid]) (by simp), ?_⟩
    rcases h5 with ⟨rfl, rfl⟩ | rfl
    · simp [sid]
    · simp [sid]
  · simp (disch := first | omega | assumption | ((simp only [St.next_push, St.next_set]); omega) | exact one_int _ _ | exact one_bool _ | exact one_str _ | exact one_ptr _ _ | exact one_slice _ _ _ _ _ | exact one_nilSlice | exact isSl_slice _ _ _ _ _ | exact isSl_nil | exact one_fn _ _ _ | exact one_map _ | ((repeat (first | rw [St.next_push] | rw [St.next_set])); done) | decide +kernel) only [go_sem, ↓run_draw0, hv, ↓reduceIte, Nat.reduceLT, Nat.reduceEqDiff, Nat.reduceAdd, Nat.reduceLeDiff, Nat.reduceMul, Nat.reduceSub, Int.cast_ofNat_Int, Int.reduceEq, Int.reduceLT, Int.reduceLE]
    cases v with
    | nilSlice =>
      have : l = [] := by simpa using h.2
      subst this
      exact ⟨_, _, rfl, .nil _, .refl _ _ _, by simp [sid]⟩
    | _ => cases hv
set_option maxHeartbeats 2000000 in
theorem s_LClone {σ : St} {mv hv : AV} (c : Lc) (hm : Ints σ mv c.mem) (hh : Ints σ hv c.hi) (n1 : c.mem.length < 4294967296) (n2 : c.hi.length < 4294967296) :
    ∃ mv' hv' σ', (W cfg).f 19 [.agg (c.cells mv hv)] σ = some (.agg (c.cells mv' hv'), σ') ∧ OwnI σ' mv' c.mem ∧ OwnI σ' hv' c.hi ∧ Ext [] [] σ σ' ∧ (∀ i ∈ sid mv', σ.next ≤ i) ∧ (∀ i ∈ sid hv', σ.next ≤ i) ∧ (∀ i ∈ sid mv', i ∉ sid hv') := by
  have g1 := hm.one
  have k1 := hh.one
  have g2 := hm.isSl
  have k2 := hh.isSl
  have x0 : Ext [] [] σ ((σ.push (.cells (c.cells mv hv) 0 false)).push (.cells [.nilSlice, .nilSlice, .int .i64 0, .bool false] 0 false)) := (Ext.push _ _ _ _).pushR _
  unfold Lc.cells at x0 ⊢
  obtain ⟨mv', σ1, h1, o1, x1, f1⟩ := s_CloneI (hm.ext x0) (by omega)
  obtain ⟨hv', σ2, h2, o2, x2, f2⟩ := s_CloneI (hh.ext (x0.trans x1)) (by omega)
  have m1 := o1.ints.one
  have m2 := o2.ints.one
  have p1 := x1.next
  have p2 := x2.next
  simp only [St.next_push] at p1
  rw [E_19]; simp only [bodyOf, Tryd.f19]
  simp (disch := first | omega | assumption | ((simp only [St.next_push, St.next_set]); omega) | exact one_int _ _ | exact one_bool _ | exact one_str _ | exact one_ptr _ _ | exact one_slice _ _ _ _ _ | exact one_nilSlice | exact isSl_slice _ _ _ _ _ | exact isSl_nil | exact one_fn _ _ _ | exact one_map _ | ((repeat (first | rw [St.next_push] | rw [St.next_set])); done) | decide +kernel) only [go_sem, ↓run_draw0, h1, x1.cells0, x1.get0, h2, x2.cells0, x2.get0, ↓reduceIte, Nat.reduceLT, Nat.reduceEqDiff, Nat.reduceAdd, Nat.reduceLeDiff, Nat.reduceMul, Nat.reduceSub, Int.cast_ofNat_Int, Int.reduceEq, Int.reduceLT, Int.reduceLE]
  have ff2 : ∀ i ∈ sid hv', σ.next + 2 ≤ i := fun i hi => by have := f2 i hi; omega
  have ff1 : ∀ i ∈ sid mv', σ.next + 2 ≤ i := fun i hi => by have := f1 i hi; simp only [St.next_push] at this; omega
  have y : Ext [σ.next, σ.next + 1] [] σ2 ((σ2.set σ.next (.cells [mv', hv', .int .i64 c.lv, .bool c.fin] 0 false)).set (σ.next + 1) (.cells [mv', hv', .int .i64 c.lv, .bool c.fin] 0 false)) := (Ext.set _ (.inl (by simp))).setR _ (.inl (by simp))
  refine ⟨_, _, _, rfl, (o1.mono x2 (by simp)).mono y (fun i hi => by have := ff1 i hi; simp; omega), o2.mono y (fun i hi => by have := ff2 i hi; simp; omega), ?_, fun i hi => by have := ff1 i hi; omega, fun i hi => by have := ff2 i hi; omega, fun i h1 h2 => by
    have a := o1.lt i h1
    have b := f2 i h2
    omega⟩
  exact ((x0.trans x1).trans x2).new y (by simp) (by simp)
theorem s_May {σ : St} {mv hv : AV} (c : Lc) (n : Int) (g1 : mv.one = true) (g2 : hv.one = true) : ∃ σ', (W cfg).f 9 [.agg (c.cells mv hv), .int .i64 n] σ = some (.bool (inB n 1 c.lv), σ') ∧ Ext [] [] σ σ' := by
  unfold Lc.cells
  rw [E_9]; simp only [bodyOf, Tryd.f9]
  simp (disch := first | omega | assumption | ((simp only [St.next_push, St.next_set]); omega) | exact one_int _ _ | exact one_bool _ | exact one_str _ | exact one_ptr _ _ | exact one_slice _ _ _ _ _ | exact one_nilSlice | exact isSl_slice _ _ _ _ _ | exact isSl_nil | exact one_fn _ _ _ | exact one_map _ | ((repeat (first | rw [St.next_push] | rw [St.next_set])); done) | decide +kernel) only [go_sem, ↓run_draw0, s_in', ↓reduceIte, Nat.reduceLT, Nat.reduceEqDiff, Nat.reduceAdd, Nat.reduceLeDiff, Nat.reduceMul, Nat.reduceSub, Int.cast_ofNat_Int, Int.reduceEq, Int.reduceLT, Int.reduceLE]
  exact ⟨_, rfl, .push _ _ _ _⟩
def lowerOf (c : Lc) : Lc × Int := if c.lv = 1 then (c, 10) else bif c.fin then (c, 8) else ({ c with lv := 1 }, 0)
def finalOf (c : Lc) : Lc × Int := if c.lv = 1 then (c, 8) else bif c.fin then (c, 10) else ({ c with fin := true }, 0)
def upOf (c : Lc) : Lc × Int := if c.lv = 2 then (c, 10) else bif c.hi.any (fun y => decide (1 = y)) then (c, 8) else ({ c with lv := 2 }, 0)
theorem s_lower {σ : St} {p : Nat} {mv hv : AV} (c : Lc) (e : Ent) (hc : σ.get p = some (.cells (c.cells mv hv) 0 false)) :
    ∃ σ', (W cfg).f 24 [.ptr p 0, .agg e.cells] σ = some (.int .i64 (lowerOf c).2, σ') ∧ σ'.get p = some (.cells ((lowerOf c).1.cells mv hv) 0 false) ∧ Ext [p] [] σ σ' := by
  have hp := St.get_lt hc
  unfold Lc.cells at hc
  unfold lowerOf
  have hcs : cellsOf σ p = some [mv, hv, .int .i64 c.lv, .bool c.fin] := by rw [cellsOf_get, hc]; rfl
  rw [E_24]; simp only [bodyOf, Tryd.f24]
  by_cases h1 : c.lv = 1
  · simp (disch := first | omega | assumption | ((simp only [St.next_push, St.next_set]); omega) | exact one_int _ _ | exact one_bool _ | exact one_str _ | exact one_ptr _ _ | exact one_slice _ _ _ _ _ | exact one_nilSlice | exact isSl_slice _ _ _ _ _ | exact isSl_nil | exact one_fn _ _ _ | exact one_map _ | ((repeat (first | rw [St.next_push] | rw [St.next_set])); done) | decide +kernel) only [go_sem, ↓run_draw0, hcs, h1, ↓reduceIte, Nat.reduceLT, Nat.reduceEqDiff, Nat.reduceAdd, Nat.reduceLeDiff, Nat.reduceMul, Nat.reduceSub, Int.cast_ofNat_Int, Int.reduceEq, Int.reduceLT, Int.reduceLE]
    exact ⟨_, rfl, by rw [St.get_push_ne _ _ (by omega), hc]; rfl, .push _ _ _ _⟩
  · cases h2 : c.fin
    · simp (disch := first | omega | assumption | ((simp only [St.next_push, St.next_set]); omega) | exact one_int _ _ | exact one_bool _ | exact one_str _ | exact one_ptr _ _ | exact one_slice _ _ _ _ _ | exact one_nilSlice | exact isSl_slice _ _ _ _ _ | exact isSl_nil | exact one_fn _ _ _ | exact one_map _ | ((repeat (first | rw [St.next_push] | rw [St.next_set])); done) | decide +kernel) only [go_sem, ↓run_draw0, hcs, hc, h1, h2, ↓reduceIte, Nat.reduceLT, Nat.reduceEqDiff, Nat.reduceAdd, Nat.reduceLeDiff, Nat.reduceMul, Nat.reduceSub, Int.cast_ofNat_Int, Int.reduceEq, Int.reduceLT, Int.reduceLE]
      exact ⟨_, rfl, by rw [St.get_push_ne _ _ (by simp; omega), St.get_set_eq _ _ rfl hp]; rfl, (Ext.set _ (.inl (by simp))).pushR _⟩
    · simp (disch := first | omega | assumption | ((simp only [St.next_push, St.next_set]); omega) | exact one_int _ _ | exact one_bool _ | exact one_str _ | exact one_ptr _ _ | exact one_slice _ _ _ _ _ | exact one_nilSlice | exact isSl_slice _ _ _ _ _ | exact isSl_nil | exact one_fn _ _ _ | exact one_map _ | ((repeat (first | rw [St.next_push] | rw [St.next_set])); done) | decide +kernel) only [go_sem, ↓run_draw0, hcs, h1, h2, ↓reduceIte, Nat.reduceLT, Nat.reduceEqDiff, Nat.reduceAdd, Nat.reduceLeDiff, Nat.reduceMul, Nat.reduceSub, Int.cast_ofNat_Int, Int.reduceEq, Int.reduceLT, Int.reduceLE]
      exact ⟨_, rfl, by rw [St.get_push_ne _ _ (by omega), hc]; rfl, .push _ _ _ _⟩
theorem s_final {σ : St} {p : Nat} {mv hv : AV} (c : Lc) (e : Ent) (hc : σ.get p = some (.cells (c.cells mv hv) 0 false)) :
    ∃ σ', (W cfg).f 25 [.ptr p 0, .agg e.cells] σ = some (.int .i64 (finalOf c).2, σ') ∧ σ'.get p = some (.cells ((finalOf c).1.cells mv hv) 0 false) ∧ Ext [p] [] σ σ' := by
  have hp := St.get_lt hc
  unfold Lc.cells at hc
  unfold finalOf
  have hcs : cellsOf σ p = some [mv, hv, .int .i64 c.lv, .bool c.fin] := by rw [cellsOf_get, hc]; rfl
  rw [E_25]; simp only [bodyOf, Tryd.f25]
  by_cases h1 : c.lv = 1
  · simp (disch := first | omega | assumption | ((simp only [St.next_push, St.next_set]); omega) | exact one_int _ _ | exact one_bool _ | exact one_str _ | exact one_ptr _ _ | exact one_slice _ _ _ _ _ | exact one_nilSlice | exact isSl_slice _ _ _ _ _ | exact isSl_nil | exact one_fn _ _ _ | exact one_map _ | ((repeat (first | rw [St.next_push] | rw [St.next_set])); done) | decide +kernel) only [go_sem, ↓run_draw0, hcs, h1, ↓reduceIte, Nat.reduceLT, Nat.reduceEqDiff, Nat.reduceAdd, Nat.reduceLeDiff, Nat.reduceMul, Nat.reduceSub, Int.cast_ofNat_Int, Int.reduceEq, Int.reduceLT, Int.reduceLE]
    exact ⟨_, rfl, by rw [St.get_push_ne _ _ (by omega), hc]; rfl, .push _ _ _ _⟩
  · cases h2 : c.fin
    · simp (disch := first | omega | assumption | ((simp only [St.next_push, St.next_set]); omega) | exact one_int _ _ | exact one_bool _ | exact one_str _ | exact one_ptr _ _ | exact one_slice _ _ _ _ _ | exact one_nilSlice | exact isSl_slice _ _ _ _ _ | exact isSl_nil | exact one_fn _ _ _ | exact one_map _ | ((repeat (first | rw [St.next_push] | rw [St.next_set])); done) | decide +kernel) only [go_sem, ↓run_draw0, hcs, hc, h1, h2, ↓reduceIte, Nat.reduceLT, Nat.reduceEqDiff, Nat.reduceAdd, Nat.reduceLeDiff, Nat.reduceMul, Nat.reduceSub, Int.cast_ofNat_Int, Int.reduceEq, Int.reduceLT, Int.reduceLE]
      exact ⟨_, rfl, by rw [St.get_push_ne _ _ (by simp; omega), St.get_set_eq _ _ rfl hp]; rfl, (Ext.set _ (.inl (by simp))).pushR _⟩
    · simp (disch := first | omega | assumption | ((simp only [St.next_push, St.next_set]); omega) | exact one_int _ _ | exact one_bool _ | exact one_str _ | exact one_ptr _ _ | exact one_slice _ _ _ _ _ | exact one_nilSlice | exact isSl_slice _ _ _ _ _ | exact isSl_nil | exact one_fn _ _ _ | exact one_map _ | ((repeat (first | rw [St.next_push] | rw [St.next_set])); done) | decide +kernel) only [go_sem, ↓run_draw0, hcs, h1, h2, ↓reduceIte, Nat.reduceLT, Nat.reduceEqDiff, Nat.reduceAdd, Nat.reduceLeDiff, Nat.reduceMul, Nat.reduceSub, Int.cast_ofNat_Int, Int.reduceEq, Int.reduceLT, Int.reduceLE]
      exact ⟨_, rfl, by rw [St.get_push_ne _ _ (by omega), hc]; rfl, .push _ _ _ _⟩
theorem s_up {σ : St} {p : Nat} {mv hv : AV} (c : Lc) (e : Ent) (hc : σ.get p = some (.cells (c.cells mv hv) 0 false)) (hh : Ints σ hv c.hi) (n2 : c.hi.length < 4294967296) :
    ∃ σ', (W cfg).f 23 [.ptr p 0, .agg e.cells] σ = some (.int .i64 (upOf c).2, σ') ∧ σ'.get p = some (.cells ((upOf c).1.cells mv hv) 0 false) ∧ Ext [p] [] σ σ' := by
  have hp := St.get_lt hc
  have hq := s_ContainsI 1 (hh.ext (Ext.push [] [] σ (.cells e.cells 0 false))) n2
  unfold Lc.cells at hc
  unfold upOf
  have hcs : cellsOf σ p = some [mv, hv, .int .i64 c.lv, .bool c.fin] := by rw [cellsOf_get, hc]; rfl
  rw [E_23]; simp only [bodyOf, Tryd.f23]
  by_cases h1 : c.lv = 2
  · simp (disch := first | omega | assumption | ((simp only [St.next_push, St.next_set]); omega) | exact one_int _ _ | exact one_bool _ | exact one_str _ | exact one_ptr _ _ | exact one_slice _ _ _ _ _ | exact one_nilSlice | exact isSl_slice _ _ _ _ _ | exact isSl_nil | exact one_fn _ _ _ | exact one_map _ | ((repeat (first | rw [St.next_push] | rw [St.next_set])); done) | decide +kernel) only [go_sem, ↓run_draw0, hcs, h1, ↓reduceIte, Nat.reduceLT, Nat.reduceEqDiff, Nat.reduceAdd, Nat.reduceLeDiff, Nat.reduceMul, Nat.reduceSub, Int.cast_ofNat_Int, Int.reduceEq, Int.reduceLT, Int.reduceLE]
    exact ⟨_, rfl, by rw [St.get_push_ne _ _ (by omega), hc]; rfl, .push _ _ _ _⟩
  · cases h2 : c.hi.any (fun y => decide (1 = y))
    · rw [h2] at hq
      simp (disch := first | omega | assumption | ((simp only [St.next_push, St.next_set]); omega) | exact one_int _ _ | exact one_bool _ | exact one_str _ | exact one_ptr _ _ | exact one_slice _ _ _ _ _ | exact one_nilSlice | exact isSl_slice _ _ _ _ _ | exact isSl_nil | exact one_fn _ _ _ | exact one_map _ | ((repeat (first | rw [St.next_push] | rw [St.next_set])); done) | decide +kernel) only [go_sem, ↓run_draw0, hcs, hc, h1, hq, ↓reduceIte, Nat.reduceLT, Nat.reduceEqDiff, Nat.reduceAdd, Nat.reduceLeDiff, Nat.reduceMul, Nat.reduceSub, Int.cast_ofNat_Int, Int.reduceEq, Int.reduceLT, Int.reduceLE]
      exact ⟨_, rfl, by rw [St.get_push_ne _ _ (by simp; omega), St.get_set_eq _ _ rfl hp]; rfl, (Ext.set _ (.inl (by simp))).pushR _⟩
    · rw [h2] at hq
      simp (disch := first | omega | assumption | ((simp only [St.next_push, St.next_set]); omega) | exact one_int _ _ | exact one_bool _ | exact one_str _ | exact one_ptr _ _ | exact one_slice _ _ _ _ _ | exact one_nilSlice | exact isSl_slice _ _ _ _ _ | exact isSl_nil | exact one_fn _ _ _ | exact one_map _ | ((repeat (first | rw [St.next_push] | rw [St.next_set])); done) | decide +kernel) only [go_sem, ↓run_draw0, hcs, h1, hq, ↓reduceIte, Nat.reduceLT, Nat.reduceEqDiff, Nat.reduceAdd, Nat.reduceLeDiff, Nat.reduceMul, Nat.reduceSub, Int.cast_ofNat_Int, Int.reduceEq, Int.reduceLT, Int.reduceLE]
      exact ⟨_, rfl, by rw [St.get_push_ne _ _ (by omega), hc]; rfl, .push _ _ _ _⟩
/-- where a number stands, or would stand -/
def bsL (l : List Int) (x : Int) : Nat → Nat → Nat → Nat
  | 0, n, _ => n
  | f + 1, n, m => bif decide (n < m) then (bif decide (gi l ((n + m) / 2) < x) then bsL l x f ((n + m) / 2 + 1) m else bsL l x f n ((n + m) / 2)) else n
def bsAt (l : List Int) (x : Int) : Nat := bsL l x (l.length + 1) 0 l.length
def bsOk (l : List Int) (x : Int) : Bool := decide (bsAt l x < l.length) && decide (gi l (bsAt l x) = x)
set_option maxHeartbeats 2000000 in
theorem s_BinSearch {σ : St} {v : AV} {l : List Int} (x : Int) (h : Ints σ v l) (hn : l.length < 4294967296) :
    (W cfg).f 39 [v, .int .i64 x] σ = some (.tuple [.int .i64 (bsAt l x), .bool (bsOk l x)], σ) := by
  have g1 := h.one
  have g2 := h.isSl
  have g3 := h.slenM
  rw [E_39]; simp only [bodyOf, Tryd.f39]
  simp (disch := first | omega | assumption | ((simp only [St.next_push, St.next_set]); omega) | exact one_int _ _ | exact one_bool _ | exact one_str _ | exact one_ptr _ _ | exact one_slice _ _ _ _ _ | exact one_nilSlice | exact isSl_slice _ _ _ _ _ | exact isSl_nil | exact one_fn _ _ _ | exact one_map _ | ((repeat (first | rw [St.next_push] | rw [St.next_set])); done) | decide +kernel) only [go_sem, ↓run_draw0, g3, ↓reduceIte, Nat.reduceLT, Nat.reduceEqDiff, Nat.reduceAdd, Nat.reduceLeDiff, Nat.reduceMul, Nat.reduceSub, Int.cast_ofNat_Int, Int.reduceEq, Int.reduceLT, Int.reduceLE]
  refine run_loop_inv cfg (Q := fun (r : ResF) => r = some (.tuple [.int .i64 (bsAt l x), .bool (bsOk l x)], σ))
    (I := fun k a σ1 => ∃ (η : Env) (n m : Nat), a = ⟨mat 54 η, [], false⟩ ∧ m - n < k ∧ m ≤ l.length ∧ n ≤ l.length ∧ lk η 7 = .int .i64 (n : Int) ∧ lk η 8 = .int .i64 (m : Int) ∧ lk η 6 = .int .i64 l.length ∧ lk η 0 = v ∧ lk η 1 = .int .i64 x ∧ bsAt l x = bsL l x k n m ∧ σ1 = σ)
    (l.length + 1) ⟨_, 0, l.length, rfl, by omega, by omega, by omega, rfl, rfl, rfl, rfl, rfl, rfl, rfl⟩ ?_
  rintro k a σ1 ⟨η, n, m, rfl, hk, hm, hnl, h7, h8, h6, h0, h1, hbs, rfl⟩ ih
  obtain ⟨k, rfl⟩ : ∃ k', k = k' + 1 := ⟨k - 1, by omega⟩
  unfold bsL at hbs
  by_cases hlt : n < m
  · have hlt' : (n : Int) < (m : Int) := by omega
    rw [decide_eq_true hlt, cond_true] at hbs
    have hq : (n + m) / 2 < l.length := by omega
    obtain ⟨id, off, cap, hv, hid, _, _, hl0, _⟩ := h.atM (List.getElem?_eq_getElem hq)
    have hl1 := hl0 (by omega)
    have hgi : l[(n + m) / 2] = gi l ((n + m) / 2) := by unfold gi; simp [hq]
    rw [hgi] at hl1
    have w1 : wrapA .u64 (wrapA .i64 ((n : Int) + (m : Int))) = ((n + m : Nat) : Int) := by rw [wrap64, wrapU64] <;> omega
    have h61 := aBin_shrI cfg.T cfg.E 61 .u64 .u64 ((n + m : Nat) : Int) 1
    have h61 : aBin cfg.T cfg.E .shr 61 (.int .u64 ((n + m : Nat) : Int)) (.int .u64 1) = some (.int .u64 (((n + m : Nat) : Int) / 2)) := h61
    have w2 : wrapA .i64 (((n + m : Nat) : Int) / 2) = (((n + m) / 2 : Nat) : Int) := by rw [wrap64] <;> omega
    have w3 : wrapA .i64 ((((n + m) / 2 : Nat) : Int) + 1) = (((n + m) / 2 + 1 : Nat) : Int) := by rw [wrap64] <;> omega
    cases hp : decide (gi l ((n + m) / 2) < x)
    · rw [hp] at hbs
      simp (disch := first | omega | assumption | ((simp only [St.next_push, St.next_set]); omega) | exact one_int _ _ | exact one_bool _ | exact one_str _ | exact one_ptr _ _ | exact one_slice _ _ _ _ _ | exact one_nilSlice | exact isSl_slice _ _ _ _ _ | exact isSl_nil | exact one_fn _ _ _ | exact one_map _ | ((repeat (first | rw [St.next_push] | rw [St.next_set])); done) | decide +kernel) only [go_sem, ↓run_draw0, h7, h8, h0, hv, h1, hlt', w1, h61, w2, hq, hl1, s_less, hp, ↓reduceIte, Nat.reduceLT, Nat.reduceEqDiff, Nat.reduceAdd, Nat.reduceLeDiff, Nat.reduceMul, Nat.reduceSub, Int.cast_ofNat_Int, Int.reduceEq, Int.reduceLT, Int.reduceLE]
      exact ih k _ _ (by omega) ⟨_, n, (n + m) / 2, rfl, by omega, by omega, by omega, h7, rfl, h6, h0, h1, hbs, rfl⟩
    · rw [hp] at hbs
      simp (disch := first | omega | assumption | ((simp only [St.next_push, St.next_set]); omega) | exact one_int _ _ | exact one_bool _ | exact one_str _ | exact one_ptr _ _ | exact one_slice _ _ _ _ _ | exact one_nilSlice | exact isSl_slice _ _ _ _ _ | exact isSl_nil | exact one_fn _ _ _ | exact one_map _ | ((repeat (first | rw [St.next_push] | rw [St.next_set])); done) | decide +kernel) only [go_sem, ↓run_draw0, h7, h8, h0, hv, h1, hlt', w1, h61, w2, hq, hl1, s_less, hp, w3, ↓reduceIte, Nat.reduceLT, Nat.reduceEqDiff, Nat.reduceAdd, Nat.reduceLeDiff, Nat.reduceMul, Nat.reduceSub, Int.cast_ofNat_Int, Int.reduceEq, Int.reduceLT, Int.reduceLE]
      exact ih k _ _ (by omega) ⟨_, (n + m) / 2 + 1, m, rfl, by omega, by omega, by omega, rfl, h8, h6, h0, h1, hbs, rfl⟩
  · have hlt' : ¬ (n : Int) < (m : Int) := by omega
    rw [decide_eq_false hlt, cond_false] at hbs
    unfold bsOk
    rw [hbs]
    by_cases hq : n < l.length
    · have hq' : (n : Int) < (l.length : Int) := by omega
      obtain ⟨id, off, cap, hv, hid, _, _, hl0, _⟩ := h.atM (List.getElem?_eq_getElem hq)
      have hl1 := hl0 (by omega)
      have hgi : l[n] = gi l n := by unfold gi; simp [hq]
      rw [hgi] at hl1
      cases hp : decide (gi l n = x)
      · simp (disch := first | omega | assumption | ((simp only [St.next_push, St.next_set]); omega) | exact one_int _ _ | exact one_bool _ | exact one_str _ | exact one_ptr _ _ | exact one_slice _ _ _ _ _ | exact one_nilSlice | exact isSl_slice _ _ _ _ _ | exact isSl_nil | exact one_fn _ _ _ | exact one_map _ | ((repeat (first | rw [St.next_push] | rw [St.next_set])); done) | decide +kernel) only [go_sem, ↓run_draw0, h7, h8, h6, h0, hv, h1, hlt', hq, hq', hl1, hp, s_isNaN56, ↓reduceIte, Nat.reduceLT, Nat.reduceEqDiff, Nat.reduceAdd, Nat.reduceLeDiff, Nat.reduceMul, Nat.reduceSub, Int.cast_ofNat_Int, Int.reduceEq, Int.reduceLT, Int.reduceLE]
      · simp (disch := first | omega | assumption | ((simp only [St.next_push, St.next_set]); omega) | exact one_int _ _ | exact one_bool _ | exact one_str _ | exact one_ptr _ _ | exact one_slice _ _ _ _ _ | exact one_nilSlice | exact isSl_slice _ _ _ _ _ | exact isSl_nil | exact one_fn _ _ _ | exact one_map _ | ((repeat (first | rw [St.next_push] | rw [St.next_set])); done) | decide +kernel) only [go_sem, ↓run_draw0, h7, h8, h6, h0, hv, h1, hlt', hq, hq', hl1, hp, s_isNaN56, ↓reduceIte, Nat.reduceLT, Nat.reduceEqDiff, Nat.reduceAdd, Nat.reduceLeDiff, Nat.reduceMul, Nat.reduceSub, Int.cast_ofNat_Int, Int.reduceEq, Int.reduceLT, Int.reduceLE]
    · have hq' : ¬ (n : Int) < (l.length : Int) := by omega
      simp (disch := first | omega | assumption | ((simp only [St.next_push, St.next_set]); omega) | exact one_int _ _ | exact one_bool _ | exact one_str _ | exact one_ptr _ _ | exact one_slice _ _ _ _ _ | exact one_nilSlice | exact isSl_slice _ _ _ _ _ | exact isSl_nil | exact one_fn _ _ _ | exact one_map _ | ((repeat (first | rw [St.next_push] | rw [St.next_set])); done) | decide +kernel) only [go_sem, ↓run_draw0, h7, h8, h6, h0, h1, hlt', hq, hq', Bool.false_and, ↓reduceIte, Nat.reduceLT, Nat.reduceEqDiff, Nat.reduceAdd, Nat.reduceLeDiff, Nat.reduceMul, Nat.reduceSub, Int.cast_ofNat_Int, Int.reduceEq, Int.reduceLT, Int.reduceLE]
end R14
