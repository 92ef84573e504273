/-
  Part of a proof: see the last text of this claim.
-/
import Derived.Test.YthpaljelbkclbaaDoorL3
open Go Go.Abs Go.Proofs
set_option linter.unusedSimpArgs false
set_option linter.unusedVariables false
set_option maxRecDepth 100000
namespace R14
/-- the letters of what an entry of a kind may have -/
def kindTab : List (Int × List UInt8) := [(0, []), (1, [99, 98, 100]), (2, [99, 98, 109]), (3, [99, 109]), (4, [99]), (5, [110]), (6, [110]), (7, [110, 108]), (8, []), (9, []), (10, []), (11, [99, 98, 100, 111])]
def kindFields (k : Int) : Option (List UInt8) := tabGet kindTab k
theorem s_Fields (σ : St) (k : Int) : ∃ σ', (W cfg).f 34 [.int .i64 k] σ = some (.tuple [.str ((kindFields k).getD []), .bool (kindFields k).isSome], σ') ∧ Ext [] [] σ σ' := by
  have hl := lk_93 (σ := σ.push (.map (mkEs .i64 (kindTab.map fun p => (p.1, .str p.2)) 0) 12)) (r := σ.next) (k := .i64) (St.get_push_eq _ _ rfl) k true
  rw [lkM_str] at hl
  simp only [kindTab, List.map_cons, List.map_nil, mkEs, Nat.reduceAdd] at hl
  unfold kindFields kindTab
  rw [E_34]; simp only [bodyOf, Tryd.f34]
  simp (disch := first | omega | assumption | ((simp only [St.next_push, St.next_set]); omega) | exact one_int _ _ | exact one_bool _ | exact one_str _ | exact one_ptr _ _ | exact one_slice _ _ _ _ _ | exact one_nilSlice | exact isSl_slice _ _ _ _ _ | exact isSl_nil | exact one_fn _ _ _ | exact one_map _ | ((repeat (first | rw [St.next_push] | rw [St.next_set])); done) | decide +kernel) only [go_sem, ↓run_draw0, hl, ↓reduceIte, Nat.reduceLT, Nat.reduceEqDiff, Nat.reduceAdd, Nat.reduceLeDiff, Nat.reduceMul, Nat.reduceSub, Int.cast_ofNat_Int, Int.reduceEq, Int.reduceLT, Int.reduceLE]
  exact ⟨_, rfl, .push _ _ _ _⟩
theorem s_IndexByteS (s : List UInt8) (c : Int) (σ : St) : (W cfg).f 100 [.str s, .int .u8 c] σ = some (.int .i64 (idx (fun b => decide (b = c.toNat.toUInt8)) s), σ) := by
  rw [W_f]; rfl
theorem s_IndexByte (s : List UInt8) (c : Int) (σ : St) : (W cfg).f 94 [.str s, .int .u8 c] σ = some (.int .i64 (idx (fun b => decide (b = c.toNat.toUInt8)) s), σ) := by
  rw [E_94]; simp only [bodyOf, Tryd.f94]
  simp (disch := first | omega | assumption | ((simp only [St.next_push, St.next_set]); omega) | exact one_int _ _ | exact one_bool _ | exact one_str _ | exact one_ptr _ _ | exact one_slice _ _ _ _ _ | exact one_nilSlice | exact isSl_slice _ _ _ _ _ | exact isSl_nil | exact one_fn _ _ _ | exact one_map _ | ((repeat (first | rw [St.next_push] | rw [St.next_set])); done) | decide +kernel) only [go_sem, ↓run_draw0, s_IndexByteS, ↓reduceIte, Nat.reduceLT, Nat.reduceEqDiff, Nat.reduceAdd, Nat.reduceLeDiff, Nat.reduceMul, Nat.reduceSub, Int.cast_ofNat_Int, Int.reduceEq, Int.reduceLT, Int.reduceLE]
theorem s_StrIndex1 (s : List UInt8) (c : UInt8) (σ : St) : (W cfg).f 87 [.str s, .str [c]] σ = some (.int .i64 (idx (fun b => decide (b = c)) s), σ) := by
  have hp : (fun b : UInt8 => decide (b = (c.toNat : Int).toNat.toUInt8)) = fun b => decide (b = c) := by
    funext b
    rw [Int.toNat_natCast, show c.toNat.toUInt8 = c from UInt8.ofNat_toNat]
  have hi : aIndex cfg.T 9 (.str [c]) (.int .i64 0) = some (.int .u8 c.toNat) := by
    exact aIndex_str (T := cfg.T) (i := tyOf cfg.T 9) (by kernel_rfl) (by kernel_rfl) [c] .i64 0
  rw [E_87]; simp only [bodyOf, Tryd.f87]
  simp (disch := first | omega | assumption | ((simp only [St.next_push, St.next_set]); omega) | exact one_int _ _ | exact one_bool _ | exact one_str _ | exact one_ptr _ _ | exact one_slice _ _ _ _ _ | exact one_nilSlice | exact isSl_slice _ _ _ _ _ | exact isSl_nil | exact one_fn _ _ _ | exact one_map _ | ((repeat (first | rw [St.next_push] | rw [St.next_set])); done) | decide +kernel) only [go_sem, ↓run_draw0, hi, ↓reduceIte, Nat.reduceLT, Nat.reduceEqDiff, Nat.reduceAdd, Nat.reduceLeDiff, Nat.reduceMul, Nat.reduceSub, Int.cast_ofNat_Int, Int.reduceEq, Int.reduceLT, Int.reduceLE]
  cases h : decide ([c] = s)
  · simp (disch := first | omega | assumption | ((simp only [St.next_push, St.next_set]); omega) | exact one_int _ _ | exact one_bool _ | exact one_str _ | exact one_ptr _ _ | exact one_slice _ _ _ _ _ | exact one_nilSlice | exact isSl_slice _ _ _ _ _ | exact isSl_nil | exact one_fn _ _ _ | exact one_map _ | ((repeat (first | rw [St.next_push] | rw [St.next_set])); done) | decide +kernel) only [go_sem, ↓run_draw0, h, s_IndexByte, hi, hp, ↓reduceIte, Nat.reduceLT, Nat.reduceEqDiff, Nat.reduceAdd, Nat.reduceLeDiff, Nat.reduceMul, Nat.reduceSub, Int.cast_ofNat_Int, Int.reduceEq, Int.reduceLT, Int.reduceLE]
  · simp (disch := first | omega | assumption | ((simp only [St.next_push, St.next_set]); omega) | exact one_int _ _ | exact one_bool _ | exact one_str _ | exact one_ptr _ _ | exact one_slice _ _ _ _ _ | exact one_nilSlice | exact isSl_slice _ _ _ _ _ | exact isSl_nil | exact one_fn _ _ _ | exact one_map _ | ((repeat (first | rw [St.next_push] | rw [St.next_set])); done) | decide +kernel) only [go_sem, ↓run_draw0, h, ↓reduceIte, Nat.reduceLT, Nat.reduceEqDiff, Nat.reduceAdd, Nat.reduceLeDiff, Nat.reduceMul, Nat.reduceSub, Int.cast_ofNat_Int, Int.reduceEq, Int.reduceLT, Int.reduceLE]
    have : s = [c] := (of_decide_eq_true h).symm
    subst this
    simp [idx]
theorem s_Contains1 (s : List UInt8) (c : UInt8) (σ : St) : (W cfg).f 54 [.str s, .str [c]] σ = some (.bool (s.any fun b => decide (b = c)), σ) := by
  have h1 : ∀ σ, (W cfg).f 73 [.str s, .str [c]] σ = some (.int .i64 (idx (fun b => decide (b = c)) s), σ) := by
    intro σ
    rw [E_73]; simp only [bodyOf, Tryd.f73]
    simp (disch := first | omega | assumption | ((simp only [St.next_push, St.next_set]); omega) | exact one_int _ _ | exact one_bool _ | exact one_str _ | exact one_ptr _ _ | exact one_slice _ _ _ _ _ | exact one_nilSlice | exact isSl_slice _ _ _ _ _ | exact isSl_nil | exact one_fn _ _ _ | exact one_map _ | ((repeat (first | rw [St.next_push] | rw [St.next_set])); done) | decide +kernel) only [go_sem, ↓run_draw0, s_StrIndex1, ↓reduceIte, Nat.reduceLT, Nat.reduceEqDiff, Nat.reduceAdd, Nat.reduceLeDiff, Nat.reduceMul, Nat.reduceSub, Int.cast_ofNat_Int, Int.reduceEq, Int.reduceLT, Int.reduceLE]
  rw [E_54]; simp only [bodyOf, Tryd.f54]
  simp (disch := first | omega | assumption | ((simp only [St.next_push, St.next_set]); omega) | exact one_int _ _ | exact one_bool _ | exact one_str _ | exact one_ptr _ _ | exact one_slice _ _ _ _ _ | exact one_nilSlice | exact isSl_slice _ _ _ _ _ | exact isSl_nil | exact one_fn _ _ _ | exact one_map _ | ((repeat (first | rw [St.next_push] | rw [St.next_set])); done) | decide +kernel) only [go_sem, ↓run_draw0, h1, idx_any, ↓reduceIte, Nat.reduceLT, Nat.reduceEqDiff, Nat.reduceAdd, Nat.reduceLeDiff, Nat.reduceMul, Nat.reduceSub, Int.cast_ofNat_Int, Int.reduceEq, Int.reduceLT, Int.reduceLE]

/-- a field that is asked for: its letter, is it there, is it right -/
structure Fld where
  c : UInt8
  there : Bool
  right : Bool
def Fld.cells (f : Fld) : List AV := [.str [f.c], .bool f.there, .bool f.right]
def Fld.bad (may : List UInt8) (f : Fld) : Bool := bif may.any (fun b => decide (b = f.c)) then !f.right else f.there
theorem s_fit1 {σ : St} {r : Nat} {may : List UInt8} (f : Fld) (hc : cellsOf σ r = some [.str may]) : ∃ σ', (W cfg).f 53 [.agg f.cells, .ptr r 0] σ = some (.bool (f.bad may), σ') ∧ Ext [] [] σ σ' := by
  have hl := cellsOf_lt hc
  unfold Fld.cells Fld.bad
  rw [E_53]; simp only [bodyOf, Tryd.f53]
  simp (disch := first | omega | assumption | ((simp only [St.next_push, St.next_set]); omega) | exact one_int _ _ | exact one_bool _ | exact one_str _ | exact one_ptr _ _ | exact one_slice _ _ _ _ _ | exact one_nilSlice | exact isSl_slice _ _ _ _ _ | exact isSl_nil | exact one_fn _ _ _ | exact one_map _ | ((repeat (first | rw [St.next_push] | rw [St.next_set])); done) | decide +kernel) only [go_sem, ↓run_draw0, hc, s_Contains1, ↓reduceIte, Nat.reduceLT, Nat.reduceEqDiff, Nat.reduceAdd, Nat.reduceLeDiff, Nat.reduceMul, Nat.reduceSub, Int.cast_ofNat_Int, Int.reduceEq, Int.reduceLT, Int.reduceLE]
  cases h : may.any fun b => decide (b = f.c)
  · simp (disch := first | omega | assumption | ((simp only [St.next_push, St.next_set]); omega) | exact one_int _ _ | exact one_bool _ | exact one_str _ | exact one_ptr _ _ | exact one_slice _ _ _ _ _ | exact one_nilSlice | exact isSl_slice _ _ _ _ _ | exact isSl_nil | exact one_fn _ _ _ | exact one_map _ | ((repeat (first | rw [St.next_push] | rw [St.next_set])); done) | decide +kernel) only [go_sem, ↓run_draw0, h, ↓reduceIte, Nat.reduceLT, Nat.reduceEqDiff, Nat.reduceAdd, Nat.reduceLeDiff, Nat.reduceMul, Nat.reduceSub, Int.cast_ofNat_Int, Int.reduceEq, Int.reduceLT, Int.reduceLE]
    exact ⟨_, rfl, .push _ _ _ _⟩
  · simp (disch := first | omega | assumption | ((simp only [St.next_push, St.next_set]); omega) | exact one_int _ _ | exact one_bool _ | exact one_str _ | exact one_ptr _ _ | exact one_slice _ _ _ _ _ | exact one_nilSlice | exact isSl_slice _ _ _ _ _ | exact isSl_nil | exact one_fn _ _ _ | exact one_map _ | ((repeat (first | rw [St.next_push] | rw [St.next_set])); done) | decide +kernel) only [go_sem, ↓run_draw0, h, ↓reduceIte, Nat.reduceLT, Nat.reduceEqDiff, Nat.reduceAdd, Nat.reduceLeDiff, Nat.reduceMul, Nat.reduceSub, Int.cast_ofNat_Int, Int.reduceEq, Int.reduceLT, Int.reduceLE]
    exact ⟨_, rfl, .push _ _ _ _⟩
theorem s_IndexFuncF {σ : St} {v f : AV} {l : List Fld} {p : Fld → Bool} (h : SlR σ v 3 (l.map Fld.cells)) (hn : l.length < 4294967296) (hf : Asks cfg (fun e => .agg e.cells) l σ f p) :
    ∃ σ', (W cfg).f 72 [v, f] σ = some (.int .i64 (idx p l), σ') ∧ Ext [] [] σ σ' := by
  have h2 := h.isSl
  have h3 := h.slenM
  rw [E_72]; simp only [bodyOf, Tryd.f72]
  simp (disch := first | omega | assumption | ((simp only [St.next_push, St.next_set]); omega) | exact one_int _ _ | exact one_bool _ | exact one_str _ | exact one_ptr _ _ | exact one_slice _ _ _ _ _ | exact one_nilSlice | exact isSl_slice _ _ _ _ _ | exact isSl_nil | exact one_fn _ _ _ | exact one_map _ | ((repeat (first | rw [St.next_push] | rw [St.next_set])); done) | decide +kernel) only [go_sem, ↓run_draw0, h3, ↓reduceIte, Nat.reduceLT, Nat.reduceEqDiff, Nat.reduceAdd, Nat.reduceLeDiff, Nat.reduceMul, Nat.reduceSub, Int.cast_ofNat_Int, Int.reduceEq, Int.reduceLT, Int.reduceLE]
  refine run_loop_inv cfg (Q := fun (r : ResF) => ∃ σ', r = some (.int .i64 (idx p l), σ') ∧ Ext [] [] σ σ') (I := fun n a σ1 => ∃ (η : Env) (i : Nat), a = ⟨mat 19 η, [], false⟩ ∧ i + n = l.length ∧ lk η 8 = .int .i64 (i : Nat) ∧ lk η 7 = .int .i64 l.length ∧ lk η 0 = v ∧ lk η 1 = f ∧ (∀ j y, j < i → l[j]? = some y → p y = false) ∧ Ext [] [] σ σ1)
    l.length ⟨_, 0, rfl, by omega, rfl, rfl, rfl, rfl, by omega, .refl _ _ _⟩ ?_
  rintro n a σ1 ⟨η, i, rfl, hi, h8, h7, h0, h1, hno, hx⟩ ih
  simp (disch := first | omega | assumption | ((simp only [St.next_push, St.next_set]); omega) | exact one_int _ _ | exact one_bool _ | exact one_str _ | exact one_ptr _ _ | exact one_slice _ _ _ _ _ | exact one_nilSlice | exact isSl_slice _ _ _ _ _ | exact isSl_nil | exact one_fn _ _ _ | exact one_map _ | ((repeat (first | rw [St.next_push] | rw [St.next_set])); done) | decide +kernel) only [go_sem, ↓run_draw0, h8, h7, ↓reduceIte, Nat.reduceLT, Nat.reduceEqDiff, Nat.reduceAdd, Nat.reduceLeDiff, Nat.reduceMul, Nat.reduceSub, Int.cast_ofNat_Int, Int.reduceEq, Int.reduceLT, Int.reduceLE]
  by_cases hlt : i < l.length
  · obtain ⟨id, off, cap, rfl, hid, _, hld, _, _⟩ := h.atM (List.getElem?_eq_getElem hlt)
    have hnx := hx.next
    simp (disch := first | omega | assumption | ((simp only [St.next_push, St.next_set]); omega) | exact one_int _ _ | exact one_bool _ | exact one_str _ | exact one_ptr _ _ | exact one_slice _ _ _ _ _ | exact one_nilSlice | exact isSl_slice _ _ _ _ _ | exact isSl_nil | exact one_fn _ _ _ | exact one_map _ | ((repeat (first | rw [St.next_push] | rw [St.next_set])); done) | decide +kernel) only [go_sem, ↓run_draw0, h8, h7, h0, h1, hlt, hx.cells0, hld, Int.ofNat_lt, ↓reduceIte, Nat.reduceLT, Nat.reduceEqDiff, Nat.reduceAdd, Nat.reduceLeDiff, Nat.reduceMul, Nat.reduceSub, Int.cast_ofNat_Int, Int.reduceEq, Int.reduceLT, Int.reduceLE]
    obtain ⟨σ2, hc, hx2⟩ := hf _ (List.getElem_mem hlt) σ1 hx
    simp (disch := first | omega | assumption | ((simp only [St.next_push, St.next_set]); omega) | exact one_int _ _ | exact one_bool _ | exact one_str _ | exact one_ptr _ _ | exact one_slice _ _ _ _ _ | exact one_nilSlice | exact isSl_slice _ _ _ _ _ | exact isSl_nil | exact one_fn _ _ _ | exact one_map _ | ((repeat (first | rw [St.next_push] | rw [St.next_set])); done) | decide +kernel) only [go_sem, ↓run_draw0, hc, ↓reduceIte, Nat.reduceLT, Nat.reduceEqDiff, Nat.reduceAdd, Nat.reduceLeDiff, Nat.reduceMul, Nat.reduceSub, Int.cast_ofNat_Int, Int.reduceEq, Int.reduceLT, Int.reduceLE]
    cases hp : p l[i]
    · have hw : wrapA .i64 ((i : Int) + 1) = ((i + 1 : Nat) : Int) := by rw [wrap64] <;> omega
      simp (disch := first | omega | assumption | ((simp only [St.next_push, St.next_set]); omega) | exact one_int _ _ | exact one_bool _ | exact one_str _ | exact one_ptr _ _ | exact one_slice _ _ _ _ _ | exact one_nilSlice | exact isSl_slice _ _ _ _ _ | exact isSl_nil | exact one_fn _ _ _ | exact one_map _ | ((repeat (first | rw [St.next_push] | rw [St.next_set])); done) | decide +kernel) only [go_sem, ↓run_draw0, h8, hw, ↓reduceIte, Nat.reduceLT, Nat.reduceEqDiff, Nat.reduceAdd, Nat.reduceLeDiff, Nat.reduceMul, Nat.reduceSub, Int.cast_ofNat_Int, Int.reduceEq, Int.reduceLT, Int.reduceLE]
      exact ih (n - 1) _ _ (by omega) ⟨_, i + 1, rfl, by omega, rfl, h7, h0, h1, fun j y hj hy => by
        rcases Nat.lt_or_eq_of_le (Nat.le_of_lt_succ hj) with h | h
        · exact hno j y h hy
        · subst h; rw [List.getElem?_eq_getElem hlt] at hy; cases hy; exact hp, hx.trans hx2⟩
    · simp (disch := first | omega | assumption | ((simp only [St.next_push, St.next_set]); omega) | exact one_int _ _ | exact one_bool _ | exact one_str _ | exact one_ptr _ _ | exact one_slice _ _ _ _ _ | exact one_nilSlice | exact isSl_slice _ _ _ _ _ | exact isSl_nil | exact one_fn _ _ _ | exact one_map _ | ((repeat (first | rw [St.next_push] | rw [St.next_set])); done) | decide +kernel) only [go_sem, ↓run_draw0, ↓reduceIte, Nat.reduceLT, Nat.reduceEqDiff, Nat.reduceAdd, Nat.reduceLeDiff, Nat.reduceMul, Nat.reduceSub, Int.cast_ofNat_Int, Int.reduceEq, Int.reduceLT, Int.reduceLE]
      exact ⟨σ2, by rw [idx_hit (List.getElem?_eq_getElem hlt) hp hno], hx.trans hx2⟩
  · simp (disch := first | omega | assumption | ((simp only [St.next_push, St.next_set]); omega) | exact one_int _ _ | exact one_bool _ | exact one_str _ | exact one_ptr _ _ | exact one_slice _ _ _ _ _ | exact one_nilSlice | exact isSl_slice _ _ _ _ _ | exact isSl_nil | exact one_fn _ _ _ | exact one_map _ | ((repeat (first | rw [St.next_push] | rw [St.next_set])); done) | decide +kernel) only [go_sem, ↓run_draw0, hlt, Int.ofNat_lt, ↓reduceIte, Nat.reduceLT, Nat.reduceEqDiff, Nat.reduceAdd, Nat.reduceLeDiff, Nat.reduceMul, Nat.reduceSub, Int.cast_ofNat_Int, Int.reduceEq, Int.reduceLT, Int.reduceLE]
    exact ⟨σ1, by rw [idx_none fun j y hy => hno j y (by have := (List.getElem?_eq_some_iff.1 hy).1; omega) hy], hx⟩
def fits (may : List UInt8) (l : List Fld) : Bool := !(l.any (Fld.bad may))
theorem s_fits {σ : St} {v : AV} {l : List Fld} (may : List UInt8) (h : SlR σ v 3 (l.map Fld.cells)) (hn : l.length < 4294967296) :
    ∃ σ', (W cfg).f 35 [.str may, v] σ = some (.bool (fits may l), σ') ∧ Ext [] [] σ σ' := by
  have hx : Ext [] [] σ (σ.push (.cells [.str may] 0 false)) := .push _ _ _ _
  obtain ⟨σ', hc, hx2⟩ := s_IndexFuncF (f := .fn 53 [] [.ptr σ.next 0]) (p := Fld.bad may) (h.ext hx) hn (fun e he σ1 h1 => by
    rw [callV_fn]
    exact s_fit1 e (by rw [h1.cells0 (by simp)]; exact cellsOf_push_eq _ _ _ _ rfl))
  have h93 : (W cfg).f 52 [v, .fn 53 [] [.ptr σ.next 0]] (σ.push (.cells [.str may] 0 false)) = some (.bool (l.any (Fld.bad may)), σ') := by
    rw [E_52]; simp only [bodyOf, Tryd.f52]
    simp (disch := first | omega | assumption | ((simp only [St.next_push, St.next_set]); omega) | exact one_int _ _ | exact one_bool _ | exact one_str _ | exact one_ptr _ _ | exact one_slice _ _ _ _ _ | exact one_nilSlice | exact isSl_slice _ _ _ _ _ | exact isSl_nil | exact one_fn _ _ _ | exact one_map _ | ((repeat (first | rw [St.next_push] | rw [St.next_set])); done) | decide +kernel) only [go_sem, ↓run_draw0, hc, idx_any, ↓reduceIte, Nat.reduceLT, Nat.reduceEqDiff, Nat.reduceAdd, Nat.reduceLeDiff, Nat.reduceMul, Nat.reduceSub, Int.cast_ofNat_Int, Int.reduceEq, Int.reduceLT, Int.reduceLE]
  rw [E_35]; simp only [bodyOf, Tryd.f35]
  simp (disch := first | omega | assumption | ((simp only [St.next_push, St.next_set]); omega) | exact one_int _ _ | exact one_bool _ | exact one_str _ | exact one_ptr _ _ | exact one_slice _ _ _ _ _ | exact one_nilSlice | exact isSl_slice _ _ _ _ _ | exact isSl_nil | exact one_fn _ _ _ | exact one_map _ | ((repeat (first | rw [St.next_push] | rw [St.next_set])); done) | decide +kernel) only [go_sem, ↓run_draw0, h93, ↓reduceIte, Nat.reduceLT, Nat.reduceEqDiff, Nat.reduceAdd, Nat.reduceLeDiff, Nat.reduceMul, Nat.reduceSub, Int.cast_ofNat_Int, Int.reduceEq, Int.reduceLT, Int.reduceLE]
  exact ⟨_, rfl, hx.trans hx2⟩
theorem s_small (n : Int) (σ : St) : (W cfg).f 36 [.int .u64 n] σ = some (.bool (decide (n / 4294967296 = 0)), σ) := by
  have h := aBin_shrI cfg.T cfg.E 29 .u64 .u64 n 32
  have h : aBin cfg.T cfg.E .shr 29 (.int .u64 n) (.int .u64 32) = some (.int .u64 (n / 4294967296)) := h
  rw [E_36]; simp only [bodyOf, Tryd.f36]
  simp (disch := first | omega | assumption | ((simp only [St.next_push, St.next_set]); omega) | exact one_int _ _ | exact one_bool _ | exact one_str _ | exact one_ptr _ _ | exact one_slice _ _ _ _ _ | exact one_nilSlice | exact isSl_slice _ _ _ _ _ | exact isSl_nil | exact one_fn _ _ _ | exact one_map _ | ((repeat (first | rw [St.next_push] | rw [St.next_set])); done) | decide +kernel) only [go_sem, ↓run_draw0, h, ↓reduceIte, Nat.reduceLT, Nat.reduceEqDiff, Nat.reduceAdd, Nat.reduceLeDiff, Nat.reduceMul, Nat.reduceSub, Int.cast_ofNat_Int, Int.reduceEq, Int.reduceLT, Int.reduceLE]
theorem s_node (n : Int) (σ : St) : (W cfg).f 37 [.int .i64 n] σ = some (.bool (decide (1 ≤ n) && decide (n ≤ 7)), σ) := by
  rw [E_37]; simp only [bodyOf, Tryd.f37]
  simp (disch := first | omega | assumption | ((simp only [St.next_push, St.next_set]); omega) | exact one_int _ _ | exact one_bool _ | exact one_str _ | exact one_ptr _ _ | exact one_slice _ _ _ _ _ | exact one_nilSlice | exact isSl_slice _ _ _ _ _ | exact isSl_nil | exact one_fn _ _ _ | exact one_map _ | ((repeat (first | rw [St.next_push] | rw [St.next_set])); done) | decide +kernel) only [go_sem, ↓run_draw0, ↓reduceIte, Nat.reduceLT, Nat.reduceEqDiff, Nat.reduceAdd, Nat.reduceLeDiff, Nat.reduceMul, Nat.reduceSub, Int.cast_ofNat_Int, Int.reduceEq, Int.reduceLT, Int.reduceLE]
  cases h : decide (1 ≤ n)
  · simp (disch := first | omega | assumption | ((simp only [St.next_push, St.next_set]); omega) | exact one_int _ _ | exact one_bool _ | exact one_str _ | exact one_ptr _ _ | exact one_slice _ _ _ _ _ | exact one_nilSlice | exact isSl_slice _ _ _ _ _ | exact isSl_nil | exact one_fn _ _ _ | exact one_map _ | ((repeat (first | rw [St.next_push] | rw [St.next_set])); done) | decide +kernel) only [go_sem, ↓run_draw0, h, Bool.false_and, ↓reduceIte, Nat.reduceLT, Nat.reduceEqDiff, Nat.reduceAdd, Nat.reduceLeDiff, Nat.reduceMul, Nat.reduceSub, Int.cast_ofNat_Int, Int.reduceEq, Int.reduceLT, Int.reduceLE]
  · simp (disch := first | omega | assumption | ((simp only [St.next_push, St.next_set]); omega) | exact one_int _ _ | exact one_bool _ | exact one_str _ | exact one_ptr _ _ | exact one_slice _ _ _ _ _ | exact one_nilSlice | exact isSl_slice _ _ _ _ _ | exact isSl_nil | exact one_fn _ _ _ | exact one_map _ | ((repeat (first | rw [St.next_push] | rw [St.next_set])); done) | decide +kernel) only [go_sem, ↓run_draw0, h, ↓reduceIte, Nat.reduceLT, Nat.reduceEqDiff, Nat.reduceAdd, Nat.reduceLeDiff, Nat.reduceMul, Nat.reduceSub, Int.cast_ofNat_Int, Int.reduceEq, Int.reduceLT, Int.reduceLE]
def entFlds (e : Ent) : List Fld := [⟨99, decide (0 < e.client) || decide (0 < e.seq), decide (0 < e.client)⟩, ⟨98, decide (0 < e.block), decide (e.block / 4294967296 = 0)⟩, ⟨109, decide (0 < e.many), decide (e.many / 4294967296 = 0)⟩,
  ⟨110, !decide (e.node = 0), decide (1 ≤ e.node) && decide (e.node ≤ 7)⟩, ⟨108, !decide (e.level = 0), decide (e.level = 1) || decide (e.level = 2)⟩, ⟨100, !decide (e.data = []), decide ((e.data.length : Int) ≤ 64)⟩, ⟨111, !decide (e.old = []), decide ((e.old.length : Int) ≤ 64)⟩]
/-- may an entry be -/
def entRight (e : Ent) : Bool := match kindFields e.kind with
  | none => false
  | some may => decide (0 < e.term) && decide (0 < e.index) && fits may (entFlds e)
set_option maxHeartbeats 4000000 in
theorem s_EntRight (e : Ent) (σ : St) : ∃ σ', (W cfg).f 18 [.agg e.cells] σ = some (.bool (entRight e), σ') ∧ Ext [] [] σ σ' := by
  obtain ⟨σ1, h1, x1⟩ := s_Fields (σ.push (.cells e.cells 0 false)) e.kind
  have x2 : Ext [] [] σ σ1 := (Ext.push _ _ _ _).trans x1
  have hn := x1.next
  simp only [St.next_push] at hn
  rw [E_18]; simp only [bodyOf, Tryd.f18]
  simp (disch := first | omega | assumption | ((simp only [St.next_push, St.next_set]); omega) | exact one_int _ _ | exact one_bool _ | exact one_str _ | exact one_ptr _ _ | exact one_slice _ _ _ _ _ | exact one_nilSlice | exact isSl_slice _ _ _ _ _ | exact isSl_nil | exact one_fn _ _ _ | exact one_map _ | ((repeat (first | rw [St.next_push] | rw [St.next_set])); done) | decide +kernel) only [go_sem, h1, ↓reduceIte, Nat.reduceLT, Nat.reduceEqDiff, Nat.reduceAdd, Nat.reduceLeDiff, Nat.reduceMul, Nat.reduceSub, Int.cast_ofNat_Int, Int.reduceEq, Int.reduceLT, Int.reduceLE]
  rw [run_draw0, masks_lit [0, 1, 3, 7, 15, 31, 63, 127, 255, 511, 1023, 2047, 4095, 4095, 12287, 28671, 61439, 126975, 258047, 520191, 1044479, 4095, 2101247, 6295551, 16773119, 4095, 33558527, 100667391, 4095, 268439551, 805433343, 2114056191, 4095, 4294971391, 12884905983, 4095, 34359742463, 104958390271, 272462114815, 4095, 549755817983, 1649267445759, 4095, 4398046515199, 13436536877055, 34877013618687, 4095, 70368744181759, 211106232537087, 4095, 562949953425407, 1688849860268031, 3971678396870655, 8475278024241151, 17482477278982143, 35496875788464127, 71525672807428095, 144075848054599679, 4095, 288230376151715839, 864691128455139327, 4095, 2305843009213698047, 6917529027641085951, 16140901064495861759, 36605257771267395583, 4095, 73786976294838210559, 221360928884514623487, 4095, 590295810358705655807, 1770887431076116959231, 4132070672510939566079, 9370945989444452225023, 18889465931478580850687, 37778931862957161709567, 75557863725914323419135, 151115727451828646838271]]; all_goals try decide +kernel
  unfold entRight
  cases hk : kindFields e.kind with
  | none =>
    simp (disch := first | omega | assumption | ((simp only [St.next_push, St.next_set]); omega) | exact one_int _ _ | exact one_bool _ | exact one_str _ | exact one_ptr _ _ | exact one_slice _ _ _ _ _ | exact one_nilSlice | exact isSl_slice _ _ _ _ _ | exact isSl_nil | exact one_fn _ _ _ | exact one_map _ | ((repeat (first | rw [St.next_push] | rw [St.next_set])); done) | decide +kernel) only [go_sem, hk, Option.isSome_none, ↓reduceIte, Nat.reduceLT, Nat.reduceEqDiff, Nat.reduceAdd, Nat.reduceLeDiff, Nat.reduceMul, Nat.reduceSub, Int.cast_ofNat_Int, Int.reduceEq, Int.reduceLT, Int.reduceLE]
    exact ⟨_, rfl, x2⟩
  | some may =>
    have hs : SlR (σ1.push (.cells ((entFlds e).map Fld.cells).flatten 0 false)) (.slice σ1.next 0 7 7 3) 3 ((entFlds e).map Fld.cells) := SlR.new σ1 3 _ 0 false (by simp [entFlds, Fld.cells]) rfl rfl
    obtain ⟨σ2, h2, x3⟩ := s_fits may hs (by simp [entFlds])
    simp only [entFlds, List.map_cons, List.map_nil, Fld.cells, List.flatten_cons, List.flatten_nil, List.cons_append, List.nil_append] at h2
    have x4 : Ext [] [] σ σ2 := x2.trans ((Ext.push _ _ _ _).trans x3)
    cases ht : decide (0 < e.term)
    · simp (disch := first | omega | assumption | ((simp only [St.next_push, St.next_set]); omega) | exact one_int _ _ | exact one_bool _ | exact one_str _ | exact one_ptr _ _ | exact one_slice _ _ _ _ _ | exact one_nilSlice | exact isSl_slice _ _ _ _ _ | exact isSl_nil | exact one_fn _ _ _ | exact one_map _ | ((repeat (first | rw [St.next_push] | rw [St.next_set])); done) | decide +kernel) only [go_sem, hk, Option.isSome_some, x1.cells0, ht, Bool.false_and, ↓reduceIte, Nat.reduceLT, Nat.reduceEqDiff, Nat.reduceAdd, Nat.reduceLeDiff, Nat.reduceMul, Nat.reduceSub, Int.cast_ofNat_Int, Int.reduceEq, Int.reduceLT, Int.reduceLE]
      exact ⟨_, rfl, x2⟩
    cases hi : decide (0 < e.index)
    · simp (disch := first | omega | assumption | ((simp only [St.next_push, St.next_set]); omega) | exact one_int _ _ | exact one_bool _ | exact one_str _ | exact one_ptr _ _ | exact one_slice _ _ _ _ _ | exact one_nilSlice | exact isSl_slice _ _ _ _ _ | exact isSl_nil | exact one_fn _ _ _ | exact one_map _ | ((repeat (first | rw [St.next_push] | rw [St.next_set])); done) | decide +kernel) only [go_sem, hk, Option.isSome_some, x1.cells0, ht, hi, Bool.false_and, Bool.and_false, ↓reduceIte, Nat.reduceLT, Nat.reduceEqDiff, Nat.reduceAdd, Nat.reduceLeDiff, Nat.reduceMul, Nat.reduceSub, Int.cast_ofNat_Int, Int.reduceEq, Int.reduceLT, Int.reduceLE]
      exact ⟨_, rfl, x2⟩
    cases hc : decide (0 < e.client) <;> cases hl : decide (e.level = 1)
    all_goals
      simp only [hc, hl, Bool.true_or, Bool.false_or] at h2
      simp (disch := first | omega | assumption | ((simp only [St.next_push, St.next_set]); omega) | exact one_int _ _ | exact one_bool _ | exact one_str _ | exact one_ptr _ _ | exact one_slice _ _ _ _ _ | exact one_nilSlice | exact isSl_slice _ _ _ _ _ | exact isSl_nil | exact one_fn _ _ _ | exact one_map _ | ((repeat (first | rw [St.next_push] | rw [St.next_set])); done) | decide +kernel) only [go_sem, hk, Option.isSome_some, x1.cells0, ht, hi, hc, hl, s_small, s_node, Bool.true_or, Bool.false_or, h2, Option.getD_some, ↓reduceIte, Nat.reduceLT, Nat.reduceEqDiff, Nat.reduceAdd, Nat.reduceLeDiff, Nat.reduceMul, Nat.reduceSub, Int.cast_ofNat_Int, Int.reduceEq, Int.reduceLT, Int.reduceLE]
      exact ⟨σ2, by simp only [entFlds, hc, hl, Bool.true_or, Bool.false_or], x4⟩
end R14
