/-
  Part of a proof: see the last text of this claim.
-/
import Derived.Test.YthpaljelbkclbaaDoorL2
import Derived.Test.YthpaljelbkclbaaDoorAbsOwn
open Go Go.Abs Go.Proofs
set_option linter.unusedSimpArgs false
set_option linter.unusedVariables false
set_option maxRecDepth 100000
namespace R14
theorem oap_23 {σ : St} {s x : AV} {l r : List Int} (hs : OwnI σ s l) (hx : Ints σ x r) (hb : l.length + r.length ≤ 17179869184) :
    ∃ v σ', aBuiltin cfg.T σ .append #[23, 23] [s, x] = some (v, σ') ∧ OwnI σ' v (l ++ r) ∧ Ext (sid s) [] σ σ' ∧ ((v = s ∧ σ' = σ) ∨ v = .slice σ.next 0 (l ++ r).length (l ++ r).length 1) :=
  ownI_append (T := cfg.T) (bytes := 8) (e := 3) (i := tyOf cfg.T 23) (j := tyOf cfg.T 3) (i' := tyOf cfg.T 23) (z := zrOf cfg.T 3) (by kernel_rfl) (by kernel_rfl) (by kernel_rfl) (by kernel_rfl) (by kernel_rfl) (by kernel_rfl) (by kernel_rfl) (by kernel_rfl) (by kernel_rfl) (by kernel_rfl) hs hx (by omega) (by omega)
theorem s_isNaN74 (x : Int) (σ : St) : (W cfg).f 74 [.int .i64 x] σ = some (.bool false, σ) := by
  rw [E_74]; simp only [bodyOf, Tryd.f74]
  simp (disch := first | omega | assumption | ((simp only [St.next_push, St.next_set]); omega) | exact one_int _ _ | exact one_bool _ | exact one_str _ | exact one_ptr _ _ | exact one_slice _ _ _ _ _ | exact one_nilSlice | exact isSl_slice _ _ _ _ _ | exact isSl_nil | exact one_fn _ _ _ | exact one_map _ | ((repeat (first | rw [St.next_push] | rw [St.next_set])); done) | decide +kernel) only [go_sem, ↓run_draw0, ↓reduceIte, Nat.reduceLT, Nat.reduceEqDiff, Nat.reduceAdd, Nat.reduceLeDiff, Nat.reduceMul, Nat.reduceSub, Int.cast_ofNat_Int, Int.reduceEq, Int.reduceLT, Int.reduceLE]
theorem s_isNaN56 (x : Int) (σ : St) : (W cfg).f 56 [.int .i64 x] σ = some (.bool false, σ) := by
  rw [E_56]; simp only [bodyOf, Tryd.f56]
  simp (disch := first | omega | assumption | ((simp only [St.next_push, St.next_set]); omega) | exact one_int _ _ | exact one_bool _ | exact one_str _ | exact one_ptr _ _ | exact one_slice _ _ _ _ _ | exact one_nilSlice | exact isSl_slice _ _ _ _ _ | exact isSl_nil | exact one_fn _ _ _ | exact one_map _ | ((repeat (first | rw [St.next_push] | rw [St.next_set])); done) | decide +kernel) only [go_sem, ↓run_draw0, ↓reduceIte, Nat.reduceLT, Nat.reduceEqDiff, Nat.reduceAdd, Nat.reduceLeDiff, Nat.reduceMul, Nat.reduceSub, Int.cast_ofNat_Int, Int.reduceEq, Int.reduceLT, Int.reduceLE]
theorem s_less (x y : Int) (σ : St) : (W cfg).f 55 [.int .i64 x, .int .i64 y] σ = some (.bool (decide (x < y)), σ) := by
  rw [E_55]; simp only [bodyOf, Tryd.f55]
  simp (disch := first | omega | assumption | ((simp only [St.next_push, St.next_set]); omega) | exact one_int _ _ | exact one_bool _ | exact one_str _ | exact one_ptr _ _ | exact one_slice _ _ _ _ _ | exact one_nilSlice | exact isSl_slice _ _ _ _ _ | exact isSl_nil | exact one_fn _ _ _ | exact one_map _ | ((repeat (first | rw [St.next_push] | rw [St.next_set])); done) | decide +kernel) only [go_sem, ↓run_draw0, s_isNaN74, s_isNaN56, ↓reduceIte, Nat.reduceLT, Nat.reduceEqDiff, Nat.reduceAdd, Nat.reduceLeDiff, Nat.reduceMul, Nat.reduceSub, Int.cast_ofNat_Int, Int.reduceEq, Int.reduceLT, Int.reduceLE]
/-- what a range over a slice's values brings about -/
theorem s_Values1 {σ : St} {L r : Nat} {v : AV} {l : List Int} (J : Nat → St → Prop) (hv : cellsOf σ r = some [v]) (h : Ints σ v l) (hn : l.length < 4294967296) (h0 : J 0 σ)
    (hJ : ∀ i σ', J i σ' → Ints σ' v l) (hs : ∀ (i : Nat) (x : Int) σ', l[i]? = some x → J i σ' → ∃ σ'', (W cfg).r L [.int .i64 x] σ' = some (.bool true, σ'') ∧ J (i + 1) σ'') :
    ∃ σ' v', (W cfg).f 32 [.yield L, .ptr r 0] σ = some (v', σ') ∧ J l.length σ' := by
  have g1 := h.one
  have g2 := h.isSl
  have g3 := h.slenM
  have hl := cellsOf_lt hv
  rw [E_32]; simp only [bodyOf, Tryd.f32]
  simp (disch := first | omega | assumption | ((simp only [St.next_push, St.next_set]); omega) | exact one_int _ _ | exact one_bool _ | exact one_str _ | exact one_ptr _ _ | exact one_slice _ _ _ _ _ | exact one_nilSlice | exact isSl_slice _ _ _ _ _ | exact isSl_nil | exact one_fn _ _ _ | exact one_map _ | ((repeat (first | rw [St.next_push] | rw [St.next_set])); done) | decide +kernel) only [go_sem, ↓run_draw0, hv, g3, ↓reduceIte, Nat.reduceLT, Nat.reduceEqDiff, Nat.reduceAdd, Nat.reduceLeDiff, Nat.reduceMul, Nat.reduceSub, Int.cast_ofNat_Int, Int.reduceEq, Int.reduceLT, Int.reduceLE]
  refine run_loop_inv cfg (Q := fun (r : ResF) => ∃ σ' v', r = some (v', σ') ∧ J l.length σ') (I := fun n a σ1 => ∃ (η : Env) (i : Nat), a = ⟨mat 16 η, [], false⟩ ∧ i + n = l.length ∧ lk η 7 = .int .i64 (i : Nat) ∧ lk η 6 = .int .i64 l.length ∧ lk η 5 = v ∧ lk η 0 = .yield L ∧ J i σ1)
    l.length ⟨_, 0, rfl, by omega, rfl, rfl, rfl, rfl, h0⟩ ?_
  rintro n a σ1 ⟨η, i, rfl, hi, h7, h6, h5, hy, hx⟩ ih
  simp (disch := first | omega | assumption | ((simp only [St.next_push, St.next_set]); omega) | exact one_int _ _ | exact one_bool _ | exact one_str _ | exact one_ptr _ _ | exact one_slice _ _ _ _ _ | exact one_nilSlice | exact isSl_slice _ _ _ _ _ | exact isSl_nil | exact one_fn _ _ _ | exact one_map _ | ((repeat (first | rw [St.next_push] | rw [St.next_set])); done) | decide +kernel) only [go_sem, ↓run_draw0, h7, h6, ↓reduceIte, Nat.reduceLT, Nat.reduceEqDiff, Nat.reduceAdd, Nat.reduceLeDiff, Nat.reduceMul, Nat.reduceSub, Int.cast_ofNat_Int, Int.reduceEq, Int.reduceLT, Int.reduceLE]
  by_cases hlt : i < l.length
  · obtain ⟨id, off, cap, rfl, hid, _, _, hl0, _⟩ := (hJ _ _ hx).atM (List.getElem?_eq_getElem hlt)
    have hl1 := hl0 (by omega)
    obtain ⟨σ2, hc, hx2⟩ := hs i _ σ1 (List.getElem?_eq_getElem hlt) hx
    have hw : wrapA .i64 ((i : Int) + 1) = ((i + 1 : Nat) : Int) := by rw [wrap64] <;> omega
    simp (disch := first | omega | assumption | ((simp only [St.next_push, St.next_set]); omega) | exact one_int _ _ | exact one_bool _ | exact one_str _ | exact one_ptr _ _ | exact one_slice _ _ _ _ _ | exact one_nilSlice | exact isSl_slice _ _ _ _ _ | exact isSl_nil | exact one_fn _ _ _ | exact one_map _ | ((repeat (first | rw [St.next_push] | rw [St.next_set])); done) | decide +kernel) only [go_sem, ↓run_draw0, h7, h6, h5, hy, hlt, hl1, Int.ofNat_lt, callV_yield, hc, hw, ↓reduceIte, Nat.reduceLT, Nat.reduceEqDiff, Nat.reduceAdd, Nat.reduceLeDiff, Nat.reduceMul, Nat.reduceSub, Int.cast_ofNat_Int, Int.reduceEq, Int.reduceLT, Int.reduceLE]
    exact ih (n - 1) _ _ (by omega) ⟨_, i + 1, rfl, by omega, rfl, h6, h5, hy, hx2⟩
  · simp (disch := first | omega | assumption | ((simp only [St.next_push, St.next_set]); omega) | exact one_int _ _ | exact one_bool _ | exact one_str _ | exact one_ptr _ _ | exact one_slice _ _ _ _ _ | exact one_nilSlice | exact isSl_slice _ _ _ _ _ | exact isSl_nil | exact one_fn _ _ _ | exact one_map _ | ((repeat (first | rw [St.next_push] | rw [St.next_set])); done) | decide +kernel) only [go_sem, ↓run_draw0, hlt, Int.ofNat_lt, ↓reduceIte, Nat.reduceLT, Nat.reduceEqDiff, Nat.reduceAdd, Nat.reduceLeDiff, Nat.reduceMul, Nat.reduceSub, Int.cast_ofNat_Int, Int.reduceEq, Int.reduceLT, Int.reduceLE]
    have : i = l.length := by omega
    subst this
    exact ⟨σ1, _, rfl, hx⟩
/-- the values of a slice, in a new one -/
theorem s_AppendSeq {σ : St} {r : Nat} {v : AV} {l : List Int} (hv : cellsOf σ r = some [v]) (h : Ints σ v l) (hn : l.length < 4294967296) :
    ∃ σ' v', (W cfg).f 47 [.nilSlice, .fn 32 [] [.ptr r 0]] σ = some (v', σ') ∧ OwnI σ' v' l ∧ Ext [] [] σ σ' ∧ (∀ i ∈ sid v', σ.next ≤ i) := by
  have hl := cellsOf_lt hv
  rw [E_47]; simp only [bodyOf, Tryd.f47]
  simp (disch := first | omega | assumption | ((simp only [St.next_push, St.next_set]); omega) | exact one_int _ _ | exact one_bool _ | exact one_str _ | exact one_ptr _ _ | exact one_slice _ _ _ _ _ | exact one_nilSlice | exact isSl_slice _ _ _ _ _ | exact isSl_nil | exact one_fn _ _ _ | exact one_map _ | ((repeat (first | rw [St.next_push] | rw [St.next_set])); done) | decide +kernel) only [go_sem, ↓run_draw0, ↓reduceIte, Nat.reduceLT, Nat.reduceEqDiff, Nat.reduceAdd, Nat.reduceLeDiff, Nat.reduceMul, Nat.reduceSub, Int.cast_ofNat_Int, Int.reduceEq, Int.reduceLT, Int.reduceLE]
  refine run_range_ex cfg (Q := fun (r : ResF) => ∃ σ' v', r = some (v', σ') ∧ OwnI σ' v' l ∧ Ext [] [] σ σ' ∧ (∀ i ∈ sid v', σ.next ≤ i)) (g := 32) (first := []) (cap := [.ptr r 0]) rfl (by kernel_rfl) fun lp h1 h2 h3 h4 h5 h6 => ?_
  simp only [St.next_push, List.nil_append]
  have x0 : Ext [] [] σ (((σ.push (.cells [.nilSlice] 0 false)).push .deferred).push (.loop lp)) := ((Ext.push _ _ _ _).pushR _).pushR _
  refine (s_Values1 (σ := ((σ.push (.cells [.nilSlice] 0 false)).push .deferred).push (.loop lp)) (L := σ.next + 1 + 1) (r := r) (v := v) (l := l)
    (fun i σ' => ∃ v', σ'.get σ.next = some (.cells [v'] 0 false) ∧ OwnI σ' v' (l.take i) ∧ σ'.get (σ.next + 2) = some (.loop lp) ∧ σ'.get (σ.next + 1) = some .deferred ∧ Ext [] [] σ σ' ∧ (∀ i ∈ sid v', σ.next + 2 < i))
    (by rw [x0.cells0 hl]; exact hv) (h.ext x0) hn ?_ ?_ ?_).elim ?_
  · exact ⟨.nilSlice, by rw [St.get_push_ne _ _ (by simp; omega), St.get_push_ne _ _ (by simp)]; exact St.get_push_eq _ _ rfl, .nil _, St.get_push_eq _ _ (by simp), by rw [St.get_push_ne _ _ (by simp)]; exact St.get_push_eq _ _ (by simp), x0, by simp [sid]⟩
  · rintro i σ' ⟨v', hb, ho, hL, hd, hx, hs⟩
    exact h.ext hx
  · rintro i x σ' hi ⟨v', hb, ho, hL, hd, hx, hs⟩
    have hlt := (List.getElem?_eq_some_iff.1 hi).1
    have lt1 := St.get_lt hL
    have hxs : Ints (((σ'.set (σ.next + 2) (.loop (lp.to .busy none)))).push (.cells [.int .i64 x] 0 false)) (.slice σ'.next 0 1 1 1) [x] := by
      have := (OwnI.new (σ := σ'.set (σ.next + 2) (.loop (lp.to .busy none))) (l := [x]) (n := 1) rfl rfl).ints
      rw [St.next_set] at this
      exact this
    have hb' : cellsOf σ' σ.next = some [v'] := by rw [cellsOf_get, hb]; rfl
    obtain ⟨v2, σ2, ha, ho2, hx2, hv2⟩ := oap_23 (ho.mono (M := [σ.next + 2]) (σ' := (σ'.set (σ.next + 2) (.loop (lp.to .busy none))).push (.cells [.int .i64 x] 0 false)) ((Ext.set _ (.inl (by simp))).pushR _) (fun i hi => by have := hs i hi; simp; omega)) hxs (by simp; omega)
    rw [W_round' cfg hL h5 h6 h4 h3 rfl (setMany_one _ _ _ _)]
    have n2 := hx2.next
    simp only [St.next_push, St.next_set] at n2
    have o2 := ho2.ints.one
    have q1 : σ2.get σ.next = some (.cells [v'] 0 false) := by
      rw [hx2.get _ (by simp; omega) (fun hi => by have := hs _ hi; omega) (by simp), St.get_push_ne _ _ (by simp; omega), St.get_set_ne _ _ (by omega)]; exact hb
    have q2 : σ2.get (σ.next + 2) = some (.loop (lp.to .busy none)) := by
      rw [hx2.get _ (by simp; omega) (fun hi => by have := hs _ hi; omega) (by simp), St.get_push_ne _ _ (by simp; omega)]; exact St.get_set_eq _ _ rfl (by omega)
    have q3 : σ2.get (σ.next + 1) = some .deferred := by
      rw [hx2.get _ (by simp; omega) (fun hi => by have := hs _ hi; omega) (by simp), St.get_push_ne _ _ (by simp; omega), St.get_set_ne _ _ (by omega)]; exact hd
    have q4 : ∀ o, (σ2.set σ.next o).get (σ.next + 2) = some (.loop (lp.to .busy none)) := fun o => by rw [St.get_set_ne _ _ (by omega)]; exact q2
    simp (disch := first | omega | assumption | ((simp only [St.next_push, St.next_set]); omega) | exact one_int _ _ | exact one_bool _ | exact one_str _ | exact one_ptr _ _ | exact one_slice _ _ _ _ _ | exact one_nilSlice | exact isSl_slice _ _ _ _ _ | exact isSl_nil | exact one_fn _ _ _ | exact one_map _ | ((repeat (first | rw [St.next_push] | rw [St.next_set])); done) | decide +kernel) only [go_sem, ↓run_draw0, roundK_normal, h1, h2, hb', ha, q1, endK_normal (q4 _), ↓reduceIte, Nat.reduceLT, Nat.reduceEqDiff, Nat.reduceAdd, Nat.reduceLeDiff, Nat.reduceMul, Nat.reduceSub, Int.cast_ofNat_Int, Int.reduceEq, Int.reduceLT, Int.reduceLE]
    have qs : ∀ i ∈ sid v2, σ.next + 2 < i := by
      rcases hv2 with ⟨rfl, _⟩ | rfl
      · exact hs
      · intro i hi; simp only [sid, List.mem_singleton, St.next_push, St.next_set] at hi; omega
    have qq : (lp.to .busy none).to .ready none = lp := by
      obtain ⟨a, b, c, d, e, f, g⟩ := lp
      simp only at h1 h2
      subst h1 h2
      rfl
    have ht : l.take i ++ [x] = l.take (i + 1) := by
      obtain ⟨_, rfl⟩ := List.getElem?_eq_some_iff.1 hi
      simp
    rw [ht] at ho2
    refine ⟨_, rfl, v2, ?_, ?_, ?_, ?_, ?_, qs⟩
    · rw [St.get_set_ne _ _ (by omega)]; exact St.get_set_eq _ _ rfl (by omega)
    · exact (ho2.mono (M := [σ.next]) (Ext.set _ (.inl (by simp))) (fun i hi => by have := qs i hi; simp; omega)).mono (M := [σ.next + 2]) (Ext.set _ (.inl (by simp))) (fun i hi => by have := qs i hi; simp; omega)
    · rw [qq]; exact St.get_set_eq _ _ rfl (by simp; omega)
    · rw [St.get_set_ne _ _ (by omega), St.get_set_ne _ _ (by omega)]; exact q3
    · exact ((((hx.setR _ (.inr (by omega))).pushR _).new hx2 (fun i hi => .inr (by have := hs i hi; omega)) (by simp)).setR _ (.inr (by omega))).setR _ (.inr (by omega))
  · rintro σ1 ⟨v1, hc, v', hb, ho, hL, hd, hx, hs⟩
    refine ⟨v1, σ1, lp, hc, hL, h1, h2, ?_⟩
    have lt1 := St.get_lt hL
    have hb' : cellsOf σ1 σ.next = some [v'] := by rw [cellsOf_get, hb]; rfl
    have hd2 : ∀ o, (σ1.set (σ.next + 2) o).get (σ.next + 1) = some .deferred := fun o => by rw [St.get_set_ne _ _ (by omega)]; exact hd
    simp (disch := first | omega | assumption | ((simp only [St.next_push, St.next_set]); omega) | exact one_int _ _ | exact one_bool _ | exact one_str _ | exact one_ptr _ _ | exact one_slice _ _ _ _ _ | exact one_nilSlice | exact isSl_slice _ _ _ _ _ | exact isSl_nil | exact one_fn _ _ _ | exact one_map _ | ((repeat (first | rw [St.next_push] | rw [St.next_set])); done) | decide +kernel) only [go_sem, ↓run_draw0, hb', leaveK_ret1 cfg _ _ _ _ _ (hd2 _), hd, ↓reduceIte, Nat.reduceLT, Nat.reduceEqDiff, Nat.reduceAdd, Nat.reduceLeDiff, Nat.reduceMul, Nat.reduceSub, Int.cast_ofNat_Int, Int.reduceEq, Int.reduceLT, Int.reduceLE]
    refine ⟨_, _, rfl, ?_, (hx.setR _ (.inr (by omega))).setR _ (.inr (by omega)), fun i hi => by have := hs i hi; omega⟩
    have ho' : OwnI σ1 v' l := by rw [List.take_length] at ho; exact ho
    exact (ho'.mono (M := [σ.next + 2]) (Ext.set _ (.inl (by simp))) (fun i hi => by have := hs i hi; simp; omega)).mono (M := [σ.next + 1]) (Ext.set _ (.inl (by simp))) (fun i hi => by have := hs i hi; simp; omega)
theorem s_Collect {σ : St} {r : Nat} {v : AV} {l : List Int} (hv : cellsOf σ r = some [v]) (h : Ints σ v l) (hn : l.length < 4294967296) :
    ∃ σ' v', (W cfg).f 30 [.fn 32 [] [.ptr r 0]] σ = some (v', σ') ∧ OwnI σ' v' l ∧ Ext [] [] σ σ' ∧ (∀ i ∈ sid v', σ.next ≤ i) := by
  obtain ⟨σ', v', h1, h2⟩ := s_AppendSeq hv h hn
  rw [E_30]; simp only [bodyOf, Tryd.f30]
  simp (disch := first | omega | assumption | ((simp only [St.next_push, St.next_set]); omega) | exact one_int _ _ | exact one_bool _ | exact one_str _ | exact one_ptr _ _ | exact one_slice _ _ _ _ _ | exact one_nilSlice | exact isSl_slice _ _ _ _ _ | exact isSl_nil | exact one_fn _ _ _ | exact one_map _ | ((repeat (first | rw [St.next_push] | rw [St.next_set])); done) | decide +kernel) only [go_sem, ↓run_draw0, h1, ↓reduceIte, Nat.reduceLT, Nat.reduceEqDiff, Nat.reduceAdd, Nat.reduceLeDiff, Nat.reduceMul, Nat.reduceSub, Int.cast_ofNat_Int, Int.reduceEq, Int.reduceLT, Int.reduceLE]
  exact ⟨_, _, rfl, h2⟩
end R14
