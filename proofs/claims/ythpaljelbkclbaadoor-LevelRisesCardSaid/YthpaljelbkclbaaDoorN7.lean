/-
  Part of a proof: see the last text of this claim.
-/
import Derived.Test.YthpaljelbkclbaaDoorN6
open Go Go.Abs Go.Proofs
set_option linter.unusedSimpArgs false
set_option linter.unusedVariables false
set_option maxRecDepth 100000
namespace R14
def regOf (c : Lc) (node lev : Int) : Lc × Int := bif !bsOk c.mem node then (c, 6) else bif decide (lev < c.lv) then (c, 8) else ({ c with hi := c.hi.set (bsAt c.mem node) lev }, 0)
theorem bsOk_lt {l : List Int} {x : Int} (h : bsOk l x = true) : bsAt l x < l.length := by
  unfold bsOk at h; rw [Bool.and_eq_true] at h; exact of_decide_eq_true h.1
set_option maxHeartbeats 2000000 in
theorem s_register {σ : St} {p : Nat} {mv hv : AV} (c : Lc) (e : Ent) (hc : σ.get p = some (.cells (c.cells mv hv) 0 false)) (hm : Ints σ mv c.mem) (hh : OwnI σ hv c.hi) (n1 : c.mem.length < 4294967296) (n2 : c.hi.length = c.mem.length) (hp : ∀ i ∈ sid hv, i ≠ p) :
    ∃ σ', (W cfg).f 22 [.ptr p 0, .agg e.cells] σ = some (.int .i64 (regOf c e.node e.level).2, σ') ∧ σ'.get p = some (.cells ((regOf c e.node e.level).1.cells mv hv) 0 false) ∧ OwnI σ' hv (regOf c e.node e.level).1.hi ∧ Ext (sid hv) [] σ σ' := by
  have hpl := St.get_lt hc
  have m1 := hm.one
  have m2 := hm.isSl
  have m3 := hm.slenM
  have k1 := hh.ints.one
  have k2 := hh.ints.isSl
  have k3 := hh.ints.slenM
  have x0 : Ext [] [] σ (σ.push (.cells e.cells 0 false)) := .push _ _ _ _
  have hbs := s_BinSearch e.node (hm.ext x0) n1
  unfold Lc.cells at hc
  unfold regOf
  have hcs : cellsOf σ p = some [mv, hv, .int .i64 c.lv, .bool c.fin] := by rw [cellsOf_get, hc]; rfl
  rw [E_22]; simp only [bodyOf, Tryd.f22]
  cases hb : bsOk c.mem e.node
  · rw [hb] at hbs
    simp (disch := first | omega | assumption | ((simp only [St.next_push, St.next_set]); omega) | exact one_int _ _ | exact one_bool _ | exact one_str _ | exact one_ptr _ _ | exact one_slice _ _ _ _ _ | exact one_nilSlice | exact isSl_slice _ _ _ _ _ | exact isSl_nil | exact one_fn _ _ _ | exact one_map _ | ((repeat (first | rw [St.next_push] | rw [St.next_set])); done) | decide +kernel) only [go_sem, ↓run_draw0, hcs, hbs, ↓reduceIte, Nat.reduceLT, Nat.reduceEqDiff, Nat.reduceAdd, Nat.reduceLeDiff, Nat.reduceMul, Nat.reduceSub, Int.cast_ofNat_Int, Int.reduceEq, Int.reduceLT, Int.reduceLE]
    exact ⟨_, rfl, by rw [St.get_push_ne _ _ (by omega), hc]; rfl, hh.mono x0 (by simp), .push _ _ _ _⟩
  · rw [hb] at hbs
    cases hl : decide (e.level < c.lv)
    · have hlt := bsOk_lt hb
      rcases hh with ⟨rfl, hnil⟩ | ⟨id, rfl, hg⟩
      · rw [hnil] at n2; simp at n2; omega
      have hid := St.get_lt hg
      have hne : id ≠ p := hp id (by simp [sid])
      have hlt2 : bsAt c.mem e.node < c.hi.length := by omega
      have hlt3 : bsAt c.mem e.node + 1 ≤ c.hi.length := by omega
      have hid2 : id ≠ σ.next := by omega
      simp (disch := first | omega | assumption | ((simp only [St.next_push, St.next_set]); omega) | exact one_int _ _ | exact one_bool _ | exact one_str _ | exact one_ptr _ _ | exact one_slice _ _ _ _ _ | exact one_nilSlice | exact isSl_slice _ _ _ _ _ | exact isSl_nil | exact one_fn _ _ _ | exact one_map _ | ((repeat (first | rw [St.next_push] | rw [St.next_set])); done) | decide +kernel) only [go_sem, ↓run_draw0, hcs, hbs, hl, hlt2, hlt3, Nat.mul_one, St.get_push_ne _ _ hid2, hg, List.length_map, Nat.zero_le, splice_ii c.hi _ hlt2, ↓reduceIte, Nat.reduceLT, Nat.reduceEqDiff, Nat.reduceAdd, Nat.reduceLeDiff, Nat.reduceMul, Nat.reduceSub, Int.cast_ofNat_Int, Int.reduceEq, Int.reduceLT, Int.reduceLE]
      exact ⟨_, rfl, by rw [St.get_push_ne _ _ (by simp; omega), St.get_set_ne _ _ (by omega), hc]; rfl, .inr ⟨id, by simp, by rw [St.get_push_ne _ _ (by simp; omega)]; exact St.get_set_eq _ _ rfl hid⟩, (Ext.set _ (.inl (by simp [sid]))).pushR _⟩
    · simp (disch := first | omega | assumption | ((simp only [St.next_push, St.next_set]); omega) | exact one_int _ _ | exact one_bool _ | exact one_str _ | exact one_ptr _ _ | exact one_slice _ _ _ _ _ | exact one_nilSlice | exact isSl_slice _ _ _ _ _ | exact isSl_nil | exact one_fn _ _ _ | exact one_map _ | ((repeat (first | rw [St.next_push] | rw [St.next_set])); done) | decide +kernel) only [go_sem, ↓run_draw0, hcs, hbs, hl, ↓reduceIte, Nat.reduceLT, Nat.reduceEqDiff, Nat.reduceAdd, Nat.reduceLeDiff, Nat.reduceMul, Nat.reduceSub, Int.cast_ofNat_Int, Int.reduceEq, Int.reduceLT, Int.reduceLE]
      exact ⟨_, rfl, by rw [St.get_push_ne _ _ (by omega), hc]; rfl, hh.mono x0 (by simp), .push _ _ _ _⟩
/-- what a method of a config does -/
def MethC (f : FuncId) (e : Ent) (g : Lc → Lc × Int) (c : Lc) : Prop := ∀ σ p mv hv, σ.get p = some (.cells (c.cells mv hv) 0 false) → OwnI σ mv c.mem → OwnI σ hv c.hi → (∀ i ∈ sid mv, i ≠ p) → (∀ i ∈ sid hv, i ≠ p) → (∀ i ∈ sid mv, i ∉ sid hv) →
  ∃ σ' mv' hv', (W cfg).f f [.ptr p 0, .agg e.cells] σ = some (.int .i64 (g c).2, σ') ∧ σ'.get p = some (.cells ((g c).1.cells mv' hv') 0 false) ∧ OwnI σ' mv' (g c).1.mem ∧ OwnI σ' hv' (g c).1.hi ∧ Ext (p :: (sid mv ++ sid hv)) [] σ σ'
def methTab : List (Int × AV) := [(5, .fn 20 [] []), (6, .fn 21 [] []), (7, .fn 22 [] []), (8, .fn 23 [] []), (9, .fn 24 [] []), (10, .fn 25 [] [])]
/-- a config, changed by an entry, of which it is known what its kind does -/
def applyOf (g : Option (Lc → Lc × Int)) (c : Lc) (e : Ent) : Lc × Int := bif !lright c || !entRight e then (c, 1) else match g with
  | none => (c, 0)
  | some g => bif decide ((g c).2 = 0) then ((g c).1, 0) else (c, (g c).2)
theorem lright_len {c : Lc} (h : lright c = true) : c.mem.length ≤ 7 ∧ c.hi.length = c.mem.length := by
  unfold lright inB at h
  simp only [Bool.and_eq_true, decide_eq_true_eq] at h
  omega
set_option maxHeartbeats 4000000 in
theorem s_Apply {σ : St} {mv hv : AV} (c : Lc) (e : Ent) (hm : Ints σ mv c.mem) (hh : Ints σ hv c.hi) (n1 : c.mem.length < 4294967296) (n2 : c.hi.length < 4294967296)
    (g : Option (Lc → Lc × Int)) (hg : match g with | none => assoc methTab e.kind = none | some g => ∃ f, assoc methTab e.kind = some (.fn f [] []) ∧ (lright c = true → MethC f e g c)) :
    ∃ mv' hv' σ', (W cfg).f 8 [.agg (c.cells mv hv), .agg e.cells] σ = some (.tuple [.agg ((applyOf g c e).1.cells mv' hv'), .int .i64 (applyOf g c e).2], σ') ∧ OwnI σ' mv' (applyOf g c e).1.mem ∧ OwnI σ' hv' (applyOf g c e).1.hi ∧ Ext [] [] σ σ' := by
  have g1 := hm.one
  have g2 := hm.isSl
  have k1 := hh.one
  have k2 := hh.isSl
  have x0 : Ext [] [] σ (((σ.push (.cells (c.cells mv hv) 0 false)).push (.cells e.cells 0 false)).push (.cells [.nilSlice, .nilSlice, .int .i64 0, .bool false] 0 false)) := ((Ext.push _ _ _ _).pushR _).pushR _
  obtain ⟨σ1, h1, x1⟩ := s_LRight c (hm.ext x0) (hh.ext x0) n1 n2
  have y1 := x0.trans x1
  have p1 := x1.next
  simp only [St.next_push] at p1
  unfold Lc.cells at x0 x1 y1 h1 ⊢
  rw [E_8]; simp only [bodyOf, Tryd.f8]
  -- a clone, of what it was
  have cl : ∀ σk, Ext [] [] σ σk → σ.next + 3 ≤ σk.next → ∃ mv' hv' σ2, (W cfg).f 19 [.agg [mv, hv, .int .i64 c.lv, .bool c.fin]] σk = some (.agg [mv', hv', .int .i64 c.lv, .bool c.fin], σ2) ∧ mv'.one = true ∧ hv'.one = true ∧ Ext [] [] σk σ2 ∧
      ∀ o, OwnI (σ2.set (σ.next + 1 + 1) o) mv' c.mem ∧ OwnI (σ2.set (σ.next + 1 + 1) o) hv' c.hi ∧ Ext [] [] σ (σ2.set (σ.next + 1 + 1) o) := by
    intro σk hx hn
    obtain ⟨mv', hv', σ2, h2, o1, o2, x2, f1, f2, f3⟩ := s_LClone c (hm.ext hx) (hh.ext hx) n1 n2
    refine ⟨mv', hv', σ2, h2, o1.ints.one, o2.ints.one, x2, fun o => ?_⟩
    have y : Ext [σ.next + 1 + 1] [] σ2 (σ2.set (σ.next + 1 + 1) o) := Ext.set _ (.inl (by simp))
    exact ⟨o1.mono y (fun i hi => by have := f1 i hi; simp; omega), o2.mono y (fun i hi => by have := f2 i hi; simp; omega), (hx.trans x2).setR _ (.inr (by omega))⟩
  cases hr : lright c
  · obtain ⟨mv', hv', σ2, h2, q1, q2, x2, hf⟩ := cl σ1 y1 (by omega)
    have p2 := x2.next
    have e1 : applyOf g c e = (c, 1) := by unfold applyOf; rw [hr]; rfl
    rw [e1]
    rw [hr] at h1
    simp (disch := first | omega | assumption | ((simp only [St.next_push, St.next_set]); omega) | exact one_int _ _ | exact one_bool _ | exact one_str _ | exact one_ptr _ _ | exact one_slice _ _ _ _ _ | exact one_nilSlice | exact isSl_slice _ _ _ _ _ | exact isSl_nil | exact one_fn _ _ _ | exact one_map _ | ((repeat (first | rw [St.next_push] | rw [St.next_set])); done) | decide +kernel) only [go_sem, ↓run_draw0, h1, x1.cells0, x1.get0, h2, x2.cells0, x2.get0, ↓reduceIte, Nat.reduceLT, Nat.reduceEqDiff, Nat.reduceAdd, Nat.reduceLeDiff, Nat.reduceMul, Nat.reduceSub, Int.cast_ofNat_Int, Int.reduceEq, Int.reduceLT, Int.reduceLE]
    exact ⟨_, _, _, rfl, hf _⟩
  rw [hr] at h1
  obtain ⟨σ2, h2, x2⟩ := s_EntRight e σ1
  have p2 := x2.next
  have y2 := y1.trans x2
  cases he : entRight e
  · obtain ⟨mv', hv', σ3, h3, q1, q2, x3, hf⟩ := cl σ2 y2 (by omega)
    have p3 := x3.next
    have e1 : applyOf g c e = (c, 1) := by unfold applyOf; rw [hr, he]; rfl
    rw [e1]
    rw [he] at h2
    simp (disch := first | omega | assumption | ((simp only [St.next_push, St.next_set]); omega) | exact one_int _ _ | exact one_bool _ | exact one_str _ | exact one_ptr _ _ | exact one_slice _ _ _ _ _ | exact one_nilSlice | exact isSl_slice _ _ _ _ _ | exact isSl_nil | exact one_fn _ _ _ | exact one_map _ | ((repeat (first | rw [St.next_push] | rw [St.next_set])); done) | decide +kernel) only [go_sem, ↓run_draw0, h1, x1.cells0, x1.get0, h2, x2.cells0, x2.get0, h3, x3.cells0, x3.get0, ↓reduceIte, Nat.reduceLT, Nat.reduceEqDiff, Nat.reduceAdd, Nat.reduceLeDiff, Nat.reduceMul, Nat.reduceSub, Int.cast_ofNat_Int, Int.reduceEq, Int.reduceLT, Int.reduceLE]
    exact ⟨_, _, _, rfl, hf _⟩
  rw [he] at h2
  have y3 : Ext [] [] σ (σ2.push (.map (mkEs .i64 methTab 0) 6)) := y2.pushR _
  have hl := lk_52 (σ := σ2.push (.map (mkEs .i64 methTab 0) 6)) (r := σ2.next) (k := .i64) (St.get_push_eq _ _ rfl) e.kind true
  cases g with
  | none =>
    simp only at hg
    obtain ⟨mv', hv', σ3, h3, q1, q2, x3, hf⟩ := cl _ y3 (by simp; omega)
    have p3 := x3.next
    simp only [St.next_push] at p3
    have e1 : applyOf none c e = (c, 0) := by unfold applyOf; rw [hr, he]; rfl
    rw [e1]
    rw [hg] at hl
    simp only [methTab, mkEs, Nat.reduceAdd] at hl h3 x3
    simp (disch := first | omega | assumption | ((simp only [St.next_push, St.next_set]); omega) | exact one_int _ _ | exact one_bool _ | exact one_str _ | exact one_ptr _ _ | exact one_slice _ _ _ _ _ | exact one_nilSlice | exact isSl_slice _ _ _ _ _ | exact isSl_nil | exact one_fn _ _ _ | exact one_map _ | ((repeat (first | rw [St.next_push] | rw [St.next_set])); done) | decide +kernel) only [go_sem, ↓run_draw0, h1, x1.cells0, x1.get0, h2, x2.cells0, x2.get0, hl, lkM, Option.getD_none, Option.isSome_none, h3, x3.cells0, x3.get0, ↓reduceIte, Nat.reduceLT, Nat.reduceEqDiff, Nat.reduceAdd, Nat.reduceLeDiff, Nat.reduceMul, Nat.reduceSub, Int.cast_ofNat_Int, Int.reduceEq, Int.reduceLT, Int.reduceLE]
    exact ⟨_, _, _, rfl, hf _⟩
  | some g => 
    simp only at hg
    obtain ⟨f, hg, hM⟩ := hg
    rw [hg] at hl
    obtain ⟨mv', hv', σ3, h3, o1, o2, x3, f1, f2, f3⟩ := s_LClone c (hm.ext y3) (hh.ext y3) n1 n2
    have q1 := o1.ints.one
    have q2 := o2.ints.one
    have p3 := x3.next
    simp only [St.next_push] at p3
    unfold Lc.cells at h3
    simp only [methTab, mkEs, Nat.reduceAdd] at hl h3 x3
    simp (disch := first | omega | assumption | ((simp only [St.next_push, St.next_set]); omega) | exact one_int _ _ | exact one_bool _ | exact one_str _ | exact one_ptr _ _ | exact one_slice _ _ _ _ _ | exact one_nilSlice | exact isSl_slice _ _ _ _ _ | exact isSl_nil | exact one_fn _ _ _ | exact one_map _ | ((repeat (first | rw [St.next_push] | rw [St.next_set])); done) | decide +kernel) only [go_sem, ↓run_draw0, h1, x1.cells0, x1.get0, h2, x2.cells0, x2.get0, hl, lkM, Option.getD_some, Option.isSome_some, h3, x3.cells0, x3.get0, callV_fn, ↓reduceIte, Nat.reduceLT, Nat.reduceEqDiff, Nat.reduceAdd, Nat.reduceLeDiff, Nat.reduceMul, Nat.reduceSub, Int.cast_ofNat_Int, Int.reduceEq, Int.reduceLT, Int.reduceLE]
    obtain ⟨σ5, mv2, hv2, h5, c5, o5, o5', x5⟩ := hM hr (σ3.push (.cells [mv', hv', .int .i64 c.lv, .bool c.fin] 0 false)) σ3.next mv' hv' (St.get_push_eq _ _ rfl) (o1.mono (Ext.push [] [] _ _) (by simp)) (o2.mono (Ext.push [] [] _ _) (by simp))
      (fun i hi => by have := o1.lt i hi; omega) (fun i hi => by have := o2.lt i hi; omega) f3
    have p5 := x5.next
    simp only [St.next_push] at p5
    have y4 : Ext [] [] σ (σ3.push (.cells [mv', hv', .int .i64 c.lv, .bool c.fin] 0 false)) := (y3.trans x3).pushR _
    have big : ∀ i ∈ σ3.next :: (sid mv' ++ sid hv'), σ2.next + 1 ≤ i := by
      intro i hi
      simp only [List.mem_cons, List.mem_append] at hi
      rcases hi with rfl | hi | hi
      · omega
      · have := f1 i hi; simpa using this
      · have := f2 i hi; simpa using this
    have y5 : Ext [] [] σ σ5 := y4.new x5 (fun i hi => .inr (by have := big i hi; omega)) (by simp)
    have w0 : ∀ i, i ≤ σ2.next → σ5.get i = σ3.get i := fun i hi => by
      rw [x5.get _ (by simp; omega) (fun h => by have := big i h; omega) (by simp), St.get_push_ne _ _ (by omega)]
    have w1 : ∀ i, i ≤ σ2.next → cellsOf σ5 i = cellsOf σ3 i := fun i hi => by rw [cellsOf_get, cellsOf_get, w0 i hi]
    have w2 := w1 σ.next (by omega)
    have w4 := w0 (σ.next + 1 + 1) (by omega)
    have c5' : cellsOf σ5 σ3.next = some ((g c).1.cells mv2 hv2) := by rw [cellsOf_get, c5]; rfl
    unfold Lc.cells at c5'
    have r1 := o5.ints.one
    have r2 := o5'.ints.one
    cases hz : decide ((g c).2 = 0)
    · obtain ⟨mv3, hv3, σ6, h6, s1, s2, x6, hf⟩ := cl σ5 y5 (by omega)
      have p6 := x6.next
      have e1 : applyOf (some g) c e = (c, (g c).2) := by unfold applyOf; rw [hr, he]; simp only [hz]; rfl
      rw [e1]
      simp (disch := first | omega | assumption | ((simp only [St.next_push, St.next_set]); omega) | exact one_int _ _ | exact one_bool _ | exact one_str _ | exact one_ptr _ _ | exact one_slice _ _ _ _ _ | exact one_nilSlice | exact isSl_slice _ _ _ _ _ | exact isSl_nil | exact one_fn _ _ _ | exact one_map _ | ((repeat (first | rw [St.next_push] | rw [St.next_set])); done) | decide +kernel) only [go_sem, ↓run_draw0, h5, hz, w2, w4, x1.cells0, x1.get0, x2.cells0, x2.get0, x3.cells0, x3.get0, h6, x6.cells0, x6.get0, ↓reduceIte, Nat.reduceLT, Nat.reduceEqDiff, Nat.reduceAdd, Nat.reduceLeDiff, Nat.reduceMul, Nat.reduceSub, Int.cast_ofNat_Int, Int.reduceEq, Int.reduceLT, Int.reduceLE]
      exact ⟨_, _, _, rfl, hf _⟩
    · have e1 : applyOf (some g) c e = ((g c).1, 0) := by unfold applyOf; rw [hr, he]; simp only [hz]; rfl
      rw [e1]
      simp (disch := first | omega | assumption | ((simp only [St.next_push, St.next_set]); omega) | exact one_int _ _ | exact one_bool _ | exact one_str _ | exact one_ptr _ _ | exact one_slice _ _ _ _ _ | exact one_nilSlice | exact isSl_slice _ _ _ _ _ | exact isSl_nil | exact one_fn _ _ _ | exact one_map _ | ((repeat (first | rw [St.next_push] | rw [St.next_set])); done) | decide +kernel) only [go_sem, ↓run_draw0, h5, hz, w2, w4, x1.cells0, x1.get0, x2.cells0, x2.get0, x3.cells0, x3.get0, c5', ↓reduceIte, Nat.reduceLT, Nat.reduceEqDiff, Nat.reduceAdd, Nat.reduceLeDiff, Nat.reduceMul, Nat.reduceSub, Int.cast_ofNat_Int, Int.reduceEq, Int.reduceLT, Int.reduceLE]
      have w5 : σ5.get (σ.next + 1 + 1) = some (.cells [.nilSlice, .nilSlice, .int .i64 0, .bool false] 0 false) := by
        rw [w4, x3.get0 (by simp; omega), St.get_push_ne _ _ (by omega), x2.get0 (by omega), x1.get0 (by simp)]
        exact St.get_push_eq _ _ (by simp)
      have hne : ∀ v l, OwnI σ5 v l → ∀ i ∈ sid v, i ≠ σ.next + 1 + 1 := by
        rintro v l (⟨rfl, _⟩ | ⟨id, rfl, hg⟩) i hi
        · simp [sid] at hi
        · simp only [sid, List.mem_singleton] at hi
          subst hi
          intro hq
          rw [hq, w5] at hg
          cases l with
          | nil => simp at hg
          | cons a l => simp [iv] at hg
      have y : Ext [σ.next + 1 + 1] [] σ5 (σ5.set (σ.next + 1 + 1) (.cells [mv2, hv2, .int .i64 (g c).1.lv, .bool (g c).1.fin] 0 false)) := Ext.set _ (.inl (by simp))
      exact ⟨_, _, _, rfl, o5.mono y (fun i hi => by simpa using hne _ _ o5 i hi), o5'.mono y (fun i hi => by simpa using hne _ _ o5' i hi), y5.setR _ (.inr (by omega))⟩
theorem m_register (c : Lc) (e : Ent) (hr : lright c = true) : MethC 22 e (fun c => regOf c e.node e.level) c := by
  intro σ p mv hv hc o1 o2 h1 h2 h3
  have hl := lright_len hr
  obtain ⟨σ', a, b, d, x⟩ := s_register c e hc o1.ints o2 (by omega) hl.2 h2
  have hm : (regOf c e.node e.level).1.mem = c.mem := by
    unfold regOf; cases bsOk c.mem e.node <;> cases decide (e.level < c.lv) <;> rfl
  refine ⟨σ', mv, hv, a, b, ?_, d, x.weaken (by simp +contextual) (by simp)⟩
  show OwnI σ' mv (regOf c e.node e.level).1.mem
  rw [hm]; exact o1.mono x h3
theorem m_up (c : Lc) (e : Ent) (hr : lright c = true) : MethC 23 e upOf c := by
  intro σ p mv hv hc o1 o2 h1 h2 h3
  have hl := lright_len hr
  obtain ⟨σ', a, b, x⟩ := s_up c e hc o2.ints (by omega)
  have hm : (upOf c).1.mem = c.mem ∧ (upOf c).1.hi = c.hi := by
    unfold upOf; split
    · exact ⟨rfl, rfl⟩
    · cases c.hi.any _ <;> exact ⟨rfl, rfl⟩
  exact ⟨σ', mv, hv, a, b, by rw [hm.1]; exact o1.mono x (fun i hi => by simpa using h1 i hi), by rw [hm.2]; exact o2.mono x (fun i hi => by simpa using h2 i hi), x.weaken (by simp +contextual) (by simp)⟩
theorem m_lower (c : Lc) (e : Ent) : MethC 24 e lowerOf c := by
  intro σ p mv hv hc o1 o2 h1 h2 h3
  obtain ⟨σ', a, b, x⟩ := s_lower c e hc
  have hm : (lowerOf c).1.mem = c.mem ∧ (lowerOf c).1.hi = c.hi := by
    unfold lowerOf; split
    · exact ⟨rfl, rfl⟩
    · cases c.fin <;> exact ⟨rfl, rfl⟩
  exact ⟨σ', mv, hv, a, b, by rw [hm.1]; exact o1.mono x (fun i hi => by simpa using h1 i hi), by rw [hm.2]; exact o2.mono x (fun i hi => by simpa using h2 i hi), x.weaken (by simp +contextual) (by simp)⟩
theorem m_final (c : Lc) (e : Ent) : MethC 25 e finalOf c := by
  intro σ p mv hv hc o1 o2 h1 h2 h3
  obtain ⟨σ', a, b, x⟩ := s_final c e hc
  have hm : (finalOf c).1.mem = c.mem ∧ (finalOf c).1.hi = c.hi := by
    unfold finalOf; split
    · exact ⟨rfl, rfl⟩
    · cases c.fin <;> exact ⟨rfl, rfl⟩
  exact ⟨σ', mv, hv, a, b, by rw [hm.1]; exact o1.mono x (fun i hi => by simpa using h1 i hi), by rw [hm.2]; exact o2.mono x (fun i hi => by simpa using h2 i hi), x.weaken (by simp +contextual) (by simp)⟩
end R14
