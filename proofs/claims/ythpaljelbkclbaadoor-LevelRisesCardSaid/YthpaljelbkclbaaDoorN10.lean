/-
  Part of a proof: see the last text of this claim.
-/
import Derived.Test.YthpaljelbkclbaaDoorN9
import Derived.Test.YthpaljelbkclbaaDoorAbsLaid
open Go Go.Abs Go.Proofs
set_option linter.unusedSimpArgs false
set_option linter.unusedVariables false
set_option maxRecDepth 100000
namespace R14
noncomputable section
def kE (k node lev : Int) : Ent := ⟨1, 1, k, 0, 0, 0, 0, node, lev, [], []⟩
def regM (e : Ent) (c : Lc) : Lc × Int := regOf c e.node e.level
def riseL : Nat → Nat → Lc → Option Lc
  | 0, _, _ => none
  | n + 1, i, c => bif decide (i < c.mem.length) then
      (bif !decide ((applyOf (some upOf) c (kE 8 0 0)).2 = 8) || !decide ((applyOf (some (regM (kE 7 (gi c.mem i) 2))) c (kE 7 (gi c.mem i) 2)).2 = 0) then none
       else riseL n (i + 1) (applyOf (some (regM (kE 7 (gi c.mem i) 2))) c (kE 7 (gi c.mem i) 2)).1)
    else some c
def risesOf (b : Int) (fin : Bool) : Bool := lright (newOf (someN b 7)) && match riseL 9 0 (newOf (someN b 7)) with
  | none => false
  | some c =>
    let r := applyOf (some upOf) c (kE 8 0 0)
    bif fin then
      let d := applyOf (some finalOf) r.1 (kE 10 0 0)
      let l := applyOf (some lowerOf) d.1 (kE 9 0 0)
      decide (d.2 = 0) && (decide (r.2 = 0) && (decide (l.2 = 8) && (decide (l.1.lv = 2) && inB 2 1 l.1.lv)))
    else
      let l := applyOf (some lowerOf) r.1 (kE 9 0 0)
      decide (r.2 = 0) && (decide (l.2 = 0) && (decide (l.1.lv = 1) && !inB 2 1 l.1.lv))
theorem ownI_ne {σ : St} {v x : AV} {l : List Int} {cs : List AV} {id fz : Nat} {ro : Bool} (h : OwnI σ v l) (hg : σ.get id = some (.cells (x :: cs) fz ro)) (hx : ∀ n, x ≠ iv n) : ∀ i ∈ sid v, i ≠ id := by
  rcases h with ⟨rfl, _⟩ | ⟨j, rfl, hj⟩
  · simp [sid]
  · intro i hi hq
    simp only [sid, List.mem_singleton] at hi
    subst hi hq
    rw [hj] at hg
    cases l with
    | nil => simp at hg
    | cons a l => simp at hg; exact hx a hg.1.1.symm
theorem sl_ne {σ : St} {v : AV} {esz : Nat} {xs : List (List AV)} (h : SlR σ v esz xs) : ∀ n, v ≠ iv n := by
  intro n hq
  subst hq
  exact h.2
/-- the kinds' methods -/
theorem ap_reg (node lev : Int) (c : Lc) : ∃ f, assoc methTab (kE 7 node lev).kind = some (.fn f [] []) ∧ (lright c = true → MethC f (kE 7 node lev) (regM (kE 7 node lev)) c) := ⟨22, rfl, fun h => m_register c _ h⟩
theorem ap_up (c : Lc) : ∃ f, assoc methTab (kE 8 0 0).kind = some (.fn f [] []) ∧ (lright c = true → MethC f (kE 8 0 0) upOf c) := ⟨23, rfl, fun h => m_up c _ h⟩
theorem ap_low (c : Lc) : ∃ f, assoc methTab (kE 9 0 0).kind = some (.fn f [] []) ∧ (lright c = true → MethC f (kE 9 0 0) lowerOf c) := ⟨24, rfl, fun _ => m_lower c _⟩
theorem ap_fin (c : Lc) : ∃ f, assoc methTab (kE 10 0 0).kind = some (.fn f [] []) ∧ (lright c = true → MethC f (kE 10 0 0) finalOf c) := ⟨25, rfl, fun _ => m_final c _⟩
def SameLen (g : Lc → Lc × Int) (c : Lc) : Prop := (g c).1.mem.length = c.mem.length ∧ (g c).1.hi.length = c.hi.length
theorem sameLen_reg (e : Ent) (c : Lc) : SameLen (regM e) c := by
  unfold SameLen regM regOf
  cases bsOk c.mem e.node <;> cases decide (e.level < c.lv) <;> simp
theorem sameLen_up (c : Lc) : SameLen upOf c := by
  unfold SameLen upOf; split
  · exact ⟨rfl, rfl⟩
  · cases c.hi.any _ <;> exact ⟨rfl, rfl⟩
theorem sameLen_low (c : Lc) : SameLen lowerOf c := by
  unfold SameLen lowerOf; split
  · exact ⟨rfl, rfl⟩
  · cases c.fin <;> exact ⟨rfl, rfl⟩
theorem sameLen_fin (c : Lc) : SameLen finalOf c := by
  unfold SameLen finalOf; split
  · exact ⟨rfl, rfl⟩
  · cases c.fin <;> exact ⟨rfl, rfl⟩
theorem apply_len {g : Lc → Lc × Int} {c : Lc} (h : SameLen g c) (e : Ent) : (applyOf (some g) c e).1.mem.length = c.mem.length ∧ (applyOf (some g) c e).1.hi.length = c.hi.length := by
  unfold applyOf
  cases !lright c || !entRight e
  · simp only [cond_false]
    cases decide ((g c).2 = 0)
    · exact ⟨rfl, rfl⟩
    · exact h
  · exact ⟨rfl, rfl⟩
/-- a config in an object of its own -/
def At (σ : St) (A : Nat) (c : Lc) : Prop := ∃ mv hv, σ.get A = some (.cells [mv, hv, .int .i64 c.lv, .bool c.fin] 0 false) ∧ Ints σ mv c.mem ∧ Ints σ hv c.hi ∧ (∀ i ∈ sid mv, i ≠ A) ∧ (∀ i ∈ sid hv, i ≠ A) ∧ c.mem.length ≤ 12 ∧ c.hi.length ≤ 12
theorem At.mono {σ σ' : St} {A : Nat} {c : Lc} (h : At σ A c) (hx : Ext [] [] σ σ') : At σ' A c := by
  obtain ⟨mv, hv, hg, hm, hh, f1, f2, l1, l2⟩ := h
  exact ⟨mv, hv, by rw [hx.get0 (St.get_lt hg)]; exact hg, hm.ext hx, hh.ext hx, f1, f2, l1, l2⟩
theorem At.new {σ : St} {mv hv : AV} {c : Lc} (o1 : OwnI σ mv c.mem) (o2 : OwnI σ hv c.hi) (l1 : c.mem.length ≤ 12) (l2 : c.hi.length ≤ 12) : At (σ.push (.cells [mv, hv, .int .i64 c.lv, .bool c.fin] 0 false)) σ.next c :=
  ⟨mv, hv, St.get_push_eq _ _ rfl, o1.ints.ext (Ext.push [] [] _ _), o2.ints.ext (Ext.push [] [] _ _), fun i hi => by have := o1.lt i hi; omega, fun i hi => by have := o2.lt i hi; omega, l1, l2⟩
/-- an entry is applied to it -/
theorem At.app {σ : St} {A : Nat} {c : Lc} (h : At σ A c) (g : Lc → Lc × Int) (e : Ent) (hg : ∃ f, assoc methTab e.kind = some (.fn f [] []) ∧ (lright c = true → MethC f e g c)) (hs : SameLen g c) : ∃ mv hv mv1 hv1 σa, σ.get A = some (.cells [mv, hv, .int .i64 c.lv, .bool c.fin] 0 false) ∧ cellsOf σ A = some [mv, hv, .int .i64 c.lv, .bool c.fin] ∧ Ints σ mv c.mem ∧ Ints σ hv c.hi ∧
    (W cfg).f 8 [.agg [mv, hv, .int .i64 c.lv, .bool c.fin], .agg e.cells] σ = some (.tuple [.agg [mv1, hv1, .int .i64 (applyOf (some g) c e).1.lv, .bool (applyOf (some g) c e).1.fin], .int .i64 (applyOf (some g) c e).2], σa) ∧
    OwnI σa mv1 (applyOf (some g) c e).1.mem ∧ OwnI σa hv1 (applyOf (some g) c e).1.hi ∧ Ext [] [] σ σa ∧ (applyOf (some g) c e).1.mem.length ≤ 12 ∧ (applyOf (some g) c e).1.hi.length ≤ 12 ∧ A < σ.next ∧
    (∀ M σb o, Ext M [] σa σb → A ∉ M → (∀ i ∈ M, ∃ x cs fz ro, σa.get i = some (.cells (x :: cs) fz ro) ∧ ∀ n, x ≠ iv n) → o = .cells [mv1, hv1, .int .i64 (applyOf (some g) c e).1.lv, .bool (applyOf (some g) c e).1.fin] 0 false → At (σb.set A o) A (applyOf (some g) c e).1) := by
  obtain ⟨mv, hv, hgA, hm, hh, f1, f2, l1, l2⟩ := h
  obtain ⟨mv1, hv1, σa, ha, o1, o2, x⟩ := s_Apply c e hm hh (by omega) (by omega) (some g) hg
  have hl := apply_len hs e
  have hA := St.get_lt hgA
  refine ⟨mv, hv, mv1, hv1, σa, hgA, by rw [cellsOf_get, hgA]; rfl, hm, hh, ha, o1, o2, x, by omega, by omega, hA, ?_⟩
  rintro M σb o hx hAM hM rfl
  have hgb : σa.get A = some (.cells [mv, hv, .int .i64 c.lv, .bool c.fin] 0 false) := by rw [x.get0 hA]; exact hgA
  have e1 := ownI_ne o1 hgb (sl_ne hm)
  have e2 := ownI_ne o2 hgb (sl_ne hm)
  have y : Ext [A] [] σb (σb.set A (.cells [mv1, hv1, .int .i64 (applyOf (some g) c e).1.lv, .bool (applyOf (some g) c e).1.fin] 0 false)) := Ext.set _ (.inl (by simp))
  have p1 := x.next
  have p2 := hx.next
  exact ⟨mv1, hv1, St.get_set_eq _ _ rfl (by omega), ((o1.mono hx (fun i hi hiM => by obtain ⟨x, cs, fz, ro, hq, hx'⟩ := hM i hiM; exact ownI_ne o1 hq hx' i hi rfl)).mono y (fun i hi => by simpa using e1 i hi)).ints, ((o2.mono hx (fun i hi hiM => by obtain ⟨x, cs, fz, ro, hq, hx'⟩ := hM i hiM; exact ownI_ne o2 hq hx' i hi rfl)).mono y (fun i hi => by simpa using e2 i hi)).ints, e1, e2, by omega, by omega⟩
set_option maxHeartbeats 4000000 in
theorem s_Rises (b : Int) (fin : Bool) (h : risesOf b fin = true) : ∃ σ', (W cfg).f 3 [.int .u8 b, .bool fin] σ0 = some (.bool true, σ') := by
  obtain ⟨σ1, h1⟩ := s_examples
  obtain ⟨v2, σ2, h2, o2, x2, f2⟩ := s_some b σ1
  have hl2 := someN_len b 7
  obtain ⟨mv, hv, σ3, h3, x3, hn3, _⟩ := s_New o2.ints (by omega)
  unfold risesOf at h
  rw [Bool.and_eq_true] at h
  obtain ⟨hr, h⟩ := h
  obtain ⟨m3, o3, fm3⟩ := hn3 hr
  rw [if_pos hr, hr] at h3
  generalize newOf (someN b 7) = c at *
  have q1 := m3.one
  have q2 := m3.isSl
  have q3 := m3.slenM
  have k1 := o3.ints.one
  have k2 := o3.ints.isSl
  unfold Lc.cells at h3
  rw [E_3]; simp only [bodyOf, Tryd.f3]
  simp (disch := first | omega | assumption | ((simp only [St.next_push, St.next_set]); omega) | exact one_int _ _ | exact one_bool _ | exact one_str _ | exact one_ptr _ _ | exact one_slice _ _ _ _ _ | exact one_nilSlice | exact isSl_slice _ _ _ _ _ | exact isSl_nil | exact one_fn _ _ _ | exact one_map _ | ((repeat (first | rw [St.next_push] | rw [St.next_set])); done) | decide +kernel) only [go_sem, ↓run_draw0, h1, h2, h3, ↓reduceIte, Nat.reduceLT, Nat.reduceEqDiff, Nat.reduceAdd, Nat.reduceLeDiff, Nat.reduceMul, Nat.reduceSub, Int.cast_ofNat_Int, Int.reduceEq, Int.reduceLT, Int.reduceLE]
  have o2lt := o2.lt
  have p3 := x3.next
  have m3lt : ∀ i ∈ sid mv, i < σ3.next := by
    have hl := (lright_len hr)
    cases hc : c.mem with
    | nil => unfold lright inB at hr; rw [hc] at hr; simp at hr
    | cons a l =>
      obtain ⟨id, off, cap, rfl, hid, _⟩ := m3.atM (i := 0) (x := a) (by rw [hc]; rfl)
      intro i hi; simp only [sid, List.mem_singleton] at hi; omega
  have hl := lright_len hr
  have hAt : At ((σ3.push (.cells (c.cells mv hv) 0 false)).push (.cells (kE 8 0 0).cells 0 false)) σ3.next c := by
    have y : Ext [] [] σ3 ((σ3.push (.cells (c.cells mv hv) 0 false)).push (.cells (kE 8 0 0).cells 0 false)) := (Ext.push _ _ _ _).pushR _
    exact ⟨mv, hv, by rw [St.get_push_ne _ _ (by simp)]; exact St.get_push_eq _ _ rfl, m3.ext y, o3.ints.ext y, fun i hi => by have := m3lt i hi; omega, fun i hi => by have := o3.lt i hi; omega, by omega, by omega⟩
  cases hrise : riseL 9 0 c with
  | none => rw [hrise] at h; simp at h
  | some cF =>
  rw [hrise] at h
  simp only at h
  refine run_loop_inv cfg (Q := fun (r : ResF) => ∃ σ', r = some (.bool true, σ'))
    (I := fun n a σ' => ∃ (η : Env) (i : Nat) (c : Lc), a = ⟨mat 122 η, [], false⟩ ∧ riseL n i c = some cF ∧ i + n = 9 ∧ lk η 9 = .int .i64 (i : Int) ∧ lk η 8 = .ptr (σ3.next + 1) 0 ∧ lk η 6 = .ptr σ3.next 0 ∧ lk η 5 = .bool true ∧ lk η 1 = .bool fin ∧
      At σ' σ3.next c ∧ cellsOf σ' (σ3.next + 1) = some (kE 8 0 0).cells)
    9 ⟨_, 0, c, rfl, hrise, rfl, rfl, rfl, rfl, rfl, rfl, hAt, cellsOf_push_eq _ _ _ _ (by simp)⟩ ?_
  clear hAt hrise m3 o3 hl hr q1 q2 q3 k1 k2 h3 fm3 m3lt
  rintro n a σ' ⟨η, i, c, rfl, hri, hi, h9, h8, h6, h5, h1', hA, hB⟩ ih
  obtain ⟨mv, hv, mv1, hv1, σa, hg, hcs, hm, hh, ha, oa1, oa2, xa, la1, la2, hAl, hset⟩ := hA.app upOf (kE 8 0 0) (ap_up c) (sameLen_up c)
  have hBl := cellsOf_lt hB
  have q1 := hm.one
  have q2 := hm.isSl
  have q3 := hm.slenM
  have k1 := hh.one
  have k2 := hh.isSl
  cases n with
  | zero => cases hri
  | succ n =>
  unfold riseL at hri
  have pa := xa.next
  have qa1 := oa1.ints.one
  have qa2 := oa2.ints.one
  by_cases hlt : i < c.mem.length
  · have hlt' : (i : Int) < (c.mem.length : Int) := by omega
    rw [decide_eq_true hlt, cond_true] at hri
    obtain ⟨id, off, cap, hmv, hid, _, _, hl0, _⟩ := hm.atM (List.getElem?_eq_getElem hlt)
    have hl1 := hl0 (by omega)
    have hgi : c.mem[i] = gi c.mem i := by unfold gi; simp [hlt]
    rw [hgi] at hl1
    have hAt2 : At ((σa.push (.cells [mv1, hv1, .int .i64 (applyOf (some upOf) c (kE 8 0 0)).1.lv, .bool (applyOf (some upOf) c (kE 8 0 0)).1.fin] 0 false)).push (.cells [.nilSlice, .nilSlice, .int .i64 0, .bool false] 0 false)) σ3.next c := hA.mono ((xa.pushR _).pushR _)
    obtain ⟨mv', hv', mv2, hv2, σc, hg', hcs', hm', hh', hb, ob1, ob2, xb, lb1, lb2, _, hset2⟩ := hAt2.app (regM (kE 7 (gi c.mem i) 2)) (kE 7 (gi c.mem i) 2) (ap_reg _ _ c) (sameLen_reg _ c)
    generalize applyOf (some upOf) c (kE 8 0 0) = ru at *
    generalize applyOf (some (regM (kE 7 (gi c.mem i) 2))) c (kE 7 (gi c.mem i) 2) = rr at *
    have pb := xb.next
    simp only [St.next_push] at pb
    have qb1 := ob1.ints.one
    have qb2 := ob2.ints.one
    simp only [kE, Ent.cells] at ha hb hB
    have hcs2 : cellsOf ((σa.push (.cells [mv1, hv1, .int .i64 ru.1.lv, .bool ru.1.fin] 0 false)).push (.cells [.nilSlice, .nilSlice, .int .i64 0, .bool false] 0 false)) σ3.next = some [mv, hv, .int .i64 c.lv, .bool c.fin] := by rw [cellsOf_push_ne _ _ (by simp; omega), cellsOf_push_ne _ _ (by omega), xa.cells0 hAl]; exact hcs
    rw [hcs2] at hcs'
    injection hcs' with hcs'
    injection hcs' with hc1 hcs'
    injection hcs' with hc2 _
    subst hc1 hc2
    subst hmv
    cases e1 : decide (ru.2 = 8) with
    | false => rw [e1] at hri; simp at hri
    | true =>
    cases e2 : decide (rr.2 = 0) with
    | false => rw [e1, e2] at hri; simp at hri
    | true =>
    rw [e1, e2] at hri
    simp only [Bool.not_true, Bool.or_self, cond_false] at hri
    have hBc : cellsOf σc (σ3.next + 1) = some [.int .u64 1, .int .u64 1, .int .i64 8, .int .u64 0, .int .u64 0, .int .u64 0, .int .u64 0, .int .i64 0, .int .i64 0, .str [], .str []] := by
      rw [xb.cells0 (by simp; omega), cellsOf_push_ne _ _ (by simp; omega), cellsOf_push_ne _ _ (by omega), xa.cells0 hBl]; exact hB
    have hw : wrapA .i64 ((i : Int) + 1) = ((i + 1 : Nat) : Int) := by rw [wrap64] <;> omega
    simp (disch := first | omega | assumption | ((simp only [St.next_push, St.next_set]); omega) | exact one_int _ _ | exact one_bool _ | exact one_str _ | exact one_ptr _ _ | exact one_slice _ _ _ _ _ | exact one_nilSlice | exact isSl_slice _ _ _ _ _ | exact isSl_nil | exact one_fn _ _ _ | exact one_map _ | ((repeat (first | rw [St.next_push] | rw [St.next_set])); done) | decide +kernel) only [go_sem, ↓run_draw0, h9, h8, h6, h5, h1', hcs, hB, q3, hlt', ha, xa.cells0, hlt, hl1, hb, xb.cells0, ↓reduceIte, Nat.reduceLT, Nat.reduceEqDiff, Nat.reduceAdd, Nat.reduceLeDiff, Nat.reduceMul, Nat.reduceSub, Int.cast_ofNat_Int, Int.reduceEq, Int.reduceLT, Int.reduceLE]
    rw [run_drawL _ _ _ _ _ _ (by decide +kernel)]
    have hfr : isFresh ((σa.push (.cells [mv1, hv1, .int .i64 ru.1.lv, .bool ru.1.fin] 0 false)).push (.cells [.nilSlice, .nilSlice, .int .i64 0, .bool false] 0 false)) (σa.next + 1) [.nilSlice, .nilSlice, .int .i64 0, .bool false] = true := isFresh_of (St.get_push_eq _ _ (by simp)) (by decide)
    have hz : σc.get (σa.next + 1) = some (.cells [.nilSlice, .nilSlice, .int .i64 0, .bool false] 0 false) := by rw [xb.get0 (by simp)]; exact St.get_push_eq _ _ (by simp)
    have hfr2 : isFresh σc (σa.next + 1) [.nilSlice, .nilSlice, .int .i64 0, .bool false] = true := isFresh_of hz (by decide)
    have hgA : σc.get σ3.next = some (.cells [.slice id off c.mem.length cap 1, hv, .int .i64 c.lv, .bool c.fin] 0 false) := by rw [xb.get0 (by simp; omega), St.get_push_ne _ _ (by simp; omega), St.get_push_ne _ _ (by omega), xa.get0 hAl]; exact hg
    simp (disch := first | omega | assumption | ((simp only [St.next_push, St.next_set]); omega) | exact one_int _ _ | exact one_bool _ | exact one_str _ | exact one_ptr _ _ | exact one_slice _ _ _ _ _ | exact one_nilSlice | exact isSl_slice _ _ _ _ _ | exact isSl_nil | exact one_fn _ _ _ | exact one_map _ | ((repeat (first | rw [St.next_push] | rw [St.next_set])); done) | decide +kernel) only [go_sem, laid_nil, laid_app, laid_app0, laid_skip, laid_lay, drawK_mk, allFresh_anc, allFresh_cons, allFresh_nil, h9, h8, h6, h5, h1', hcs, hB, q3, hlt', ha, xa.cells0, hlt, hl1, hb, xb.cells0, hz, hgA, e1, e2, hw, ↓reduceIte, Nat.reduceLT, Nat.reduceEqDiff, Nat.reduceAdd, Nat.reduceLeDiff, Nat.reduceMul, Nat.reduceSub, Int.cast_ofNat_Int, Int.reduceEq, Int.reduceLT, Int.reduceLE]
    refine ih n _ _ (by omega) ⟨_, i + 1, rr.1, rfl, hri, by omega, rfl, h8, h6, h5, h1', hset2 [σa.next + 1] _ _ (Ext.set _ (.inl (by simp))) (by simp; omega) (fun j hj => by
      simp only [List.mem_singleton] at hj; subst hj
      exact ⟨_, _, _, _, hz, by simp [iv]⟩) rfl, ?_⟩
    rw [cellsOf_set_ne _ _ (by omega), cellsOf_set_ne _ _ (by omega)]
    exact hBc
  · have hlt' : ¬ (i : Int) < (c.mem.length : Int) := by omega
    rw [decide_eq_false hlt, cond_false] at hri
    cases hri
    have hAb := hset [] σa _ (.refl _ _ _) (by simp) (by simp) rfl
    generalize applyOf (some upOf) cF (kE 8 0 0) = ru at *
    simp only [kE, Ent.cells] at ha hB
    have hga : σa.get σ3.next = some (.cells [mv, hv, .int .i64 cF.lv, .bool cF.fin] 0 false) := by rw [xa.get0 hAl]; exact hg
    have hca : ∀ cs fz ro, cellsOf (σa.set σ3.next (.cells cs fz ro)) σ3.next = some cs := fun cs fz ro => cellsOf_set_eq _ _ _ _ rfl (by omega)
    cases fin
    · simp only [cond_false] at h
      obtain ⟨mv', hv', mv2, hv2, σc, hg', hcs', hm', hh', hb, ob1, ob2, xb, lb1, lb2, hAl2, hset2⟩ := hAb.app lowerOf (kE 9 0 0) (ap_low _) (sameLen_low _)
      rw [hca] at hcs'
      injection hcs' with hcs'
      injection hcs' with hc1 hcs'
      injection hcs' with hc2 _
      subst hc1 hc2
      generalize applyOf (some lowerOf) ru.1 (kE 9 0 0) = rl at *
      have pb := xb.next
      simp only [St.next_set] at pb
      have qb1 := ob1.ints.one
      have qb2 := ob2.ints.one
      simp only [kE, Ent.cells] at hb
      rw [Bool.and_eq_true, Bool.and_eq_true, Bool.and_eq_true] at h
      obtain ⟨e1, e2, e3, e4⟩ := h
      obtain ⟨σd, hd, xd⟩ := s_May (σ := σc.push (.cells [mv2, hv2, .int .i64 rl.1.lv, .bool rl.1.fin] 0 false)) (mv := mv2) (hv := hv2) rl.1 2 qb1 qb2
      unfold Lc.cells at hd
      have e4 : inB 2 1 rl.1.lv = false := by simpa using e4
      rw [e4] at hd
      simp (disch := first | omega | assumption | ((simp only [St.next_push, St.next_set]); omega) | exact one_int _ _ | exact one_bool _ | exact one_str _ | exact one_ptr _ _ | exact one_slice _ _ _ _ _ | exact one_nilSlice | exact isSl_slice _ _ _ _ _ | exact isSl_nil | exact one_fn _ _ _ | exact one_map _ | ((repeat (first | rw [St.next_push] | rw [St.next_set])); done) | decide +kernel) only [go_sem, ↓run_draw0, h9, h8, h6, h5, h1', hcs, hB, q3, hlt', ha, hga, hb, e1, e2, e3, hd, ↓reduceIte, Nat.reduceLT, Nat.reduceEqDiff, Nat.reduceAdd, Nat.reduceLeDiff, Nat.reduceMul, Nat.reduceSub, Int.cast_ofNat_Int, Int.reduceEq, Int.reduceLT, Int.reduceLE]
      exact ⟨_, rfl⟩
    · simp only [cond_true] at h
      obtain ⟨mv', hv', mv2, hv2, σc, hg', hcs', hm', hh', hb, ob1, ob2, xb, lb1, lb2, hAl2, hset2⟩ := hAb.app finalOf (kE 10 0 0) (ap_fin _) (sameLen_fin _)
      rw [hca] at hcs'
      injection hcs' with hcs'
      injection hcs' with hc1 hcs'
      injection hcs' with hc2 _
      subst hc1 hc2
      generalize applyOf (some finalOf) ru.1 (kE 10 0 0) = rf at *
      have pb := xb.next
      simp only [St.next_set] at pb
      have qb1 := ob1.ints.one
      have qb2 := ob2.ints.one
      simp only [kE, Ent.cells] at hb
      have hAc := hset2 [] (σc.push (.cells [mv2, hv2, .int .i64 rf.1.lv, .bool rf.1.fin] 0 false)) _ (.push _ _ _ _) (by simp) (by simp) rfl
      have hgc : σc.get σ3.next = some (.cells [mv1, hv1, .int .i64 ru.1.lv, .bool ru.1.fin] 0 false) := by rw [xb.get0 (by simp; omega)]; exact St.get_set_eq _ _ rfl (by omega)
      obtain ⟨mv'', hv'', mv3, hv3, σd, hg'', hcs'', hm'', hh'', hd, oc1, oc2, xc, lc1, lc2, _, _⟩ := hAc.app lowerOf (kE 9 0 0) (ap_low _) (sameLen_low _)
      rw [cellsOf_set_eq _ _ _ _ rfl (by simp; omega)] at hcs''
      injection hcs'' with hcs''
      injection hcs'' with hc1 hcs''
      injection hcs'' with hc2 _
      subst hc1 hc2
      generalize applyOf (some lowerOf) rf.1 (kE 9 0 0) = rl at *
      have pc := xc.next
      simp only [St.next_set, St.next_push] at pc
      have qc1 := oc1.ints.one
      have qc2 := oc2.ints.one
      simp only [kE, Ent.cells] at hd
      rw [Bool.and_eq_true, Bool.and_eq_true, Bool.and_eq_true, Bool.and_eq_true] at h
      obtain ⟨e0, e1, e2, e3, e4⟩ := h
      obtain ⟨σe, he, xe⟩ := s_May (σ := σd.push (.cells [mv3, hv3, .int .i64 rl.1.lv, .bool rl.1.fin] 0 false)) (mv := mv3) (hv := hv3) rl.1 2 qc1 qc2
      unfold Lc.cells at he
      rw [e4] at he
      rw [St.set_push_lt _ _ _ (by omega)] at hd
      simp (disch := first | omega | assumption | ((simp only [St.next_push, St.next_set]); omega) | exact one_int _ _ | exact one_bool _ | exact one_str _ | exact one_ptr _ _ | exact one_slice _ _ _ _ _ | exact one_nilSlice | exact isSl_slice _ _ _ _ _ | exact isSl_nil | exact one_fn _ _ _ | exact one_map _ | ((repeat (first | rw [St.next_push] | rw [St.next_set])); done) | decide +kernel) only [go_sem, ↓run_draw0, h9, h8, h6, h5, h1', hcs, hB, q3, hlt', ha, hga, hb, hgc, e0, e1, e2, e3, hd, he, ↓reduceIte, Nat.reduceLT, Nat.reduceEqDiff, Nat.reduceAdd, Nat.reduceLeDiff, Nat.reduceMul, Nat.reduceSub, Int.cast_ofNat_Int, Int.reduceEq, Int.reduceLT, Int.reduceLE]
      exact ⟨_, rfl⟩
end
end R14
