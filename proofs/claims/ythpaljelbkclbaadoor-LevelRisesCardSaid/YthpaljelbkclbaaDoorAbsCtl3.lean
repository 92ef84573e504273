/-
  THE ABSTRACT MACHINE IS RIGHT, 16: functions are left; rounds; code; the whole.
-/
import Derived.Test.YthpaljelbkclbaaDoorAbsCtl2
namespace Go.Abs
open Go

section leave
variable {C : Cfg} (hC : CfgOK C) {ρ : Pl} {σ : St} {w : World}

theorem killAll_cons (r : Nat) (l : List Nat) (σ : St) : killAll (r :: l) σ = match σ.get r with
    | some .deferred => σ.setK r .dead (killAll l)
    | _ => none := rfl

include hC in
/-- A function is left: its marks are taken up, its results stand. -/
theorem leave_sound {fn : Func} {tmps : List AV} {act : Act} {v : AV} {σ' : St} {ρ0 : Pl} {σ0 : St} {w0 : World} : ∀ (l : List Nat) {ρ : Pl} {σ : St} {w : World} {ds : List Deferred},
    Step ρ0 σ0 w0 ρ σ w → TR ρ tmps act → DR ρ l ds → killAll l σ = some σ' → aResults C σ' tmps fn = some v → LeavesInM Fence.wide 0 C.P fn act.tmps (RetR ρ0 σ0 w0 v σ') ds .returning w
  | [], ρ, σ, w, ds, h, ht, hd, hk, hr => by
    cases hk; cases hd
    obtain ⟨x, hx, hv⟩ := results_sound hC h.rep ht hr
    exact ⟨x, hx, x, ρ, rfl, h, hv⟩
  | r :: l, ρ, σ, w, ds, h, ht, hd, hk, hr => by
    rw [killAll_cons] at hk
    split at hk
    · rename_i hg
      rw [St.setK_eq] at hk
      cases hd with
      | cons hρ hd =>
      rename_i b sz ds
      obtain ⟨_, hx⟩ := h.rep.obj _ _ _ _ _ hρ hg
      have hput := Step.put h.rep (ob' := .dead) (x := .deferred none) hρ hg rfl trivial trivial
      refine ⟨by simp, .inl ⟨b, w.putObj_ b (.deferred none), rfl, ?_, ?_⟩⟩
      · have hgo : (getObj b).run C.P w = .ok (.deferred (some [])) w := by simp [getObj, Sem.run, hx]
        have hset : (setObj b (.deferred none)).run C.P w = .ok () (w.putObj_ b (.deferred none)) := run_setObj_of hx (by simp)
        simp only [Instr.takeDeferred, Sem.run_bind, hgo, Result.andThen_ok, hset, Sem.run_pure]
      · exact leave_sound l (h.trans hput) ht hd hk hr
    · cases hk

theorem padTo_eq (l : List AV) (n : Nat) : padTo l n = l ++ List.replicate (n - l.length) .undef := by
  unfold padTo
  rw [lapp_eq, llen_eq]
  congr 1
  generalize n - l.length = k
  induction k with
  | zero => rfl
  | succ k ih => rw [List.replicate_succ, ← ih]

include hC in
theorem func_sound {ih : Evs} (hc : CSound C ih) : FSound C (stepE C ih) := by
  intro f args σ v σ' hl ρ w args' h hargs
  have hl : stepF C ih f args σ = some (v, σ') := hl
  unfold stepF at hl
  split at hl
  · rename_i s hs
    exact ⟨hC.hS f s hs _ _ _ _ hl ρ w args' h hargs, fun e => by rw [hs] at e; cases e⟩
  · rename_i hs
    split at hl
    case h_2 => cases hl
    rename_i fn hfn
    split at hl
    case h_2 => cases hl
    rename_i c hb
    rw [forceL_eq] at hl
    obtain ⟨hpf, hng⟩ := hC.hF f fn hfn
    have hrun : (callFunc f args').run C.P w = .ok (.enter f args') w := by
      simp only [callFunc, Sem.run_bind, run_program, Result.andThen_ok, hpf, hng, hb, Bool.false_eq_true, if_false, Option.isNone_some, Sem.run_pure]
    have hcalls : Calls C.P f args' w (RetR ρ σ w v σ') := by
      rw [← callsIn_wide (n := 0)]
      refine callsIn_of_wp_marks hpf hb trivial ?_
      unfold leaveF at hl
      split at hl
      case h_2 => cases hl
      rename_i e a1 σ1 hev
      have hlen : args.length = args'.size := by simpa using hargs.length
      have hT : TR ρ (padTo args fn.ntmps) { tmps := args' ++ Array.replicate (fn.ntmps - args'.size) undef, defers := [] } := by
        unfold TR
        rw [padTo_eq, Array.toList_append, Array.toList_replicate]
        rw [hlen]
        exact hargs.append (VRs.replicate _ VR.undef)
      obtain ⟨_, hcs⟩ := hc _ _ _ _ _ _ hev
      refine wpIn_mono (hcs Fence.wide ρ w _ (.inl ⟨rfl, rfl⟩) h ⟨hT, .nil⟩) ?_
      rintro e' act' w' ⟨rfl, ρ', hst, ha⟩
      split at hl
      · split at hl
        · rename_i σ2 hk
          obtain ⟨hr, rfl⟩ := withSt_eq hl
          exact leave_sound hC _ hst ha.tmps ha.defers hk hr
        · cases hl
      · split at hl
        · rename_i σ2 hk
          obtain ⟨hr, rfl⟩ := withSt_eq hl
          exact leave_sound hC _ hst ha.tmps ha.defers hk hr
        · cases hl
      · cases hl
    exact ⟨.inl ⟨hrun, hcalls⟩, fun _ => ⟨hrun, hcalls⟩⟩

/-! ### rounds -/

theorem loopAt_eq {l : Nat} {r : ALoop} (h : loopAt σ l = some r) : σ.get l = some (.loop r) := by
  unfold loopAt at h
  split at h
  · rename_i r' hg; cases h; exact hg
  · cases h

/-- The record of a range over a function. -/
theorem loop_rel (h : Rep ρ σ w) {l b sz : Nat} {r : ALoop} (hρ : ρ l = some (b, 0, sz)) (hl : loopAt σ l = some r) : ∃ r', w.heap[b]? = some (.loop r') ∧ LR ρ r r' ∧ (Instr.getLoop b).run C.P w = .ok r' w := by
  obtain ⟨_, r', hx, hr⟩ := h.obj _ _ _ _ _ hρ (loopAt_eq hl)
  refine ⟨r', hx, hr, ?_⟩
  simp [Instr.getLoop, getObj, Sem.run, hx]

theorem LR.to {r : ALoop} {r' : Loop} (h : LR ρ r r') (s : LoopState) (p : Option Code) : LR ρ (r.to s p) { r' with state := s, pending := p } := by
  obtain ⟨h1, h2, h3, h4, h5, h6, h7⟩ := h
  exact ⟨rfl, rfl, h3, h4, h5, h6, h7⟩

theorem eqState_eq (a b : LoopState) : eqState a b = decide (a = b) := by cases a <;> cases b <;> rfl

/-- The record turned. -/
theorem loop_put (h : Rep ρ σ w) {l b sz : Nat} {r : ALoop} {r' : Loop} (hρ : ρ l = some (b, 0, sz)) (hl : loopAt σ l = some r) (hx : w.heap[b]? = some (.loop r')) (hr : LR ρ r r') (s : LoopState) (p : Option Code) :
    (setObj b (.loop { r' with state := s, pending := p })).run C.P w = .ok () (w.putObj_ b (.loop { r' with state := s, pending := p })) ∧
      Step ρ σ w ρ (σ.set l (.loop (r.to s p))) (w.putObj_ b (.loop { r' with state := s, pending := p })) :=
  ⟨run_setObj_of hx (by simp), Step.put h hρ (loopAt_eq hl) rfl trivial ⟨rfl, _, rfl, hr.to s p⟩⟩

theorem endRound_sound (h : Rep ρ σ w) {l b sz : Nat} (hρ : ρ l = some (b, 0, sz)) {jump : Option Code} {v : AV} {σ' : St} (hl : endRound l σ jump = some (v, σ')) :
    ∃ x w', (Instr.endRound b jump).run C.P w = .ok x w' ∧ Step ρ σ w ρ σ' w' ∧ VR ρ v x := by
  unfold endRound at hl
  split at hl
  case h_2 => cases hl
  rename_i r hlp
  obtain ⟨r', hx, hr, hg⟩ := loop_rel (C := C) h hρ hlp
  split at hl
  · rw [St.setK_eq] at hl
    cases hl
    obtain ⟨h1, h2⟩ := loop_put (C := C) h hρ hlp hx hr .ready none
    refine ⟨.bool true, _, ?_, h2, .bool _⟩
    simp only [Instr.endRound, Sem.run_bind, hg, Result.andThen_ok, Option.isNone_none, if_true, h1, Sem.run_pure]
  · rename_i c
    rw [St.setK_eq] at hl
    cases hl
    obtain ⟨h1, h2⟩ := loop_put (C := C) h hρ hlp hx hr .done (some c)
    refine ⟨.bool false, _, ?_, h2, .bool _⟩
    simp only [Instr.endRound, Sem.run_bind, hg, Result.andThen_ok, Option.isNone_some, Bool.false_eq_true, if_false, h1, Sem.run_pure]

theorem setMany_cons (t : Tmp) (ps : List Tmp) (v : AV) (vs l : List AV) : setMany (t :: ps) (v :: vs) l = setMany ps vs (l.set t v) := rfl

theorem setMany_sound : ∀ (ps : List Tmp) (vs : List AV) (xs : List Value) (l : List AV) (t : Array Value), ps.length = vs.length → VRs ρ vs xs → VRs ρ l t.toList →
    VRs ρ (setMany ps vs l) (((ps.zip xs).foldl (fun tmps (p : Tmp × Value) => tmps.setIfInBounds p.1 p.2) t).toList)
  | [], vs, xs, l, t, _, _, h => by
    have : setMany [] vs l = l := rfl
    rw [this]; exact h
  | p :: ps, [], xs, l, t, hlen, _, h => by simp at hlen
  | p :: ps, v :: vs, _, l, t, hlen, .cons hv hvs, h => by
    rw [setMany_cons]
    simp only [List.zip_cons_cons, List.foldl_cons]
    refine setMany_sound ps vs _ _ _ (by simpa using hlen) hvs ?_
    rw [Array.toList_setIfInBounds]
    exact h.set p hv

theorem round_sound {ih : Evs} (hc : CSound C ih) : RSound C (stepE C ih) := by
  intro l args σ v σ' hl ρ w args' b sz h hρ hargs
  have hl : stepR ih l args σ = some (v, σ') := hl
  unfold stepR at hl
  split at hl
  case h_2 => cases hl
  rename_i r hlp
  rw [boolC_none, nbeq, decide_eq_true_eq, llen_eq, llen_eq, forceL_eq] at hl
  obtain ⟨hlen, hl⟩ := hl
  obtain ⟨r', hx, hr, hg⟩ := loop_rel (C := C) h hρ hlp
  obtain ⟨q1, q2, q3, q4, q5, q6, q7⟩ := hr
  have hal : args.length = args'.size := by simpa using hargs.length
  refine ⟨r'.fn, (r'.params.zip args').foldl (fun tmps (t, a) => tmps.setIfInBounds t a) r'.tmps, r'.assign, r'.body, ?_, ?_⟩
  · have hsz : args'.size = r'.params.size := by rw [← hal, hlen, q4]; simp
    simp only [Instr.yield, Sem.run_bind, hg, Result.andThen_ok, ne_eq, hsz, not_true_eq_false, if_false, Sem.run_pure]
  · unfold roundBody at hl
    split at hl
    case h_2 => cases hl
    rename_i e a1 σ1 hev
    split at hl
    case h_2 => cases hl
    split at hl
    case h_2 => cases hl
    rename_i q hq
    rw [boolC_none, eqState_eq, decide_eq_true_eq, St.setK_eq] at hl
    obtain ⟨hready, hl⟩ := hl
    refine roundIn_of_wpIn trivial ?_
    obtain ⟨hin1, hcs⟩ := hc _ _ _ _ _ _ hev
    rw [q5] at hcs
    have hfok : FOK (Fence.wide.inRound b) true := .inr ⟨b, rfl, rfl⟩
    have htm : TR ρ (setMany r.params args r.tmps) { tmps := (r'.params.zip args').foldl (fun tmps (t, a) => tmps.setIfInBounds t a) r'.tmps, defers := [] } := by
      have := setMany_sound (ρ := ρ) r.params args args'.toList r.tmps r'.tmps hlen.symm hargs q3
      unfold TR
      rw [q4] at this ⊢
      rw [← Array.foldl_toList, Array.toList_zip]
      exact this
    refine wpIn_mono (hcs _ ρ w _ hfok h ⟨htm, .nil⟩) ?_
    rintro e' act1 w1 ⟨rfl, ρ1, hst1, ha1⟩
    obtain ⟨r1, hx1, hr1, hg1⟩ := loop_rel (C := C) hst1.rep (hst1.le _ _ hρ) hq
    obtain ⟨h1, h2⟩ := loop_put (C := C) hst1.rep (hst1.le _ _ hρ) hq hx1 hr1 .busy q.pending
    have hpe : r1.pending = q.pending := hr1.2.1.symm
    have hse : r1.state = .ready := hr1.1.symm.trans hready
    refine ⟨w1.putObj_ b (.loop { r1 with state := .busy, pending := q.pending }), ?_, ?_⟩
    · have : ({ r1 with state := .busy } : Loop) = { r1 with state := .busy, pending := q.pending } := by rw [← hpe]
      simp only [Instr.beginRound, Sem.run_bind, hg1, Result.andThen_ok, this, h1, hse, Sem.run_pure]
    · unfold roundEnd at hl
      split at hl
      case h_2 => cases hl
      rename_i e2 a2 σ2 hev2
      split at hl
      case h_2 => cases hl
      rename_i hde
      obtain ⟨hin2, hcs2⟩ := hc _ _ _ _ _ _ hev2
      rw [q6] at hcs2
      have hstB := hst1.trans h2
      refine wpIn_mono (hcs2 _ ρ1 _ _ (by rw [hin1]; exact hfok) h2.rep ha1) ?_
      rintro e' act2 w2 ⟨rfl, ρ2, hst2, ha2⟩
      have hρ2 := hst2.le _ _ (hst1.le _ _ hρ)
      have hst := hstB.trans hst2
      split at hl
      · obtain ⟨x, w3, h3, h4, h5⟩ := endRound_sound (C := C) hst2.rep hρ2 hl
        exact ⟨x, w3, h3, x, ρ2, rfl, hst.trans h4, h5⟩
      · obtain ⟨x, w3, h3, h4, h5⟩ := endRound_sound (C := C) hst2.rep hρ2 hl
        exact ⟨x, w3, h3, x, ρ2, rfl, hst.trans h4, h5⟩
      · obtain ⟨x, w3, h3, h4, h5⟩ := endRound_sound (C := C) hst2.rep hρ2 hl
        exact ⟨x, w3, h3, x, ρ2, rfl, hst.trans h4, h5⟩
      · cases hl
end leave
end Go.Abs
