/-
  THE ABSTRACT MACHINE IS RIGHT, 17: code; the whole.
-/
import Derived.Test.YthpaljelbkclbaaDoorAbsCtl3
namespace Go.Abs
open Go

theorem ev_succ (C : Cfg) (n : Nat) : ev C (n + 1) = stepE C (ev C n) := rfl

section code
variable {C : Cfg} (hC : CfgOK C) {ρ : Pl} {σ : St} {w : World}

/-- The function that was ranged over has ended. -/
theorem rangeEnd_sound {ih : Evs} (hc : CSound C ih) {l d : Nat} {a : AAct} {σ1 : St} {e : Exit} {a' : AAct} {σ' : St} {v : AV} (hl : rangeEnd ih l d a (some (v, σ1)) = some (e, a', σ')) :
    a'.inRound = a.inRound ∧ ∀ (ρ1 : Pl) (w1 : World) (F : Fence) (b bd sz szd : Nat) (act : Act) (ρ0 : Pl) (σ0 : St) (w0 : World), FOK F a.inRound → ρ1 l = some (b, 0, sz) → ρ1 d = some (bd, 0, szd) → Step ρ0 σ0 w0 ρ1 σ1 w1 → AR ρ1 a act →
      ∃ jump w2, (Instr.endLoop b).run C.P w1 = .ok jump w2 ∧ (match jump with
        | none => PostC ρ0 σ0 w0 e a' σ' .normal { act with defers := [{ target := .collected bd, args := #[] }] ++ act.defers } w2
        | some c => c.wpIn F 0 C.P (PostC ρ0 σ0 w0 e a' σ') { act with defers := [{ target := .collected bd, args := #[] }] ++ act.defers } w2) := by
  unfold rangeEnd at hl
  simp only at hl
  split at hl
  case h_2 => cases hl
  rename_i q hq
  rw [boolC_none', eqState_eq, decide_eq_false_iff_not, St.setK_eq] at hl
  obtain ⟨hnb, hl⟩ := hl
  have body : ∀ (ρ1 : Pl) (w1 : World) (b sz : Nat), ρ1 l = some (b, 0, sz) → Rep ρ1 σ1 w1 → ∃ w2, (Instr.endLoop b).run C.P w1 = .ok q.pending w2 ∧ Step ρ1 σ1 w1 ρ1 (σ1.set l (.loop (q.to .exhausted q.pending))) w2 := by
    intro ρ1 w1 b sz hρ h
    obtain ⟨r', hx, hr, hg⟩ := loop_rel (C := C) h hρ hq
    obtain ⟨h1, h2⟩ := loop_put (C := C) h hρ hq hx hr .exhausted q.pending
    refine ⟨_, ?_, h2⟩
    have hpe : r'.pending = q.pending := hr.2.1.symm
    have hse : (r'.state == .busy) = false := by
      rw [← hr.1]
      cases hqs : q.state <;> first | rfl | exact absurd hqs hnb
    simp only [Instr.endLoop, Sem.run_bind, hg, Result.andThen_ok, hse, Bool.false_eq_true, if_false, h1, Sem.run_pure, hpe]
  split at hl
  · rename_i hp
    cases hl
    refine ⟨rfl, fun ρ1 w1 F b bd sz szd act ρ0 σ0 w0 _ hρ hρd hst ha => ?_⟩
    obtain ⟨w2, h1, h2⟩ := body ρ1 w1 b sz hρ hst.rep
    rw [hp] at h1
    exact ⟨none, w2, h1, rfl, ρ1, hst.trans h2, ⟨ha.tmps, .cons hρd ha.defers⟩⟩
  · rename_i c hp
    obtain ⟨hin, hcs⟩ := hc _ _ _ _ _ _ hl
    refine ⟨hin, fun ρ1 w1 F b bd sz szd act ρ0 σ0 w0 hF hρ hρd hst ha => ?_⟩
    obtain ⟨w2, h1, h2⟩ := body ρ1 w1 b sz hρ hst.rep
    rw [hp] at h1
    refine ⟨some c, w2, h1, ?_⟩
    exact wpIn_mono (hcs F ρ1 w2 _ hF h2.rep ⟨ha.tmps, .cons hρd ha.defers⟩) fun e' act' w' hp' => hp'.trans (hst.trans h2)

include hC in
theorem code_sound {n : Nat} (hall : ∀ k, k ≤ n → CSound C (ev C k)) (hf : FSound C (ev C n)) (hr : RSound C (ev C n)) : CSound C (ev C (n + 1)) := by
  have hc := hall n (Nat.le_refl n)
  intro c a σ e a' σ' hl
  change stepC C (ev C n) c a σ = some (e, a', σ') at hl
  have hseq : ∀ (x y : Code) (e : Exit) (a' : AAct) (σ' : St), seqC (ev C n) y ((ev C n).c x a σ) = some (e, a', σ') → a'.inRound = a.inRound ∧
      ∀ (F : Fence) ρ w act, FOK F a.inRound → Rep ρ σ w → AR ρ a act → x.wpIn F 0 C.P (Exit.then (fun act1 w1 => ∃ a1 σ1 ρ1, (ev C n).c y a1 σ1 = some (e, a', σ') ∧ a1.inRound = a.inRound ∧ Step ρ σ w ρ1 σ1 w1 ∧ AR ρ1 a1 act1) (PostC ρ σ w e a' σ')) act w := by
    intro x y e a' σ' hl
    unfold seqC at hl
    split at hl
    case h_2 => cases hl
    rename_i e1 a1 σ1 hx
    obtain ⟨hin, hcs⟩ := hc _ _ _ _ _ _ hx
    split at hl
    · obtain ⟨hin2, _⟩ := hc _ _ _ _ _ _ hl
      refine ⟨hin2.trans hin, fun F ρ w act hF h ha => wpIn_mono (hcs F ρ w act hF h ha) ?_⟩
      rintro e' act1 w1 ⟨rfl, ρ1, hst, ha1⟩
      exact ⟨a1, σ1, ρ1, hl, hin, hst, ha1⟩
    · rename_i hne
      cases hl
      refine ⟨hin, fun F ρ w act hF h ha => wpIn_mono (hcs F ρ w act hF h ha) ?_⟩
      rintro e' act1 w1 ⟨rfl, ρ1, hst, ha1⟩
      cases e' with
      | normal => exact absurd rfl hne
      | _ => exact ⟨rfl, ρ1, hst, ha1⟩
  unfold stepC at hl
  split at hl
  · cases hl
    exact ⟨rfl, fun F ρ w act hF h ha => wpIn_skip ⟨rfl, ρ, .refl h, ha⟩⟩
  · rename_i id ops draw
    cases draw
    · rw [boolC_false] at hl
      refine ⟨?_, fun F ρ w act hF h ha => wpIn_region_list (text_sound hC hf hr hF _ (.refl h) ha hl).2⟩
      have : ∀ (l : List Oper) (a : AAct) (σ : St), stepOps C (ev C n) ops.toList l a σ = some (e, a', σ') → a'.inRound = a.inRound := by
        intro l
        induction l with
        | nil => intro a σ hl; cases hl; rfl
        | cons o l ih' =>
          intro a σ hl
          rw [stepOps_cons] at hl
          cases hwt : wantedA ops.toList o a.tmps
          · rw [hwt, boolC_false, putK_eq] at hl
            exact (ih' _ _ hl).trans (put_rest _ _ _).2
          · rw [hwt, boolC_true] at hl
            split at hl
            · rw [putK_eq] at hl
              exact (ih' _ _ hl).trans (put_rest _ _ _).2
            · cases hl
      exact this _ _ _ hl
    · rw [boolC_true] at hl
      have hin : a'.inRound = a.inRound := by
        unfold drawC at hl
        rw [boolC_none] at hl
        obtain ⟨news, σ1, h1, _⟩ := hoist_spec hl.2
        rw [boolC_none] at h1
        exact (trace_of _ _ _ _ _ _ _ _ _ h1.2).2.2.1
      exact ⟨hin, fun F ρ w act hF h ha => (draw_sound hC hf hr hF h ha hl).2⟩
  · rename_i x y
    obtain ⟨hin, hs⟩ := hseq x y e a' σ' hl
    refine ⟨hin, fun F ρ w act hF h ha => wpIn_seq (wpIn_mono (hs F ρ w act hF h ha) ?_)⟩
    intro e' act1 w1 hq
    cases e' with
    | normal =>
      obtain ⟨a1, σ1, ρ1, hy, hin1, hst, ha1⟩ := hq
      obtain ⟨_, hcs⟩ := hc _ _ _ _ _ _ hy
      exact wpIn_mono (hcs F ρ1 w1 act1 (by rw [hin1]; exact hF) hst.rep ha1) fun e' act' w' hp => hp.trans hst
    | _ => exact hq
  · rename_i v x y
    unfold condC at hl
    split at hl
    · rename_i b hb
      have hbool : ∀ {ρ : Pl} {x : Value}, VR ρ (.bool b) x → x = .bool b := fun h => by cases h; rfl
      have hcond : ∀ {ρ : Pl} {act : Act}, AR ρ a act → act.eval v = .bool b := fun ha => hbool (evT_sound ha.tmps hb)
      cases b
      · rw [boolC_false] at hl
        obtain ⟨hin, hcs⟩ := hc _ _ _ _ _ _ hl
        exact ⟨hin, fun F ρ w act hF h ha => wpIn_cond_false (hcond ha) (hcs F ρ w act hF h ha)⟩
      · rw [boolC_true] at hl
        obtain ⟨hin, hcs⟩ := hc _ _ _ _ _ _ hl
        exact ⟨hin, fun F ρ w act hF h ha => wpIn_cond_true (hcond ha) (hcs F ρ w act hF h ha)⟩
    · cases hl
  · rename_i id body
    unfold blockC at hl
    split at hl
    case h_2 => cases hl
    rename_i e1 a1 σ1 hb
    obtain ⟨hin, hcs⟩ := hc _ _ _ _ _ _ hb
    split at hl
    · rename_i id'
      have hin' : a' = a1 := by
        rw [nbeq] at hl
        by_cases hid : id' = id
        · rw [decide_eq_true hid] at hl; cases hl; rfl
        · rw [decide_eq_false hid] at hl; cases hl; rfl
      refine ⟨by rw [hin']; exact hin, fun F ρ w act hF h ha => wpIn_block (wpIn_mono (hcs F ρ w act hF h ha) ?_)⟩
      rintro e' act1 w1 ⟨rfl, ρ1, hst, ha1⟩
      rw [nbeq] at hl
      simp only [Exit.inBlock]
      by_cases hid : id' = id
      · rw [decide_eq_true hid] at hl; cases hl
        rw [if_pos hid]; exact ⟨rfl, ρ1, hst, ha1⟩
      · rw [decide_eq_false hid] at hl; cases hl
        rw [if_neg hid]; exact ⟨rfl, ρ1, hst, ha1⟩
    · rename_i hne
      cases hl
      refine ⟨hin, fun F ρ w act hF h ha => wpIn_block (wpIn_mono (hcs F ρ w act hF h ha) ?_)⟩
      rintro e' act1 w1 ⟨rfl, ρ1, hst, ha1⟩
      cases e' with
      | exit id' => exact absurd rfl (hne id')
      | _ => exact ⟨rfl, ρ1, hst, ha1⟩
  · rename_i body
    obtain ⟨hin, _⟩ := hseq body (.loop body) e a' σ' hl
    refine ⟨hin, fun F ρ w act hF h ha => ?_⟩
    refine wpIn_loop_down (fun j act1 w1 => ∃ a1 σ1 ρ1, j ≤ n + 1 ∧ (ev C j).c (.loop body) a1 σ1 = some (e, a', σ') ∧ a1.inRound = a.inRound ∧ Step ρ σ w ρ1 σ1 w1 ∧ AR ρ1 a1 act1) (j := n + 1)
      ⟨a, σ, ρ, Nat.le_refl _, hl, rfl, .refl h, ha⟩ ?_
    rintro j act1 w1 ⟨a1, σ1, ρ1, hj, hlj, hin1, hst1, ha1⟩
    cases j with
    | zero => cases hlj
    | succ k =>
      have hk := hall k (by omega)
      have hlj : seqC (ev C k) (.loop body) ((ev C k).c body a1 σ1) = some (e, a', σ') := hlj
      unfold seqC at hlj
      split at hlj
      case h_2 => cases hlj
      rename_i e2 a2 σ2 hb
      obtain ⟨hin2, hcs⟩ := hk _ _ _ _ _ _ hb
      refine wpIn_mono (hcs F ρ1 w1 act1 (by rw [hin1]; exact hF) hst1.rep ha1) ?_
      intro e' act2 w2 hpost
      obtain ⟨he, ρ2, hst2, ha2⟩ := hpost
      subst he
      split at hlj
      · exact ⟨k, Nat.lt_succ_self _, a2, σ2, ρ2, by omega, hlj, hin2.trans hin1, hst1.trans hst2, ha2⟩
      · rename_i hne
        cases hlj
        have : ∀ (e'' : Exit) (K : Act → World → Prop), (e'' = .normal → False) → PostC ρ σ w e a' σ' e'' act2 w2 → Exit.then K (PostC ρ σ w e a' σ') e'' act2 w2 := by
          intro e'' K hne hp
          cases e'' with
          | normal => exact absurd rfl hne
          | _ => exact hp
        exact this _ _ hne ⟨rfl, ρ2, hst1.trans hst2, ha2⟩
  · -- a range over a function
    rename_i f params assign body
    unfold stepRange at hl
    rw [boolC_none'] at hl
    obtain ⟨hnr, hl⟩ := hl
    split at hl
    case h_2 => cases hl
    rename_i g first cap hev
    split at hl
    case h_2 => cases hl
    rename_i hS
    rw [St.pushK_eq, St.pushK_eq] at hl
    generalize hcall : (ev C n).f g (lapp first (.yield (σ.push .deferred).next :: cap)) _ = res at hl
    cases res with
    | none => cases hl
    | some vs =>
    obtain ⟨v, σ1⟩ := vs
    obtain ⟨hin, hend⟩ := rangeEnd_sound hc hl
    refine ⟨hin, fun F ρ w act hF h ha => ?_⟩
    have hFw : F = Fence.wide := by
      rcases hF with ⟨e, _⟩ | ⟨l, _, e⟩
      · exact e
      · rw [hnr] at e; cases e
    have hgv := evT_sound ha.tmps hev
    generalize hge : act.eval f = gv at hgv
    cases hgv with
    | fn hv1 hv2 =>
    rename_i first' cap'
    refine wpIn_rangeFunc fun fn _ => ?_
    have st1 := Step.alloc h (ob := .deferred) (x := .deferred (some [])) 0 (fun ρ' _ => ⟨rfl, rfl⟩)
    have st2 := Step.alloc st1.rep (ob := .loop { state := .ready, pending := none, tmps := a.tmps, params := params.toList, assign := assign, body := body, defers := σ.next })
      (x := .loop { state := .ready, pending := none, fn := fn, tmps := act.tmps, params := params, assign := assign, body := body, defers := w.heap.size }) 0 (fun ρ' hle =>
        ⟨rfl, _, rfl, rfl, rfl, VRs.mono (st1.le.trans hle) ha.tmps, rfl, rfl, rfl, 0, hle _ _ (Pl.upd_same _ _ _)⟩)
    have st := st1.trans st2
    have hlρ := Pl.upd_same (ρ.upd σ.next (w.heap.size, 0, 0)) (σ.push .deferred).next ((w.alloc (.deferred (some []))).heap.size, 0, 0)
    have hdρ := st2.le _ _ (Pl.upd_same ρ σ.next (w.heap.size, 0, 0))
    have hargs : VRs ((ρ.upd σ.next (w.heap.size, 0, 0)).upd (σ.push .deferred).next ((w.alloc (.deferred (some []))).heap.size, 0, 0)) (lapp first (.yield (σ.push .deferred).next :: cap)) (first' ++ #[Value.func (.yield (w.alloc (.deferred (some []))).heap.size) #[] #[]] ++ cap').toList := by
      rw [lapp_eq]
      simp only [Array.toList_append, List.append_assoc]
      exact (VRs.mono st.le hv1).append (.cons (.yield hlρ) (VRs.mono st.le hv2))
    obtain ⟨hrun, hcalls⟩ := (hf _ _ _ _ _ hcall _ _ _ st2.rep hargs).2 hS
    refine ⟨(w.alloc (.deferred (some []))).heap.size, [{ target := .collected w.heap.size, args := #[] }], (w.alloc (.deferred (some []))).alloc (.loop { state := .ready, pending := none, fn := fn, tmps := act.tmps, params := params, assign := assign, body := body, defers := w.heap.size }), { target := .fn (.func g) cap', args := first' ++ #[Value.func (.yield (w.alloc (.deferred (some []))).heap.size) #[] #[]] },
      (w.alloc (.deferred (some []))).alloc (.loop { state := .ready, pending := none, fn := fn, tmps := act.tmps, params := params, assign := assign, body := body, defers := w.heap.size }), g, first' ++ #[Value.func (.yield (w.alloc (.deferred (some []))).heap.size) #[] #[]] ++ cap', (w.alloc (.deferred (some []))).alloc (.loop { state := .ready, pending := none, fn := fn, tmps := act.tmps, params := params, assign := assign, body := body, defers := w.heap.size }), ?_, ?_, fun f' _ => hF.fn f', ?_, fun hd => (by rw [hF.depth] at hd; cases hd), ?_⟩
    · rw [hFw]; rfl
    · simp only [resolve, rangeCall, hge, Deferred.ofValue, Sem.run_pure]
      simp [Act.eval]
    · exact hrun
    · refine (hF.calls _ hcalls).mono ?_
      rintro e' w' ⟨x, ρ', rfl, hst', hv'⟩
      obtain ⟨jump, w2, h1, h2⟩ := hend ρ' w' F _ _ 0 0 act ρ σ w (by rw [hFw]; exact .inl ⟨rfl, hnr⟩) (hst'.le _ _ hlρ) (hst'.le _ _ hdρ) (st.trans hst') (ha.mono (st.trans hst').le)
      exact ⟨jump, w2, h1, h2⟩
  · cases hl
    exact ⟨rfl, fun F ρ w act hF h ha => wpIn_exit ⟨rfl, ρ, .refl h, ha⟩⟩
  · cases hl
  · cases hl
    exact ⟨rfl, fun F ρ w act hF h ha => wpIn_label ⟨rfl, ρ, .refl h, ha⟩⟩
  · cases hl
  · cases hl
    exact ⟨rfl, fun F ρ w act hF h ha => wpIn_ret ⟨rfl, ρ, .refl h, ha⟩⟩
  · cases hl

include hC in
/-- **THE ABSTRACT MACHINE IS RIGHT.** -/
theorem all_sound : ∀ n, CSound C (ev C n) ∧ FSound C (ev C n) ∧ RSound C (ev C n) := by
  intro n
  induction n using Nat.strongRecOn with
  | _ n ih =>
    cases n with
    | zero => exact ⟨fun c a σ e a' σ' h => (by cases h), fun f args σ v σ' h => (by cases h), fun l args σ v σ' h => (by cases h)⟩
    | succ n =>
      obtain ⟨h1, h2, h3⟩ := ih n (Nat.lt_succ_self _)
      exact ⟨code_sound hC (fun k hk => (ih k (Nat.lt_succ_of_le hk)).1) h2 h3, func_sound hC h1, round_sound h1⟩

include hC in
/-- A function called, in the model. -/
theorem calls_sound {n : Nat} {f : FuncId} {args : List AV} {v : AV} {σ' : St} (hl : (ev C n).f f args σ = some (v, σ')) (h : Rep ρ σ w) {args' : Array Value} (ha : VRs ρ args args'.toList) (hS : C.S f = none) :
    Calls C.P f args' w (RetR ρ σ w v σ') := ((all_sound hC n).2.1 _ _ _ _ _ hl _ _ _ h ha).2 hS |>.2
end code
end Go.Abs
