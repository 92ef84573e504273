/-
  RANGES OVER FUNCTIONS, AND THEIR ROUNDS, in continuation style.
-/
import Derived.Test.YthpaljelbkclbaaDoorPT
namespace Go.Abs
open Go
section
variable (C : Cfg)
theorem eqState_busy : eqState .ready .busy = false := rfl
/-- A range over a function whose call is known. -/
theorem run_range {β : Type} {f : Operand} {ps : Array Tmp} {as b : Code} {t : List AV} {ds : List Nat} {K : Exit → AAct → St → Option β} {σ σ' : St} {g : FuncId} {first cap : List AV} {v : AV} {q : ALoop}
    (hf : evT t f = some (.fn g first cap)) (hS : C.S g = none)
    (hc : (W C).f g (first ++ .yield (σ.next + 1) :: cap) ((σ.push .deferred).push (.loop { state := .ready, pending := none, tmps := t, params := ps.toList, assign := as, body := b, defers := σ.next })) = some (v, σ'))
    (hl : σ'.get (σ.next + 1) = some (.loop q)) (hq : q.state = .ready) (hp : q.pending = none) :
    run C (.rangeFunc f ps as b) ⟨t, ds, false⟩ K σ = K .normal ⟨t, σ.next :: ds, false⟩ (σ'.set (σ.next + 1) (.loop (q.to .exhausted none))) := by
  unfold run
  rw [W_c]
  have : stepC C (W C) (.rangeFunc f ps as b) ⟨t, ds, false⟩ σ = some (.normal, ⟨t, σ.next :: ds, false⟩, σ'.set (σ.next + 1) (.loop (q.to .exhausted none))) := by
    show stepRange C (W C) f ps as b ⟨t, ds, false⟩ σ = _
    unfold stepRange
    simp only [hf, hS, boolC, St.pushK_eq]
    show rangeEnd (W C) (σ.next + 1) σ.next _ ((W C).f g _ _) = _
    rw [lapp_eq, St.next_push, hc]
    unfold rangeEnd loopAt
    simp only [hl, hq, eqState, boolC, hp, St.setK_eq]
  rw [this]
  rfl
theorem run_range_ex {β : Type} (Q : Option β → Prop) {f : Operand} {ps : Array Tmp} {as b : Code} {t : List AV} {ds : List Nat} {K : Exit → AAct → St → Option β} {σ : St} {g : FuncId} {first cap : List AV}
    (hf : evT t f = some (.fn g first cap)) (hS : C.S g = none)
    (H : ∀ lp : ALoop, lp.state = .ready → lp.pending = none → lp.tmps = t → lp.params = ps.toList → lp.assign = as → lp.body = b → ∃ v σ' q, (W C).f g (first ++ .yield (σ.next + 1) :: cap) ((σ.push .deferred).push (.loop lp)) = some (v, σ') ∧
      σ'.get (σ.next + 1) = some (.loop q) ∧ q.state = .ready ∧ q.pending = none ∧ Q (K .normal ⟨t, σ.next :: ds, false⟩ (σ'.set (σ.next + 1) (.loop (q.to .exhausted none))))) :
    Q (run C (.rangeFunc f ps as b) ⟨t, ds, false⟩ K σ) := by
  obtain ⟨v, σ', q, hc, hl, hq, hp, hQ⟩ := H { state := .ready, pending := none, tmps := t, params := ps.toList, assign := as, body := b, defers := σ.next } rfl rfl rfl rfl rfl rfl
  rw [run_range C hf hS hc hl hq hp]
  exact hQ
/-- The end of a round's body. -/
noncomputable def endK (l : Nat) (e : Exit) (a : AAct) (σ : St) : ResF := roundEnd l (some (e, a, σ))
noncomputable def roundK (l : Nat) (body : Code) (e : Exit) (a : AAct) (σ : St) : ResF := match e with
  | .normal => match loopAt σ l with
    | some q => bif eqState q.state .ready then run C body a (endK l) (σ.set l (.loop (q.to .busy q.pending))) else none
    | none => none
  | _ => none
theorem W_round {l : Nat} {args : List AV} {σ : St} {r : ALoop} (hl : σ.get l = some (.loop r)) (hn : args.length = r.params.length) :
    (W C).r l args σ = run C r.assign ⟨setMany r.params args r.tmps, [], true⟩ (roundK C l r.body) σ := by
  rw [W_r]
  unfold stepR loopAt
  have hb : Nat.beq (llen args) (llen r.params) = true := by rw [llen_eq, llen_eq, hn]; simp
  simp only [hl, hb, boolC, forceL_eq]
  unfold run
  cases h : (W C).c r.assign ⟨setMany r.params args r.tmps, [], true⟩ σ with
  | none => rfl
  | some p =>
    obtain ⟨e, a, σ'⟩ := p
    show roundBody (W C) l r.body (some (e, a, σ')) = roundK C l r.body e a σ'
    unfold roundBody roundK
    cases e with
    | normal =>
      simp only []
      cases loopAt σ' l with
      | none => rfl
      | some q =>
        simp only [St.setK_eq, boolC_eq]
        cases eqState q.state .ready with
        | false => rfl
        | true =>
          simp only [cond_true]
          unfold run
          cases (W C).c r.body a (σ'.set l (.loop (q.to .busy q.pending))) with
          | none => rfl
          | some p => rfl
    | _ => rfl
theorem W_round' {l : Nat} {args : List AV} {σ : St} {r : ALoop} (hl : σ.get l = some (.loop r)) {as b : Code} {ps : List Tmp} {t t' : List AV} (ha : r.assign = as) (hb : r.body = b) (hp : r.params = ps) (ht : r.tmps = t) (hn : args.length = ps.length)
    (hs : setMany ps args t = t') : (W C).r l args σ = run C as ⟨t', [], true⟩ (roundK C l b) σ := by
  subst ha hb hp ht hs
  exact W_round C hl hn
theorem roundK_normal {l : Nat} {body : Code} {a : AAct} {σ : St} {q : ALoop} (h : σ.get l = some (.loop q)) (hq : q.state = .ready) :
    roundK C l body .normal a σ = run C body a (endK l) (σ.set l (.loop (q.to .busy q.pending))) := by
  unfold roundK loopAt
  simp only [h, hq]
  rfl
theorem endK_normal {l : Nat} {t : List AV} {σ : St} {q : ALoop} (h : σ.get l = some (.loop q)) : endK l .normal ⟨t, [], true⟩ σ = some (.bool true, σ.set l (.loop (q.to .ready none))) := by
  unfold endK roundEnd endRound loopAt
  simp only [h, St.setK_eq]
theorem setMany_one (p : Tmp) (v : AV) (n : Nat) (η : Env) : setMany [p] [v] (mat n η) = mat n ((p, v) :: η) := by
  show (mat n η).set p v = _
  rw [set_mat]
theorem leaveK_ret1 (fn : Func) (t : List AV) (r : Bool) (σ : St) (d : Nat) (h : σ.get d = some .deferred) : leaveK C fn .ret ⟨t, [d], r⟩ σ = withSt (σ.set d .dead) (aResults C (σ.set d .dead) t fn) := by
  unfold leaveK killAll
  simp only [h, St.setK_eq]
theorem leaveK_normal1 (fn : Func) (t : List AV) (r : Bool) (σ : St) (d : Nat) (h : σ.get d = some .deferred) : leaveK C fn .normal ⟨t, [d], r⟩ σ = withSt (σ.set d .dead) (aResults C (σ.set d .dead) t fn) := by
  unfold leaveK killAll
  simp only [h, St.setK_eq]
end
end Go.Abs
