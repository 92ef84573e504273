/-
  THE ABSTRACT MACHINE IS RIGHT, 9: calls; regions in the order of the text.
-/
import Derived.Test.YthpaljelbkclbaaDoorAbsOp7
import Derived.TacticsIn
import Derived.RangeFuncLeaves
namespace Go.Abs
open Go

/-- How a call ends: it returns what v stands for, and the store is σ' then. -/
def RetR (ρ : Pl) (σ : St) (w : World) (v : AV) (σ' : St) (e : Ending) (w' : World) : Prop := ∃ x ρ', e = .returned x ∧ Step ρ σ w ρ' σ' w' ∧ VR ρ' v x

/-- A function called: it is entered and returns, or it yields at once. -/
def CallR (P : Program) (f : FuncId) (args : Array Value) (w : World) (ρ : Pl) (σ : St) (v : AV) (σ' : St) : Prop :=
  ((callFunc f args).run P w = .ok (.enter f args) w ∧ Calls P f args w (RetR ρ σ w v σ')) ∨
    ∃ x w' ρ', (callFunc f args).run P w = .ok (.value x) w' ∧ Step ρ σ w ρ' σ' w' ∧ VR ρ' v x

/-- The configuration speaks of the program. -/
structure CfgOK (C : Cfg) : Prop where
  hT : TRel C.P C.T
  hE : ∀ t ∈ C.E, EqOK C.P C.T t
  hF : ∀ f fn, C.F f = some fn → C.P.funcs[f]? = some fn ∧ (fn.name == "runtime.NumGoroutine") = false
  hM : C.P.follows .mixedOrders = true
  hS : ∀ f s, C.S f = some s → ∀ args σ v σ', s args σ = some (v, σ') → ∀ ρ w (args' : Array Value), Rep ρ σ w → VRs ρ args args'.toList → CallR C.P f args' w ρ σ v σ'

def FSound (C : Cfg) (ih : Evs) : Prop := ∀ f args σ v σ', ih.f f args σ = some (v, σ') → ∀ ρ w (args' : Array Value), Rep ρ σ w → VRs ρ args args'.toList →
  CallR C.P f args' w ρ σ v σ' ∧ (C.S f = none → (callFunc f args').run C.P w = .ok (.enter f args') w ∧ Calls C.P f args' w (RetR ρ σ w v σ'))

def RSound (C : Cfg) (ih : Evs) : Prop := ∀ l args σ v σ', ih.r l args σ = some (v, σ') → ∀ ρ w (args' : Array Value) b sz, Rep ρ σ w → ρ l = some (b, 0, sz) → VRs ρ args args'.toList →
  ∃ fn tmps assign body, (Instr.yield b args').run C.P w = .ok (.round b fn tmps assign body) w ∧ RoundIn Fence.wide 0 C.P b fn tmps assign body w (RetR ρ σ w v σ')

/-- The fences that are spoken of: an activation of a function's, a round's. -/
def FOK (F : Fence) (r : Bool) : Prop := (F = Fence.wide ∧ r = false) ∨ ∃ l, F = Fence.wide.inRound l ∧ r = true

theorem FOK.fn {F : Fence} {r : Bool} (h : FOK F r) (f : FuncId) : F.fn f := by
  rcases h with ⟨rfl, _⟩ | ⟨l, rfl, _⟩ <;> trivial
theorem FOK.depth {F : Fence} {r : Bool} (h : FOK F r) : F.depth = none := by
  rcases h with ⟨rfl, _⟩ | ⟨l, rfl, _⟩ <;> rfl
theorem FOK.calls {F : Fence} {r : Bool} (h : FOK F r) {P : Program} {f : FuncId} {args : Array Value} {w : World} {R : Ending → World → Prop} (n : Nat) (hc : Calls P f args w R) : CallsIn F n P f args w R := by
  have := callsIn_wide (n := n).2 hc
  rcases h with ⟨rfl, _⟩ | ⟨l, rfl, _⟩ <;> exact this
theorem FOK.round {F : Fence} {r : Bool} (h : FOK F r) {P : Program} {l : Nat} {f : FuncId} {tmps : Array Value} {assign body : Code} {w : World} {R : Ending → World → Prop} {n m : Nat}
    (hc : RoundIn Fence.wide n P l f tmps assign body w R) : RoundIn F m P l f tmps assign body w R := by
  have : RoundIn Fence.wide m P l f tmps assign body w R := ⟨trivial, fun c cs _ => hc.2 c cs (room_wide _)⟩
  rcases h with ⟨rfl, _⟩ | ⟨l, rfl, _⟩ <;> exact this

section calls
variable {C : Cfg} (hC : CfgOK C) {ih : Evs} (hf : FSound C ih) (hr : RSound C ih) {ρ : Pl} {σ : St} {w : World}

include hC hf hr in
/-- One operation, a call or none. -/
theorem oper_sound (h : Rep ρ σ w) {tmps : List AV} {act : Act} {o : Oper} (ht : OT ρ tmps act o.op) {v : AV} {σ' : St} (hl : stepOp C ih o.op tmps σ = some (v, σ')) {F : Fence} {r : Bool} (hF : FOK F r)
    {next : Act → World → Prop} {Q : Exit → Act → World → Prop} (hn : ∀ x w' ρ', Step ρ σ w ρ' σ' w' → VR ρ' v x → next (act.put o.dst x) w') : o.wpIn F 0 C.P act w next Q := by
  refine ⟨fun f _ => hF.fn f, ?_⟩
  have hplain : ∀ (hl : aOp C.T C.E tmps o.op σ = some (v, σ')), o.uponIn F 0 C.P act next Q ((o.semAt F.round act.eval).run C.P w) := by
    intro hl
    have hnd : ∀ c, o.op ≠ .defer c := by
      intro c hc; rw [hc] at hl; cases hl
    rw [Oper.semAt_eq _ _ _ hnd]
    obtain ⟨nx, w', ρ', x, hrun, hst, hv, hnx⟩ := op_sound (P := C.P) hC.hT hC.hE h ht hl
    rw [hrun]
    rcases hnx with rfl | ⟨rfl, rfl⟩
    · exact hn _ _ _ hst hv
    · exact hn _ _ _ hst hv
  unfold stepOp at hl
  split at hl
  · rename_i c hop
    unfold stepCall at hl
    split at hl
    · rename_i f hcal
      rw [Oper.semAt_eq _ _ _ (by rw [hop]; simp)]
      split at hl
      · rename_i f' hf'
        split at hl
        · rename_i args hargs
          have hfv : VR ρ f' (act.eval f) := ht f (by rw [hop]; simp [Op.operands, Call.operands, hcal]) _ hf'
          have hav : VRs ρ args (c.args.map act.eval).toList := evs_arr (OL.sub ht (by rw [hop]; simp [Op.operands, Call.operands]; intro x hx; simp [hx])) hargs
          unfold callV at hl
          split at hl
          · rename_i g first cap
            generalize hfe : act.eval f = fv at hfv
            cases hfv with
            | fn h1 h2 =>
            rename_i first' cap'
            have hex : (execOp act.eval o).run C.P w = (callFunc g (first' ++ c.args.map act.eval ++ cap')).run C.P w := by
              unfold execOp
              rw [hop]
              simp only [resolve, hcal, Sem.run_bind, hfe, Deferred.ofValue, Sem.run_pure, Result.andThen_ok, invoke]
            have hall : VRs ρ (lapp first (lapp args cap)) (first' ++ c.args.map act.eval ++ cap').toList := by
              rw [lapp_eq, lapp_eq, Array.toList_append, Array.toList_append, List.append_assoc]
              exact h1.append (hav.append h2)
            rw [hex]
            rcases (hf _ _ _ _ _ hl ρ w _ h hall).1 with ⟨hrun, hcalls⟩ | ⟨x, w', ρ', hrun, hst, hv⟩
            · rw [hrun, Oper.uponIn_enter]
              refine ⟨fun hd => (by rw [hF.depth] at hd; cases hd), (hF.calls _ hcalls).mono ?_⟩
              rintro e w' ⟨x, ρ', rfl, hst, hv⟩
              exact hn _ _ _ hst hv
            · rw [hrun]
              exact hn _ _ _ hst hv
          · rename_i l
            generalize hfe : act.eval f = fv at hfv
            cases hfv with
            | yield hρ =>
            rename_i b sz
            obtain ⟨fn, tm, assign, body, hrun, hround⟩ := hr _ _ _ _ _ hl ρ w _ b sz h hρ hav
            have hex : (execOp act.eval o).run C.P w = (Instr.yield b (c.args.map act.eval)).run C.P w := by
              unfold execOp
              rw [hop]
              simp only [resolve, hcal, Sem.run_bind, hfe, Deferred.ofValue, Sem.run_pure, Result.andThen_ok, invoke]
              simp
            rw [hex, hrun, Oper.uponIn_round]
            refine ⟨fun hd => (by rw [hF.depth] at hd; cases hd), (hF.round hround).mono ?_⟩
            rintro e w' ⟨x, ρ', rfl, hst, hv⟩
            exact hn _ _ _ hst hv
          · cases hl
        · cases hl
      · cases hl
    · refine hplain ?_
      rw [hop]; exact hl
    · cases hl
  · exact hplain hl

theorem wanted_eq {ops : Array Oper} {o : Oper} {tmps : List AV} {act : Act} (ht : ∀ j want, o.guard = some (j, want) → ∀ g d, ops[j]? = some g → g.dst = some d → VR ρ (tmps.getD d .undef) (act.tmps.getD d undef)) :
    wantedA ops.toList o tmps = Region.wanted o (yielded ops act.tmps) := by
  unfold wantedA Region.wanted
  cases hg : o.guard with
  | none => rfl
  | some p =>
    obtain ⟨j, want⟩ := p
    have ht := ht j want hg
    simp only
    unfold yieldedA yielded
    rw [ldrop_eq]
    cases hj : ops[j]? with
    | none =>
      have : ops.toList.drop j = [] := by
        apply List.drop_eq_nil_of_le
        simpa using hj
      rw [this]; rfl
    | some g =>
      have hd : ops.toList.drop j = g :: ops.toList.drop (j + 1) := by
        obtain ⟨hlt, he⟩ := Array.getElem?_eq_some_iff.1 hj
        rw [List.drop_eq_getElem_cons (by simpa using hlt)]
        simp [he]
      rw [hd]
      simp only [Option.bind_some]
      cases hgd : g.dst with
      | none => rfl
      | some d =>
        have hv := ht g d hj hgd
        simp only [Option.bind_some, lget_eq]
        generalize tmps.getD d .undef = v at hv
        have hx : act.tmps.getD d undef = (act.tmps[d]?).getD undef := by simp
        rw [hx] at hv
        cases hd' : act.tmps[d]? with
        | none =>
          rw [hd'] at hv
          simp only [Option.getD_none] at hv
          cases hv; rfl
        | some x =>
          rw [hd'] at hv
          simp only [Option.getD_some] at hv
          cases hv with
          | bool b => simp only [eqBool_eq]; cases b <;> cases want <;> rfl
          | _ => rfl

theorem TR.put {tmps : List AV} {act : Act} (ht : TR ρ tmps act) (d : Option Tmp) {v : AV} {x : Value} (hv : VR ρ v x) {a : AAct} (ha : a.tmps = tmps) : TR ρ (a.put d v).tmps (act.put d x) := by
  cases d with
  | none => subst ha; exact ht
  | some d =>
    subst ha
    show VRs ρ (a.tmps.set d v) (act.tmps.setIfInBounds d x).toList
    rw [Array.toList_setIfInBounds]
    exact VRs.set ht d hv

theorem put_rest (a : AAct) (d : Option Tmp) (v : AV) : (a.put d v).defers = a.defers ∧ (a.put d v).inRound = a.inRound := by cases d <;> exact ⟨rfl, rfl⟩
theorem aput_rest (act : Act) (d : Option Tmp) (v : Value) : (act.put d v).defers = act.defers := by cases d <;> rfl

/-- The marks of the ranges over functions. -/
inductive DR (ρ : Pl) : List Nat → List Deferred → Prop
  | nil : DR ρ [] []
  | cons {id b sz : Nat} {l : List Nat} {r : List Deferred} (h : ρ id = some (b, 0, sz)) (t : DR ρ l r) : DR ρ (id :: l) ({ target := .collected b, args := #[] } :: r)

theorem DR.mono {ρ ρ' : Pl} (hle : Pl.le ρ ρ') {l : List Nat} {r : List Deferred} (h : DR ρ l r) : DR ρ' l r := by
  induction h with
  | nil => exact .nil
  | cons h _ ih => exact .cons (hle _ _ h) ih

/-- An activation stands for the model's. -/
structure AR (ρ : Pl) (a : AAct) (act : Act) : Prop where
  tmps : TR ρ a.tmps act
  defers : DR ρ a.defers act.defers

theorem AR.mono {ρ ρ' : Pl} (hle : Pl.le ρ ρ') {a : AAct} {act : Act} (h : AR ρ a act) : AR ρ' a act := ⟨VRs.mono hle h.tmps, h.defers.mono hle⟩
theorem AR.put {a : AAct} {act : Act} (h : AR ρ a act) (d : Option Tmp) {v : AV} {x : Value} (hv : VR ρ v x) : AR ρ (a.put d v) (act.put d x) :=
  ⟨TR.put h.tmps d hv rfl, by rw [(put_rest a d v).1, aput_rest]; exact h.defers⟩

theorem TR.getD {tmps : List AV} {act : Act} (h : TR ρ tmps act) (d : Nat) : VR ρ (tmps.getD d .undef) (act.tmps.getD d undef) := by
  rw [show act.tmps.getD d undef = act.tmps.toList.getD d undef from by simp [List.getD_eq_getElem?_getD]]
  exact VRs.getD h d

/-- How code ends: e, and the activation and the store are as said. -/
def PostC (ρ : Pl) (σ : St) (w : World) (e : Exit) (a' : AAct) (σ' : St) (e' : Exit) (act' : Act) (w' : World) : Prop := e' = e ∧ ∃ ρ', Step ρ σ w ρ' σ' w' ∧ AR ρ' a' act'

theorem stepOps_cons (C : Cfg) (ih : Evs) (ops : List Oper) (o : Oper) (l : List Oper) (a : AAct) (σ : St) : stepOps C ih ops (o :: l) a σ =
    boolC (putK a o.dst .undef fun a' => stepOps C ih ops l a' σ) (match stepOp C ih o.op a.tmps σ with
      | some (v, σ') => putK a o.dst v fun a' => stepOps C ih ops l a' σ'
      | none => none) (wantedA ops o a.tmps) := rfl

include hC hf hr in
theorem text_sound {ops : Array Oper} {F : Fence} {r : Bool} (hF : FOK F r) : ∀ (l : List Oper) {a : AAct} {act : Act} {ρ : Pl} {σ : St} {w : World} {e : Exit} {a' : AAct} {σ' : St} {ρ0 : Pl} {σ0 : St} {w0 : World},
    Step ρ0 σ0 w0 ρ σ w → AR ρ a act → stepOps C ih ops.toList l a σ = some (e, a', σ') → a'.inRound = a.inRound ∧ wpListIn F 0 C.P ops (PostC ρ0 σ0 w0 e a' σ') l act w
  | [], a, act, ρ, σ, w, e, a', σ', ρ0, σ0, w0, h, ha, hl => by cases hl; exact ⟨rfl, rfl, ρ, h, ha⟩
  | o :: l, a, act, ρ, σ, w, e, a', σ', ρ0, σ0, w0, h, ha, hl => by
    rw [stepOps_cons] at hl
    have hw : wantedA ops.toList o a.tmps = Region.wanted o (yielded ops act.tmps) := wanted_eq (ρ := ρ) fun j want _ g d _ _ => ha.tmps.getD d
    unfold wpListIn
    rw [hw] at hl
    cases hwt : Region.wanted o (yielded ops act.tmps)
    · rw [hwt, boolC_false, putK_eq] at hl
      rw [if_neg (by simp)]
      obtain ⟨h1, h2⟩ := text_sound hF l h (ha.put o.dst VR.undef) hl
      exact ⟨h1.trans (put_rest _ _ _).2, fun f _ => hF.fn f, h2⟩
    · rw [hwt, boolC_true] at hl
      rw [if_pos rfl]
      split at hl
      · rename_i v σ1 hs
        rw [putK_eq] at hl
        have hin : a'.inRound = a.inRound := by
          have : ∀ (l : List Oper) (a : AAct) (σ : St), stepOps C ih ops.toList l a σ = some (e, a', σ') → a'.inRound = a.inRound := by
            intro l
            induction l with
            | nil => intro a σ hl; cases hl; rfl
            | cons o l ih' =>
              intro a σ hl
              rw [stepOps_cons] at hl
              cases hwt : wantedA ops.toList o a.tmps
              · rw [hwt, boolC_false, putK_eq] at hl
                exact (ih' _ _ hl).trans (put_rest _ _ _).2
              · rw [hwt, boolC_true] at hl
                split at hl
                · rw [putK_eq] at hl
                  exact (ih' _ _ hl).trans (put_rest _ _ _).2
                · cases hl
          exact (this _ _ _ hl).trans (put_rest _ _ _).2
        refine ⟨hin, oper_sound hC hf hr h.rep (OT.of ha.tmps _) hs hF fun x w' ρ' hst hv => ?_⟩
        exact (text_sound hF l (h.trans hst) ((ha.mono hst.le).put o.dst hv) hl).2
      · cases hl
end calls
end Go.Abs
