/-
  THE EVALUATOR WITHOUT FUEL: what 'ev' comes to with as much fuel as is needed; it solves its own equation.
-/
import Derived.Test.YthpaljelbkclbaaDoorAbsCtl4
namespace Go.Abs
open Go

def Le (a b : Evs) : Prop :=
  (∀ c x σ r, a.c c x σ = some r → b.c c x σ = some r) ∧ (∀ f l σ r, a.f f l σ = some r → b.f f l σ = some r) ∧ (∀ l as σ r, a.r l as σ = some r → b.r l as σ = some r)

theorem Le.refl (a : Evs) : Le a a := ⟨fun _ _ _ _ h => h, fun _ _ _ _ h => h, fun _ _ _ _ h => h⟩
theorem Le.trans {a b c : Evs} (h : Le a b) (h' : Le b c) : Le a c :=
  ⟨fun _ _ _ _ k => h'.1 _ _ _ _ (h.1 _ _ _ _ k), fun _ _ _ _ k => h'.2.1 _ _ _ _ (h.2.1 _ _ _ _ k), fun _ _ _ _ k => h'.2.2 _ _ _ _ (h.2.2 _ _ _ _ k)⟩

def Up (e : Nat → Evs) : Prop := ∀ n, Le (e n) (e (n + 1))

theorem Up.le {e : Nat → Evs} (h : Up e) {n m : Nat} (hm : n ≤ m) : Le (e n) (e m) := by
  induction m with
  | zero => rw [Nat.le_zero.1 hm]; exact .refl _
  | succ m ih =>
    rcases Nat.lt_or_eq_of_le hm with h' | h'
    · exact (ih (Nat.le_of_lt_succ h')).trans (h m)
    · rw [h']; exact .refl _

noncomputable def supO {α : Type} (g : Nat → Option α) : Option α := g (@Classical.epsilon Nat ⟨0⟩ fun n => ∃ r, g n = some r)

theorem supO_eq {α : Type} {g : Nat → Option α} (hm : ∀ n m, n ≤ m → ∀ r, g n = some r → g m = some r) (r : α) : supO g = some r ↔ ∃ n, g n = some r := by
  constructor
  · intro h; exact ⟨_, h⟩
  · rintro ⟨n, hn⟩
    obtain ⟨r', hr'⟩ : ∃ r, supO g = some r := Classical.epsilon_spec (p := fun n => ∃ r, g n = some r) ⟨n, r, hn⟩
    have h1 := hm _ (max n (@Classical.epsilon Nat ⟨0⟩ fun n => ∃ r, g n = some r)) (Nat.le_max_left _ _) _ hn
    have h2 := hm _ (max n (@Classical.epsilon Nat ⟨0⟩ fun n => ∃ r, g n = some r)) (Nat.le_max_right _ _) _ hr'
    rw [h1] at h2; cases h2; exact hr'

noncomputable def sup (e : Nat → Evs) : Evs := { c := fun c a σ => supO fun n => (e n).c c a σ, f := fun f l σ => supO fun n => (e n).f f l σ, r := fun l as σ => supO fun n => (e n).r l as σ }

theorem sup_c {e : Nat → Evs} (h : Up e) {c : Code} {a : AAct} {σ : St} {r : Exit × AAct × St} : (sup e).c c a σ = some r ↔ ∃ n, (e n).c c a σ = some r :=
  supO_eq (g := fun n => (e n).c c a σ) (fun _ _ hm _ hr => (h.le hm).1 _ _ _ _ hr) r
theorem sup_f {e : Nat → Evs} (h : Up e) {f : FuncId} {l : List AV} {σ : St} {r : AV × St} : (sup e).f f l σ = some r ↔ ∃ n, (e n).f f l σ = some r :=
  supO_eq (g := fun n => (e n).f f l σ) (fun _ _ hm _ hr => (h.le hm).2.1 _ _ _ _ hr) r
theorem sup_r {e : Nat → Evs} (h : Up e) {l : Nat} {as : List AV} {σ : St} {r : AV × St} : (sup e).r l as σ = some r ↔ ∃ n, (e n).r l as σ = some r :=
  supO_eq (g := fun n => (e n).r l as σ) (fun _ _ hm _ hr => (h.le hm).2.2 _ _ _ _ hr) r

/-- More fuel, the same; and what comes to something with all fuel, comes to it with some. -/
def Cont {α : Type} (φ : Evs → Option α) : Prop :=
  (∀ a b, Le a b → ∀ r, φ a = some r → φ b = some r) ∧ ∀ e : Nat → Evs, Up e → ∀ r, φ (sup e) = some r → ∃ n, φ (e n) = some r

theorem Cont.const {α : Type} (x : Option α) : Cont fun _ => x := ⟨fun _ _ _ _ h => h, fun _ _ _ h => ⟨0, h⟩⟩

theorem Cont.bind {α β : Type} {φ : Evs → Option α} {ψ : Evs → Option α → Option β} (h : Cont φ) (hs : ∀ x, Cont fun e => ψ e (some x)) (hn : ∀ e, ψ e none = none) : Cont fun e => ψ e (φ e) := by
  refine ⟨fun a b hab r hr => ?_, fun e he r hr => ?_⟩
  · simp only at hr ⊢
    cases hx : φ a with
    | none => rw [hx, hn] at hr; cases hr
    | some x =>
      rw [hx] at hr
      rw [h.1 a b hab x hx]
      exact (hs x).1 a b hab r hr
  · simp only at hr
    cases hx : φ (sup e) with
    | none => rw [hx, hn] at hr; cases hr
    | some x =>
      rw [hx] at hr
      obtain ⟨n, h1⟩ := h.2 e he x hx
      obtain ⟨m, h2⟩ := (hs x).2 e he r hr
      refine ⟨max n m, ?_⟩
      simp only
      rw [h.1 _ _ (he.le (Nat.le_max_left n m)) x h1]
      exact (hs x).1 _ _ (he.le (Nat.le_max_right n m)) r h2

theorem Cont.c (c : Code) (a : AAct) (σ : St) : Cont fun e => e.c c a σ := ⟨fun _ _ h r hr => h.1 _ _ _ _ hr, fun _ he _ hr => (sup_c he).1 hr⟩
theorem Cont.f (f : FuncId) (l : List AV) (σ : St) : Cont fun e => e.f f l σ := ⟨fun _ _ h r hr => h.2.1 _ _ _ _ hr, fun _ he _ hr => (sup_f he).1 hr⟩
theorem Cont.r (l : Nat) (as : List AV) (σ : St) : Cont fun e => e.r l as σ := ⟨fun _ _ h r hr => h.2.2 _ _ _ _ hr, fun _ he _ hr => (sup_r he).1 hr⟩

theorem Cont.bool {α : Type} {φ ψ : Evs → Option α} (h : Cont φ) (h' : Cont ψ) (b : Bool) : Cont fun e => boolC (φ e) (ψ e) b := by
  cases b
  · exact h
  · exact h'

section steps
variable (C : Cfg)

theorem cont_callV (f : AV) (args : List AV) (σ : St) : Cont fun e => callV e f args σ := by
  unfold callV
  split
  · exact .f _ _ _
  · exact .r _ _ _
  · exact .const _

theorem cont_stepOp (o : Op) (tmps : List AV) (σ : St) : Cont fun e => stepOp C e o tmps σ := by
  unfold stepOp
  split
  · unfold stepCall
    split
    · split
      · split
        · exact cont_callV _ _ _
        · exact .const _
      · exact .const _
    · exact .const _
    · exact .const _
  · exact .const _

theorem cont_stepOps (ops : List Oper) : ∀ (l : List Oper) (a : AAct) (σ : St), Cont fun e => stepOps C e ops l a σ
  | [], a, σ => .const _
  | o :: l, a, σ => by
    simp only [stepOps_cons, putK_eq]
    refine .bool (cont_stepOps ops l _ _) ?_ _
    refine Cont.bind (ψ := fun e r => match r with
      | some (v, σ') => stepOps C e ops l (a.put o.dst v) σ'
      | none => none) (cont_stepOp C _ _ _) (fun x => cont_stepOps ops l _ _) (fun _ => rfl)

theorem cont_drawOne (i mask : Nat) (o : Oper) (D : Draw) (tmps : List AV) (σ : St) {k : Evs → AV → St → Draw → Res} (hk : ∀ v s d, Cont fun e => k e v s d) : Cont fun e => drawOne C e i mask o D tmps σ (k e) := by
  unfold drawOne
  refine Cont.bind (ψ := fun e r => match r with
    | none => none
    | some (v, σ') =>
      forceAV v fun v => match opClass o.op with
      | 0 => k e v σ D
      | 1 => boolC none (k e v σ { loud := D.loud, reads := { at_ := i, op := o.op, tmps := tmps, val := v } :: D.reads, news := D.news }) (Nat.beq σ'.next σ.next && readEarly C o.op tmps v mask D.loud)
      | _ => boolC none (k e v σ' { loud := (i, σ) :: D.loud, reads := D.reads, news := D.news }) (allLoudIn mask D.loud && readLate C σ' mask D.reads && allFresh σ' mask D.news)) (cont_stepOp C _ _ _) (fun x => ?_) (fun _ => rfl)
  obtain ⟨v, σ'⟩ := x
  simp only [forceAV_eq]
  split
  · exact hk _ _ _
  · exact .bool (.const _) (hk _ _ _) _
  · exact .bool (.const _) (hk _ _ _) _

theorem cont_drawOps (ops : List Oper) : ∀ (l : List Oper) (i : Nat) (ms : List Nat) (D : Draw) (a : AAct) (σ : St), Cont fun e => drawOps C e ops l i ms D a σ
  | [], i, ms, D, a, σ => .const _
  | o :: l, i, ms, D, a, σ => by
    simp only [drawOps_cons]
    split
    · exact .const _
    split
    · simp only [putK_eq]; exact .bool (.const _) (cont_drawOps ops l _ _ _ _ _) _
    · simp only [putK_eq]
      refine .bool (cont_drawOps ops l _ _ _ _ _) ?_ _
      exact cont_drawOne C i _ o D a.tmps σ (k := fun e v σ' D' => drawOps C e ops l (i + 1) _ D' (a.put o.dst v) σ') fun v s d => cont_drawOps ops l _ _ _ _ _

theorem cont_hoistK (ops : List Oper) (σ0 : St) : ∀ (l : List Oper) (i : Nat) (t : List AV) (σ : St) {k : Evs → List (Nat × Nat × List AV × Option (Nat × Nat)) → St → Res}, (∀ n s, Cont fun e => k e n s) → Cont fun e => hoistK C ops σ0 l i t σ (k e)
  | [], i, t, σ, k, hk => hk _ _
  | o :: l, i, t, σ, k, hk => by
    have e : ∀ k, hoistK C ops σ0 (o :: l) i t σ k = match boolC none (layOf C.T t o) (hoistable ops i o) with
      | some (cs, d) => σ.pushK (.cells cs 0 false) fun σ' => hoistK C ops σ0 l (i + 1) (putL t o.dst (newVal σ.next d)) σ' (fun l σ'' => k ((i, σ.next, cs, d) :: l) σ'')
      | none => hoistK C ops σ0 l (i + 1) (putL t o.dst (quietV C ops o t σ0)) σ k := fun _ => rfl
    simp only [e]
    split
    · simp only [St.pushK_eq]
      exact cont_hoistK ops σ0 l _ _ _ (k := fun e l σ'' => k e ((i, σ.next, _, _) :: l) σ'') fun n s => hk _ _
    · exact cont_hoistK ops σ0 l _ _ _ hk

theorem cont_drawC (ops : List Oper) (a : AAct) (σ : St) : Cont fun e => drawC C e ops a σ := by
  unfold drawC
  refine .bool (.const _) ?_ _
  exact cont_hoistK C ops σ ops 0 a.tmps σ (k := fun e news σ' => boolC none (drawOps C e ops ops 0 (masksOf ops) { loud := [], reads := [], news := news } a σ') (allFresh σ' 0 news)) fun n s =>
    .bool (.const _) (cont_drawOps C ops ops _ _ _ _ _) _

theorem cont_stepF (f : FuncId) (args : List AV) (σ : St) : Cont fun e => stepF C e f args σ := by
  unfold stepF
  split
  · exact .const _
  · split
    · split
      · simp only [forceL_eq]
        exact Cont.bind (ψ := fun _ r => leaveF C _ r) (.c _ _ _) (fun x => .const _) (fun _ => rfl)
      · exact .const _
    · exact .const _

theorem cont_stepR (l : Nat) (args : List AV) (σ : St) : Cont fun e => stepR e l args σ := by
  unfold stepR
  split
  · simp only [forceL_eq]
    refine .bool (.const _) ?_ _
    refine Cont.bind (ψ := fun e r => roundBody e l _ r) (.c _ _ _) (fun x => ?_) (fun _ => rfl)
    unfold roundBody
    split
    · split
      · split
        · simp only [St.setK_eq]
          refine .bool (.const _) ?_ _
          exact Cont.bind (ψ := fun _ r => roundEnd l r) (.c _ _ _) (fun x => .const _) (fun _ => rfl)
        · exact .const _
      · exact .const _
    · exact .const _
  · exact .const _

theorem cont_stepRange (f : Operand) (params : Array Tmp) (assign body : Code) (a : AAct) (σ : St) : Cont fun e => stepRange C e f params assign body a σ := by
  unfold stepRange
  refine .bool ?_ (.const _) _
  split
  · split
    · simp only [St.pushK_eq]
      refine Cont.bind (ψ := fun e r => rangeEnd e _ _ a r) (.f _ _ _) (fun x => ?_) (fun _ => rfl)
      unfold rangeEnd
      obtain ⟨v, σ1⟩ := x
      simp only
      split
      · simp only [St.setK_eq]
        refine .bool ?_ (.const _) _
        split
        · exact .const _
        · exact .c _ _ _
      · exact .const _
    · exact .const _
  · exact .const _

theorem cont_seqC (x y : Code) (a : AAct) (σ : St) : Cont fun e => seqC e y (e.c x a σ) := by
  refine Cont.bind (ψ := fun e r => seqC e y r) (.c _ _ _) (fun x => ?_) (fun _ => rfl)
  obtain ⟨e, a, σ⟩ := x
  unfold seqC
  cases e with
  | normal => exact .c _ _ _
  | _ => exact .const _

theorem cont_stepC (c : Code) (a : AAct) (σ : St) : Cont fun e => stepC C e c a σ := by
  unfold stepC
  split
  · exact .const _
  · exact .bool (cont_stepOps C _ _ _ _) (cont_drawC C _ _ _) _
  · exact cont_seqC _ _ _ _
  · unfold condC
    split
    · exact .bool (.c _ _ _) (.c _ _ _) _
    · exact .const _
  · exact Cont.bind (ψ := fun _ r => blockC _ r) (.c _ _ _) (fun x => .const _) (fun _ => rfl)
  · exact cont_seqC _ _ _ _
  · exact cont_stepRange C _ _ _ _ _ _
  all_goals exact .const _

theorem step_mono {a b : Evs} (h : Le a b) : Le (stepE C a) (stepE C b) :=
  ⟨fun c x σ r hr => (cont_stepC C c x σ).1 a b h r hr, fun f l σ r hr => (cont_stepF C f l σ).1 a b h r hr, fun l as σ r hr => (cont_stepR l as σ).1 a b h r hr⟩

theorem ev_up : Up (ev C) := by
  intro n
  induction n with
  | zero => exact ⟨fun _ _ _ _ h => (by cases h), fun _ _ _ _ h => (by cases h), fun _ _ _ _ h => (by cases h)⟩
  | succ n ih => exact step_mono C ih

/-- **THE EVALUATOR WITHOUT FUEL.** -/
noncomputable def W : Evs := sup (ev C)

theorem W_c_iff {c : Code} {a : AAct} {σ : St} {r : Exit × AAct × St} : (W C).c c a σ = some r ↔ ∃ n, (ev C n).c c a σ = some r := sup_c (ev_up C)
theorem W_f_iff {f : FuncId} {l : List AV} {σ : St} {r : AV × St} : (W C).f f l σ = some r ↔ ∃ n, (ev C n).f f l σ = some r := sup_f (ev_up C)
theorem W_r_iff {l : Nat} {as : List AV} {σ : St} {r : AV × St} : (W C).r l as σ = some r ↔ ∃ n, (ev C n).r l as σ = some r := sup_r (ev_up C)

theorem opt_ext {α : Type} {x y : Option α} (h : ∀ r, x = some r ↔ y = some r) : x = y := by
  cases x with
  | none => cases y with
    | none => rfl
    | some y => exact absurd ((h y).2 rfl) (by simp)
  | some x => exact ((h x).1 rfl).symm

theorem le_W (n : Nat) : Le (ev C n) (W C) := ⟨fun _ _ _ _ h => (W_c_iff C).2 ⟨n, h⟩, fun _ _ _ _ h => (W_f_iff C).2 ⟨n, h⟩, fun _ _ _ _ h => (W_r_iff C).2 ⟨n, h⟩⟩

/-- Its equations. -/
theorem W_c (c : Code) (a : AAct) (σ : St) : (W C).c c a σ = stepC C (W C) c a σ := by
  refine opt_ext fun r => ⟨fun h => ?_, fun h => ?_⟩
  · obtain ⟨n, hn⟩ := (W_c_iff C).1 h
    cases n with
    | zero => cases hn
    | succ n => exact (step_mono C (le_W C n)).1 _ _ _ _ hn
  · obtain ⟨n, hn⟩ := (cont_stepC C c a σ).2 _ (ev_up C) r h
    exact (W_c_iff C).2 ⟨n + 1, hn⟩

theorem W_f (f : FuncId) (l : List AV) (σ : St) : (W C).f f l σ = stepF C (W C) f l σ := by
  refine opt_ext fun r => ⟨fun h => ?_, fun h => ?_⟩
  · obtain ⟨n, hn⟩ := (W_f_iff C).1 h
    cases n with
    | zero => cases hn
    | succ n => exact (step_mono C (le_W C n)).2.1 _ _ _ _ hn
  · obtain ⟨n, hn⟩ := (cont_stepF C f l σ).2 _ (ev_up C) r h
    exact (W_f_iff C).2 ⟨n + 1, hn⟩

theorem W_r (l : Nat) (as : List AV) (σ : St) : (W C).r l as σ = stepR (W C) l as σ := by
  refine opt_ext fun r => ⟨fun h => ?_, fun h => ?_⟩
  · obtain ⟨n, hn⟩ := (W_r_iff C).1 h
    cases n with
    | zero => cases hn
    | succ n => exact (step_mono C (le_W C n)).2.2 _ _ _ _ hn
  · obtain ⟨n, hn⟩ := (cont_stepR l as σ).2 _ (ev_up C) r h
    exact (W_r_iff C).2 ⟨n + 1, hn⟩

variable {C}
/-- What it comes to, the model comes to. -/
theorem W_calls (hC : CfgOK C) {ρ : Pl} {σ : St} {w : World} {f : FuncId} {args : List AV} {v : AV} {σ' : St} (hl : (W C).f f args σ = some (v, σ')) (h : Rep ρ σ w) {args' : Array Value} (ha : VRs ρ args args'.toList)
    (hS : C.S f = none) : Calls C.P f args' w (RetR ρ σ w v σ') := by
  obtain ⟨n, hn⟩ := (W_f_iff C).1 hl
  exact calls_sound hC hn h ha hS
end steps
end Go.Abs
