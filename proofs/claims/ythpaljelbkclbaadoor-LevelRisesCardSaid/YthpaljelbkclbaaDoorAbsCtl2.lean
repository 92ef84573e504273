/-
  THE ABSTRACT MACHINE IS RIGHT, 15: how functions are left; rounds; code; the whole.
-/
import Derived.Test.YthpaljelbkclbaaDoorAbsDraw5
namespace Go.Abs
open Go

theorem PostC.trans {ρ ρ1 : Pl} {σ σ1 : St} {w w1 : World} {e : Exit} {a' : AAct} {σ' : St} (h : Step ρ σ w ρ1 σ1 w1) {e' : Exit} {act' : Act} {w' : World} (hp : PostC ρ1 σ1 w1 e a' σ' e' act' w') :
    PostC ρ σ w e a' σ' e' act' w' := by
  obtain ⟨rfl, ρ', hs, ha⟩ := hp
  exact ⟨rfl, ρ', h.trans hs, ha⟩

def CSound (C : Cfg) (ih : Evs) : Prop := ∀ c a σ e a' σ', ih.c c a σ = some (e, a', σ') → a'.inRound = a.inRound ∧
  ∀ (F : Fence) ρ w act, FOK F a.inRound → Rep ρ σ w → AR ρ a act → c.wpIn F 0 C.P (PostC ρ σ w e a' σ') act w

/-! ### a loop, counted down -/

noncomputable def least (p : Nat → Prop) : Nat := @Classical.epsilon Nat ⟨0⟩ fun n => p n ∧ ∀ m, p m → n ≤ m

theorem least_spec {p : Nat → Prop} (h : ∃ n, p n) : p (least p) ∧ ∀ m, p m → least p ≤ m := by
  have : ∃ n, p n ∧ ∀ m, p m → n ≤ m := by
    obtain ⟨n, hn⟩ := h
    induction n using Nat.strongRecOn with
    | _ n ih =>
      by_cases hm : ∃ m, m < n ∧ p m
      · obtain ⟨m, h1, h2⟩ := hm; exact ih m h1 h2
      · exact ⟨n, hn, fun m hpm => Nat.le_of_not_lt fun hlt => hm ⟨m, hlt, hpm⟩⟩
  exact Classical.epsilon_spec this

theorem wpIn_loop_down {F : Fence} {n : Nat} {P : Program} {Q : Exit → Act → World → Prop} {a : Act} {w : World} {c : Code} (I : Nat → Act → World → Prop) {j : Nat} (h₀ : I j a w)
    (round : ∀ j a w, I j a w → c.wpIn F n P (Exit.then (fun a' w' => ∃ j', j' < j ∧ I j' a' w') Q) a w) : (Code.loop c).wpIn F n P Q a w := by
  refine wpIn_loop (fun a w => ∃ j, I j a w) (fun a w => least fun j => I j a w) ⟨j, h₀⟩ fun a w hI => ?_
  refine wpIn_mono (round _ _ _ (least_spec hI).1) fun e a' w' hq => ?_
  cases e with
  | normal =>
    obtain ⟨j', hlt, hj'⟩ := hq
    exact ⟨⟨j', hj'⟩, Nat.lt_of_le_of_lt ((least_spec ⟨j', hj'⟩).2 _ hj') hlt⟩
  | _ => exact hq

section results
variable {C : Cfg} (hC : CfgOK C) {ρ : Pl} {σ : St} {w : World}

theorem aResultsL_cons (C : Cfg) (σ : St) (tmps : List AV) (r : ResultVar) (l : List ResultVar) : aResultsL C σ tmps (r :: l) = match aResult C σ tmps r with
    | some v => match aResultsL C σ tmps l with
      | some vs => some (v :: vs)
      | none => none
    | none => none := rfl

include hC in
theorem results_sound (h : Rep ρ σ w) {tmps : List AV} {act : Act} (ht : TR ρ tmps act) {fn : Func} {v : AV} (hl : aResults C σ tmps fn = some v) : ∃ x, (results fn act.tmps).run C.P w = .ok x w ∧ VR ρ v x := by
  have key : ∀ (l : List ResultVar) (vs : List AV), aResultsL C σ tmps l = some vs → ∃ xs : List Value, (l.mapM (fun
      | ResultVar.tmp t => pure (act.tmps.getD t undef)
      | ResultVar.cell a t => do loadVar t (← asAddr (act.tmps.getD a undef)) : ResultVar → Sem Value)).run C.P w = .ok xs w ∧ VRs ρ vs xs := by
    intro l
    induction l with
    | nil => intro vs hvs; cases hvs; exact ⟨[], rfl, .nil⟩
    | cons r l ih =>
      intro vs hvs
      rw [aResultsL_cons] at hvs
      split at hvs
      · rename_i v0 hv0
        split at hvs
        · rename_i vs0 hvs0
          cases hvs
          obtain ⟨xs, h1, h2⟩ := ih _ hvs0
          have : ∃ x, (match r with
              | ResultVar.tmp t => pure (act.tmps.getD t undef)
              | ResultVar.cell a t => do loadVar t (← asAddr (act.tmps.getD a undef)) : Sem Value).run C.P w = .ok x w ∧ VR ρ v0 x := by
            unfold aResult at hv0
            split at hv0
            · cases hv0
              rename_i t
              exact ⟨_, rfl, by rw [lget_eq]; exact ht.getD t⟩
            · rename_i a t
              rw [lget_eq] at hv0
              obtain ⟨ad, y, hx, hy, hv⟩ := load_run (P := C.P) hC.hT h (ht.getD a) hv0
              exact ⟨y, by simp only [hx, asAddr, Sem.run_bind, Sem.run_pure, Result.andThen_ok]; exact hy, hv⟩
          obtain ⟨x, h3, h4⟩ := this
          refine ⟨x :: xs, ?_, .cons h4 h2⟩
          simp only [List.mapM_cons, Sem.run_bind, h1, Result.andThen_ok, Sem.run_pure]
          refine Eq.trans (congrArg (fun r => Result.andThen r _) h3) ?_
          simp only [Result.andThen_ok, Sem.run_bind]
          refine Eq.trans (congrArg (fun r => Result.andThen r _) h1) ?_
          rfl
        · cases hvs
      · cases hvs
  unfold aResults at hl
  unfold results
  have hm : ∀ (g : ResultVar → Sem Value), fn.results.mapM g = (do let l ← fn.results.toList.mapM g; pure l.toArray : Sem (Array Value)) := fun g => by
    rw [Array.mapM_eq_mapM_toList]; rfl
  rw [hm]
  split at hl
  · rename_i v0 hv0
    cases hl
    obtain ⟨xs, h1, h2⟩ := key _ _ hv0
    cases h2 with
    | cons h3 h4 =>
    cases h4
    rename_i x
    refine ⟨x, ?_, h3⟩
    simp only [Sem.run_bind]
    refine Eq.trans (congrArg (fun r => Result.andThen (Result.andThen r _) _) h1) ?_
    simp
  · rename_i vs hne hvs
    cases hl
    obtain ⟨xs, h1, h2⟩ := key _ _ hvs
    refine ⟨.tuple xs.toArray, ?_, .tuple h2⟩
    simp only [Sem.run_bind]
    refine Eq.trans (congrArg (fun r => Result.andThen (Result.andThen r _) _) h1) ?_
    have hl1 : xs.length ≠ 1 := by
      intro e
      rw [← h2.length] at e
      obtain ⟨v, rfl⟩ := List.length_eq_one_iff.1 e
      exact hne v rfl
    simp [hl1]
  · cases hl
end results
end Go.Abs
