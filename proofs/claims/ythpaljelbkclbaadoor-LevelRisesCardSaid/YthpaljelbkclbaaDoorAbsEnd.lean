/-
  THE END: what a program's configuration has to bear; the empty store; summaries of library functions.
-/
import Derived.Test.YthpaljelbkclbaaDoorAbsLaid
import Derived.Below
import Derived.Laws.Externs
import Derived.Lib.Bytealg
import Derived.Lib.Join
namespace Go.Abs
open Go
theorem TRel.kill {P : Program} {T : TT} (h : TRel P T) (K : List TypeId) : TRel P (killT K T) := by
  intro t i hi
  unfold killT at hi
  cases ht : T t with
  | none => rw [ht] at hi; cases hi
  | some j => rw [ht] at hi; cases hi; exact h t j ht
/-- The world has grown. -/
theorem Rep.grow {ρ : Pl} {σ : St} {w w' : World} (h : Rep ρ σ w) (hs : w.heap.size ≤ w'.heap.size) (hb : ∀ b, b < w.heap.size → w'.heap[b]? = w.heap[b]?) : Rep ρ σ w' :=
  ⟨fun id p hp => ⟨(h.dom id p hp).1, Nat.lt_of_lt_of_le (h.dom id p hp).2 hs⟩, fun id b o sz ob hρ hg => by rw [hb b (h.dom _ _ hρ).2]; exact h.obj id b o sz ob hρ hg, h.inj⟩
theorem Step.grow {ρ : Pl} {σ : St} {w w' : World} (h : Rep ρ σ w) (hs : w.heap.size ≤ w'.heap.size) (hb : ∀ b, b < w.heap.size → w'.heap[b]? = w.heap[b]?) (he : w'.os = w.os ∧ w'.output = w.output) : Step ρ σ w ρ σ w' :=
  ⟨.refl _, h.grow hs hb, ⟨hs, fun b hl ho => ⟨hb b hl, ho⟩⟩, Nat.le_refl _, fun _ _ => rfl, he⟩
def St0 : St := { next := 0, objs := Tree.nil }
theorem Rep.empty (w : World) : Rep (fun _ => none) St0 w := by
  refine ⟨?_, ?_, ?_⟩
  · intro id p h; cases h
  · intro id b o sz ob h; cases h
  · intro id id' b o sz o' sz' ob ob' hne h; cases h
/-- The strings of cells. -/
def strsOf : List AV → Option (List (List UInt8))
  | [] => some []
  | .str s :: l => match strsOf l with
    | some r => some (s :: r)
    | none => none
  | _ :: _ => none
theorem strsOf_get : ∀ {l : List AV} {r : List (List UInt8)}, strsOf l = some r → l = r.map .str
  | [], r, h => by cases h; rfl
  | v :: l, r, h => by
    cases v with
    | str s =>
      unfold strsOf at h
      cases hr : strsOf l with
      | none => rw [hr] at h; cases h
      | some q => rw [hr] at h; cases h; rw [strsOf_get hr]; rfl
    | _ => cases h
theorem enter_run {P : Program} {f : FuncId} {fn : Func} {c : Code} (hf : P.funcs[f]? = some fn) (hb : fn.body = some c) (hn : (fn.name == "runtime.NumGoroutine") = false) (args : Array Value) (w : World) : (callFunc f args).run P w = .ok (.enter f args) w := by
  simp only [callFunc, Sem.run_bind, run_program, Result.andThen_ok, hf, hn, hb, Bool.false_eq_true, if_false, Option.isNone_some, Sem.run_pure]
end Go.Abs
