/-
  THE TABLES OF A PROGRAM ARE RIGHT.
-/
import Derived.Test.YthpaljelbkclbaaDoorAbsW
namespace Go.Abs
open Go

theorem evens_cons {α : Type} (x : α) (l : List α) : evens (x :: l) = (x :: (evens l).2, (evens l).1) := rfl

theorem evens_get {α : Type} : ∀ (l : List α) (k : Nat), (evens l).1[k]? = l[2 * k]? ∧ (evens l).2[k]? = l[2 * k + 1]?
  | [], k => by simp [evens]
  | x :: l, k => by
    rw [evens_cons]
    refine ⟨?_, ?_⟩
    · cases k with
      | zero => rfl
      | succ k =>
        have := (evens_get l k).2
        simp only [List.getElem?_cons_succ, this]
        rw [show 2 * (k + 1) = (2 * k + 1) + 1 by omega, List.getElem?_cons_succ]
    · have := (evens_get l k).1
      simp only [this, List.getElem?_cons_succ]

theorem BT.get_node {α : Type} (v : α) (l r : BT α) (m : Nat) : (BT.node v l r).get (m + 1) = if m % 2 = 0 then l.get (m / 2) else r.get (m / 2) := by
  show natC (l.get (m / 2)) (fun _ => r.get (m / 2)) (m % 2) = _
  rcases Nat.mod_two_eq_zero_or_one m with h | h
  · rw [h]; rfl
  · rw [h]; rfl

theorem BT.ofList_get {α : Type} : ∀ (n : Nat) (l : List α) (i : Nat) (x : α), (BT.ofList n l).get i = some x → l[i]? = some x
  | 0, l, i, x, h => by cases h
  | n + 1, [], i, x, h => by cases h
  | n + 1, y :: l, 0, x, h => by cases h; rfl
  | n + 1, y :: l, i + 1, x, h => by
    have e : BT.ofList (n + 1) (y :: l) = .node y (BT.ofList n (evens l).1) (BT.ofList n (evens l).2) := rfl
    rw [e, BT.get_node] at h
    split at h
    · rename_i hm
      have := BT.ofList_get n _ _ _ h
      rw [(evens_get l _).1] at this
      rw [List.getElem?_cons_succ, ← this]; congr 1; omega
    · rename_i hm
      have := BT.ofList_get n _ _ _ h
      rw [(evens_get l _).2] at this
      rw [List.getElem?_cons_succ, ← this]; congr 1; omega

theorem typesOf_eq (l : List TypeInfo) : typesOf l = BT.ofList 20 (l.map (mkTy (BT.ofList 20 l).get)) := by
  unfold typesOf
  congr 1
  generalize mkTy (BT.ofList 20 l).get = g
  induction l with
  | nil => rfl
  | cons x l ih => rw [List.map_cons, ← ih]

theorem info_of {P : Program} {t : TypeId} {i : TypeInfo} (h : P.types[t]? = some i) : P.info? t = some i := by
  unfold Tables.info?
  rw [if_pos (Array.getElem?_eq_some_iff.1 h).1]; exact h

theorem types_ok (P : Program) : TRel P (fun t => bjoin ((typesOf P.types.toList).get t)) := by
  intro t i h
  simp only [bjoin] at h
  split at h
  case h_2 => cases h
  rename_i y hy
  subst h
  rw [typesOf_eq] at hy
  have := BT.ofList_get _ _ _ _ hy
  rw [List.getElem?_map] at this
  cases hti : P.types.toList[t]? with
  | none => rw [hti] at this; cases this
  | some info =>
    rw [hti] at this
    simp only [Option.map_some, Option.some.injEq] at this
    have hinfo : P.info? t = some info := info_of (by simpa using hti)
    have hz : ∀ (i : TyI), i.zero = (match info.zero with | some z => noTuple (ofVal z) | none => none) → ∀ z, i.zero = some z → ∃ y, info.zero = some y ∧ ofVal y = some z ∧ ∀ vs, z ≠ .tuple vs := by
      intro i hi z hz
      rw [hi] at hz
      cases hiz : info.zero with
      | none => rw [hiz] at hz; cases hz
      | some y =>
        rw [hiz] at hz
        simp only at hz
        unfold noTuple at hz
        split at hz
        · cases hz
        · rename_i hne
          exact ⟨y, rfl, hz, fun vs e => hne vs (by rw [hz, e])⟩
    have hu : ∀ v j, (BT.ofList 20 P.types.toList).get v = some j → P.info? v = some j := fun v j hj => by
      have := BT.ofList_get _ _ _ _ hj
      exact info_of (by simpa using this)
    unfold mkTy at this
    simp only at this
    split at this
    · rename_i n v hd
      split at this
      · rename_i j hj
        cases this
        have hj' := hu _ _ hj
        refine ⟨?_, rfl, info, hinfo, rfl, rfl, fun z hzz => hz _ rfl z hzz⟩
        unfold Program.underlying
        rw [hinfo]
        obtain ⟨d⟩ := info
        simp only at hd
        subst hd
        simp [hj']
      · cases this
    · rename_i hnd
      cases this
      refine ⟨?_, rfl, info, hinfo, rfl, rfl, fun z hzz => hz _ rfl z hzz⟩
      unfold Program.underlying
      rw [hinfo]
      obtain ⟨d⟩ := info
      simp only at hnd ⊢
      split
      · rename_i hd; cases hd; exact absurd rfl (hnd _ _)
      · rename_i hd; cases hd; rfl
      · rename_i hd; cases hd

theorem funcs_ok (P : Program) (hn : P.funcs.toList.all (fun fn => !(fn.name == "runtime.NumGoroutine")) = true) : ∀ f fn, (BT.ofList 20 P.funcs.toList).get f = some fn → P.funcs[f]? = some fn ∧ (fn.name == "runtime.NumGoroutine") = false := by
  intro f fn h
  have := BT.ofList_get _ _ _ _ h
  refine ⟨by simpa using this, ?_⟩
  have := List.all_eq_true.1 hn fn (List.mem_of_getElem? this)
  simpa using this
end Go.Abs
