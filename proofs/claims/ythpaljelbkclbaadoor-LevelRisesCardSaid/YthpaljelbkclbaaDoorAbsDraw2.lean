/-
  THE ABSTRACT MACHINE IS RIGHT, 11: a region that draws its order, in whatever order.
-/
import Derived.Test.YthpaljelbkclbaaDoorAbsDraw1
namespace Go.Abs
open Go

/-! ### small checks -/

theorem allLoudIn_spec {mask : Nat} : ∀ {l : List (Nat × St)}, allLoudIn mask l = true → ∀ p ∈ l, mask.testBit p.1 = true
  | [], _, p, hp => by simp at hp
  | q :: l, h, p, hp => by
    have e : allLoudIn mask (q :: l) = boolC false (allLoudIn mask l) (mask.testBit q.1) := rfl
    rw [e] at h
    cases hq : mask.testBit q.1
    · rw [hq] at h; cases h
    · rw [hq, boolC_true] at h
      rcases List.mem_cons.1 hp with rfl | hp
      · exact hq
      · exact allLoudIn_spec h p hp

theorem readEarly_spec {C : Cfg} {op : Op} {t : List AV} {v : AV} {mask : Nat} : ∀ {l : List (Nat × St)}, readEarly C op t v mask l = true → ∀ p ∈ l, mask.testBit p.1 = false → stillIs C op t p.2 v = true
  | [], _, p, hp, _ => by simp at hp
  | q :: l, h, p, hp, hb => by
    have e : readEarly C op t v mask (q :: l) = boolC (boolC false (readEarly C op t v mask l) (stillIs C op t q.2 v)) (readEarly C op t v mask l) (mask.testBit q.1) := rfl
    rw [e] at h
    rcases List.mem_cons.1 hp with rfl | hp
    · rw [hb, boolC_false] at h
      cases hs : stillIs C op t p.2 v
      · rw [hs] at h; cases h
      · rfl
    · refine readEarly_spec ?_ p hp hb
      cases hq : mask.testBit q.1
      · rw [hq, boolC_false] at h
        cases hs : stillIs C op t q.2 v
        · rw [hs] at h; cases h
        · rw [hs] at h; exact h
      · rw [hq] at h; exact h

theorem readLate_spec {C : Cfg} {σ : St} {mask : Nat} : ∀ {l : List Seen}, readLate C σ mask l = true → ∀ s ∈ l, mask.testBit s.at_ = false → stillIs C s.op s.tmps σ s.val = true
  | [], _, p, hp, _ => by simp at hp
  | q :: l, h, p, hp, hb => by
    have e : readLate C σ mask (q :: l) = boolC (boolC false (readLate C σ mask l) (stillIs C q.op q.tmps σ q.val)) (readLate C σ mask l) (mask.testBit q.at_) := rfl
    rw [e] at h
    rcases List.mem_cons.1 hp with rfl | hp
    · rw [hb, boolC_false] at h
      cases hs : stillIs C p.op p.tmps σ p.val
      · rw [hs] at h; cases h
      · rfl
    · refine readLate_spec ?_ p hp hb
      cases hq : mask.testBit q.at_
      · rw [hq, boolC_false] at h
        cases hs : stillIs C q.op q.tmps σ q.val
        · rw [hs] at h; cases h
        · rw [hs] at h; exact h
      · rw [hq] at h; exact h

theorem allFresh_spec {σ : St} {mask : Nat} : ∀ {l : List (Nat × Nat × List AV × Option (Nat × Nat))}, allFresh σ mask l = true → ∀ p ∈ l, mask.testBit p.1 = false → isFresh σ p.2.1 p.2.2.1 = true
  | [], _, p, hp, _ => by simp at hp
  | q :: l, h, p, hp, hb => by
    have e : allFresh σ mask (q :: l) = boolC (boolC false (allFresh σ mask l) (isFresh σ q.2.1 q.2.2.1)) (allFresh σ mask l) (mask.testBit q.1) := rfl
    rw [e] at h
    rcases List.mem_cons.1 hp with rfl | hp
    · rw [hb, boolC_false] at h
      cases hs : isFresh σ p.2.1 p.2.2.1
      · rw [hs] at h; cases h
      · rfl
    · refine allFresh_spec ?_ p hp hb
      cases hq : mask.testBit q.1
      · rw [hq, boolC_false] at h
        cases hs : isFresh σ q.2.1 q.2.2.1
        · rw [hs] at h; cases h
        · rw [hs] at h; exact h
      · rw [hq] at h; exact h

theorem sameOne_eq {x y : AV} (h : sameOne x y = true) : x = y := by
  unfold sameOne at h
  split at h <;> (try (cases h; done)) <;> split at h <;> (try (cases h; done)) <;> simp_all [eqBool_eq, eqKind_eq, eqI_eq, eqB_eq, nbeq]

theorem sameOnes_eq : ∀ {xs ys : List AV}, sameOnes xs ys = true → xs = ys
  | [], [], _ => rfl
  | [], y :: ys, h => by cases h
  | x :: xs, [], h => by cases h
  | x :: xs, y :: ys, h => by
    have e : sameOnes (x :: xs) (y :: ys) = (sameOne x y && sameOnes xs ys) := rfl
    rw [e, Bool.and_eq_true] at h
    rw [sameOne_eq h.1, sameOnes_eq h.2]

theorem sameAV_eq {x y : AV} (h : sameAV x y = true) : x = y := by
  unfold sameAV at h
  split at h
  · split at h
    · rw [sameOnes_eq h]
    · cases h
  · split at h
    · rw [sameOnes_eq h]
    · cases h
  · split at h
    · simp only [Bool.and_eq_true, nbeq, decide_eq_true_eq] at h
      rw [h.1.1, sameOnes_eq h.1.2, sameOnes_eq h.2]
    · cases h
  · exact sameOne_eq h

theorem stillIs_eq {C : Cfg} {op : Op} {t : List AV} {σ : St} {v : AV} (h : stillIs C op t σ v = true) : ∃ s, aOp C.T C.E t op σ = some (v, s) ∧ s.next = σ.next := by
  unfold stillIs at h
  split at h
  · rename_i w s hs
    simp only [Bool.and_eq_true, nbeq, decide_eq_true_eq] at h
    rw [sameAV_eq h.1]
    exact ⟨s, hs, h.2⟩
  · cases h

theorem isFresh_eq {σ : St} {id : Nat} {cs : List AV} (h : isFresh σ id cs = true) : σ.get id = some (.cells cs 0 false) := by
  unfold isFresh at h
  split at h
  · rename_i l fz ro hg
    simp only [Bool.and_eq_true, nbeq, decide_eq_true_eq] at h
    rw [hg, sameOnes_eq h.1.1, h.1.2]
    cases ro
    · rfl
    · cases h.2
  · cases h

/-! ### operations that leave the store alone -/
section quiet
variable {T : TT} {E : List TypeId} {t : List AV} {op : Op} {σ s : St} {v : AV}

/-- A read leaves the store alone, if it lays nothing. -/
theorem read_same (hc : opClass op = 1) (h : aOp T E t op σ = some (v, s)) (hn : s.next = σ.next) : s = σ := by
  unfold opClass at hc
  split at hc <;> (try (cases hc; done))
  · simp only [aOp] at h
    obtain ⟨x, hx, h⟩ := ev1_eq h
    exact (withSt_eq h).2
  · simp only [aOp] at h
    obtain ⟨x, hx, h⟩ := ev1_eq h
    obtain ⟨y, hy, h⟩ := ev1_eq h
    exact (withSt_eq h).2
  · simp only [aOp] at h
    obtain ⟨x, hx, h⟩ := ev1_eq h
    unfold aConvert at h
    repeat' split at h
    all_goals first
      | (cases h; done)
      | (cases h; rfl)
      | (simp only [boolC_none, St.pushK_eq] at h; obtain ⟨_, h⟩ := h; cases h <;> first | rfl | (simp at hn))
  · simp only [aOp, oSlice] at h
    split at h
    · obtain ⟨x, hx, h⟩ := ev1_eq h
      repeat' split at h
      all_goals first
        | (cases h; done)
        | exact (withSt_eq h).2
    · obtain ⟨x, hx, h⟩ := ev1_eq h
      obtain ⟨y, hy, h⟩ := ev1_eq h
      repeat' split at h
      all_goals first
        | (cases h; done)
        | exact (withSt_eq h).2
  · split at hc <;> (try (cases hc; done))
    rename_i b hb
    split at hc <;> (try (cases hc; done))
    simp only [aOp, oBuiltin, hb] at h
    split at h
    · simp only [aBuiltin] at h
      obtain ⟨x, hx, h⟩ := onlyOne_eq h
      exact (withSt_eq h).2
    · cases h

/-- A read that is a call of a builtin function: the same. -/
theorem step_read {C : Cfg} {ih : Evs} (hc : opClass op = 1 ∨ opClass op = 0) : stepOp C ih op t σ = aOp C.T C.E t op σ := by
  unfold stepOp
  split
  · rename_i c
    unfold stepCall
    simp only [opClass] at hc
    cases hcal : c.callee with
    | builtin b => rfl
    | value f => rw [hcal] at hc; simp at hc
    | invoke r n => rw [hcal] at hc; simp at hc
  · rfl

/-- A pure operation looks at no store. -/
theorem pure_same (hc : opClass op = 0) (h : aOp T E t op σ = some (v, s)) (σ' : St) : s = σ ∧ aOp T E t op σ' = some (v, σ') := by
  unfold aOp at h
  split at h <;> (try (cases hc; done)) <;> (try (cases h; done))
  · obtain ⟨h1, h2⟩ := withSt_eq h; exact ⟨h2, by simp only [aOp, h1, withSt]⟩
  · obtain ⟨h1, h2⟩ := withSt_eq h; exact ⟨h2, by simp only [aOp, h1, withSt]⟩
  · unfold oPick at h
    obtain ⟨x, hx, h⟩ := ev1_eq h
    split at h
    · obtain ⟨y, hy, h⟩ := ev1_eq h
      obtain ⟨z, hz, h⟩ := ev1_eq h
      cases h
      exact ⟨rfl, by simp only [aOp, oPick, ev1, hx, hy, hz]⟩
    · cases h
  · unfold oBuild at h
    split at h
    · rename_i l hl
      obtain ⟨h1, h2⟩ := withSt_eq h; exact ⟨h2, by simp only [aOp, oBuild, hl, h1, withSt]⟩
    · cases h
  · obtain ⟨x, hx, h⟩ := ev1_eq h
    unfold oNilCheck at h
    split at h
    all_goals first
      | (cases h; done)
      | (cases h; exact ⟨rfl, by simp only [aOp, ev1, hx, oNilCheck]⟩)
  · obtain ⟨x, hx, h⟩ := ev1_eq h
    obtain ⟨y, hy, h⟩ := ev1_eq h
    obtain ⟨h1, h2⟩ := withSt_eq h; exact ⟨h2, by simp only [aOp, ev1, hx, hy, h1, withSt]⟩
  · obtain ⟨x, hx, h⟩ := ev1_eq h
    obtain ⟨h1, h2⟩ := withSt_eq h; exact ⟨h2, by simp only [aOp, ev1, hx, h1, withSt]⟩
  · unfold oMakeFunc at h
    split at h
    · split at h
      · rename_i a ha
        split at h
        · rename_i b hb
          cases h
          exact ⟨rfl, by simp only [aOp, oMakeFunc, ha, hb]⟩
        · cases h
      · cases h
    · cases h
  · obtain ⟨x, hx, h⟩ := ev1_eq h
    obtain ⟨h1, h2⟩ := withSt_eq h; exact ⟨h2, by simp only [aOp, ev1, hx, h1, withSt]⟩
  · obtain ⟨x, hx, h⟩ := ev1_eq h
    obtain ⟨h1, h2⟩ := withSt_eq h; exact ⟨h2, by simp only [aOp, ev1, hx, h1, withSt]⟩
  · obtain ⟨x, hx, h⟩ := ev1_eq h
    obtain ⟨y, hy, h⟩ := ev1_eq h
    obtain ⟨h1, h2⟩ := withSt_eq h; exact ⟨h2, by simp only [aOp, ev1, hx, hy, h1, withSt]⟩
  · obtain ⟨x, hx, h⟩ := ev1_eq h
    obtain ⟨y, hy, h⟩ := ev1_eq h
    obtain ⟨h1, h2⟩ := withSt_eq h; exact ⟨h2, by simp only [aOp, ev1, hx, hy, h1, withSt]⟩
  · obtain ⟨x, hx, h⟩ := ev1_eq h
    unfold oExtract at h
    split at h
    · rename_i vs
      split at h
      · rename_i v' r hd
        cases h
        exact ⟨rfl, by simp only [aOp, ev1, hx, oExtract, hd]⟩
      · cases h
    · cases h
  · rename_i c
    unfold oBuiltin at h
    split at h
    · rename_i b hb
      split at h
      · rename_i l hl
        simp only [opClass, hb] at hc
        split at hc <;> (try (cases hc; done))
        · simp only [aBuiltin] at h
          obtain ⟨x, hx, h⟩ := onlyOne_eq h
          subst hx
          obtain ⟨h1, h2⟩ := withSt_eq h; exact ⟨h2, by simp only [aOp, oBuiltin, hb, hl, aBuiltin, onlyOne, h1, withSt]⟩
        · simp only [aBuiltin] at h
          obtain ⟨h1, h2⟩ := withSt_eq h; exact ⟨h2, by simp only [aOp, oBuiltin, hb, hl, aBuiltin, h1, withSt]⟩
        · simp only [aBuiltin] at h
          obtain ⟨h1, h2⟩ := withSt_eq h; exact ⟨h2, by simp only [aOp, oBuiltin, hb, hl, aBuiltin, h1, withSt]⟩
      · cases h
    · cases h
end quiet
end Go.Abs
