/-
  Plain laws of the abstract machine's own functions: the store, the tables, the forcing.
-/
import Derived.Test.YthpaljelbkclbaaDoorAbsDef
namespace Go.Abs
open Go

theorem natC_eq {β : Type} (z : β) (s : Nat → β) (n : Nat) : natC z s n = match n with
    | 0 => z
    | m + 1 => s m := by cases n <;> rfl

theorem boolC_true {β : Sort _} (f t : β) : boolC f t true = t := rfl
theorem boolC_false {β : Sort _} (f t : β) : boolC f t false = f := rfl
theorem boolC_none {α : Type} (x : Option α) (b : Bool) (v : α) : boolC none x b = some v ↔ b = true ∧ x = some v := by cases b <;> simp [boolC]
theorem boolC_none' {α : Type} (x : Option α) (b : Bool) (v : α) : boolC x none b = some v ↔ b = false ∧ x = some v := by cases b <;> simp [boolC]

theorem Tree.get_nil (n : Nat) : Tree.nil.get n = none := rfl
theorem Tree.get_zero (o : Option AObj) (l r : Tree) : (Tree.node o l r).get 0 = o := rfl
theorem Tree.get_succ (o : Option AObj) (l r : Tree) (m : Nat) : (Tree.node o l r).get (m + 1) = if m % 2 = 0 then l.get (m / 2) else r.get (m / 2) := by
  have h : (Tree.node o l r).get (m + 1) = natC (l.get (m / 2)) (fun _ => r.get (m / 2)) (m % 2) := rfl
  rw [h]
  rcases Nat.mod_two_eq_zero_or_one m with e | e
  · rw [e, if_pos rfl]; rfl
  · rw [e, if_neg (by omega)]; rfl

theorem Tree.setK_zero {β : Type} (o : AObj) (t : Tree) (n : Nat) (f : Tree → β) : Tree.setK o 0 t n f = f t := rfl
theorem Tree.setK_node {β : Type} (o : AObj) (k : Nat) (p : Option AObj) (l r : Tree) (n : Nat) (f : Tree → β) :
    Tree.setK o (k + 1) (.node p l r) n f = natC (f (.node (some o) l r)) (fun m => natC (Tree.setK o k l (m / 2) fun l => f (.node p l r)) (fun _ => Tree.setK o k r (m / 2) fun r => f (.node p l r)) (m % 2)) n := rfl
theorem Tree.setK_nil {β : Type} (o : AObj) (k : Nat) (n : Nat) (f : Tree → β) :
    Tree.setK o (k + 1) .nil n f = Tree.setK o (k + 1) (.node none .nil .nil) n f := rfl

theorem Tree.setK_eq' (o : AObj) (k : Nat) : ∀ (β : Type) (t : Tree) (n : Nat) (f : Tree → β), Tree.setK o k t n f = f (Tree.setK o k t n id) := by
  induction k with
  | zero => intro β t n f; rfl
  | succ k ih =>
    have node : ∀ (β : Type) (p : Option AObj) (l r : Tree) (n : Nat) (f : Tree → β), Tree.setK o (k + 1) (.node p l r) n f = f (Tree.setK o (k + 1) (.node p l r) n id) := by
      intro β p l r n f
      rw [setK_node, setK_node]
      cases n with
      | zero => rfl
      | succ m =>
        simp only [natC_succ]
        rcases Nat.mod_two_eq_zero_or_one m with e | e
        · rw [e]
          show Tree.setK o k l (m / 2) (fun l => f (.node p l r)) = f (Tree.setK o k l (m / 2) fun l => .node p l r)
          rw [ih β, ih Tree (f := fun l => .node p l r)]
        · rw [e]
          show Tree.setK o k r (m / 2) (fun r => f (.node p l r)) = f (Tree.setK o k r (m / 2) fun r => .node p l r)
          rw [ih β, ih Tree (f := fun r => .node p l r)]
    intro β t n f
    cases t with
    | nil => exact node β none .nil .nil n f
    | node p l r => exact node β p l r n f

theorem Tree.setK_eq {β : Type} (o : AObj) (k : Nat) (t : Tree) (n : Nat) (f : Tree → β) : Tree.setK o k t n f = f (Tree.set o k t n) := Tree.setK_eq' o k β t n f

theorem Tree.set_node (o : AObj) (k : Nat) (p : Option AObj) (l r : Tree) (n : Nat) :
    Tree.set o (k + 1) (.node p l r) n = match n with
      | 0 => .node (some o) l r
      | m + 1 => if m % 2 = 0 then .node p (Tree.set o k l (m / 2)) r else .node p l (Tree.set o k r (m / 2)) := by
  unfold Tree.set
  rw [setK_node]
  cases n with
  | zero => rfl
  | succ m =>
    simp only [natC_succ]
    rcases Nat.mod_two_eq_zero_or_one m with e | e
    · rw [e, if_pos rfl]
      show Tree.setK o k l (m / 2) (fun l => id (Tree.node p l r)) = _
      rw [setK_eq]; rfl
    · rw [e, if_neg (by omega)]
      show Tree.setK o k r (m / 2) (fun r => id (Tree.node p l r)) = _
      rw [setK_eq]; rfl

theorem Tree.get_set (o : AObj) (k : Nat) (t : Tree) (n m : Nat) (h : n < k) : (Tree.set o k t n).get m = if m = n then some o else t.get m := by
  induction k generalizing t n m with
  | zero => omega
  | succ k ih =>
    have node : ∀ p l r, (Tree.set o (k + 1) (.node p l r) n).get m = if m = n then some o else (Tree.node p l r).get m := by
      intro p l r
      rw [set_node]
      cases n with
      | zero =>
        cases m with
        | zero => simp [get_zero]
        | succ m => simp [get_succ]
      | succ n =>
        simp only
        rcases Nat.mod_two_eq_zero_or_one n with e | e
        · simp only [e, if_true]
          cases m with
          | zero => simp [get_zero]
          | succ m =>
            simp only [get_succ]
            rcases Nat.mod_two_eq_zero_or_one m with e' | e'
            · simp only [e', if_true, ih l (n / 2) (m / 2) (by omega)]
              have : m / 2 = n / 2 ↔ m + 1 = n + 1 := by omega
              simp only [this]
            · simp only [e', Nat.one_ne_zero, if_false]
              rw [if_neg (by omega)]
        · simp only [e, Nat.one_ne_zero, if_false]
          cases m with
          | zero => simp [get_zero]
          | succ m =>
            simp only [get_succ]
            rcases Nat.mod_two_eq_zero_or_one m with e' | e'
            · simp only [e', if_true]
              rw [if_neg (by omega)]
            · simp only [e', Nat.one_ne_zero, if_false, ih r (n / 2) (m / 2) (by omega)]
              have : m / 2 = n / 2 ↔ m + 1 = n + 1 := by omega
              simp only [this]
    cases t with
    | nil =>
      have := node none .nil .nil
      have e : (Tree.node none .nil .nil).get m = Tree.nil.get m := by
        cases m with
        | zero => rfl
        | succ m => rw [get_succ]; simp [get_nil]
      rw [e] at this
      exact this
    | node p l r => exact node p l r

theorem forceObj_eq {β : Type} (o : AObj) (f : AObj → β) : forceObj o f = f o := by
  cases o <;> simp only [forceObj, forceNat_eq, forceL_eq]

theorem St.setK_eq {β : Type} (σ : St) (id : Nat) (o : AObj) (f : St → β) : σ.setK id o f = f (σ.set id o) := by
  simp only [St.setK, St.set, Tree.setK_eq, forceObj_eq]
theorem St.pushK_eq {β : Type} (σ : St) (o : AObj) (f : St → β) : σ.pushK o f = f (σ.push o) := by
  simp only [St.pushK, St.push, Tree.setK_eq, forceObj_eq, forceNat_eq]

theorem St.get_eq (σ : St) (id : Nat) : σ.get id = if id < σ.next then σ.objs.get id else none := by
  unfold St.get
  by_cases h : id < σ.next
  · have : Nat.blt id σ.next = true := by simpa [Nat.blt_eq] using h
    rw [this, if_pos h]; rfl
  · have : Nat.blt id σ.next = false := by
      cases hb : Nat.blt id σ.next
      · rfl
      · exact absurd (by simpa [Nat.blt_eq] using hb) h
    rw [this, if_neg h]; rfl

theorem St.get_lt {σ : St} {id : Nat} {o : AObj} (h : σ.get id = some o) : id < σ.next := by
  rw [St.get_eq] at h
  split at h
  · assumption
  · cases h

@[simp] theorem St.next_set (σ : St) (id : Nat) (o : AObj) : (σ.set id o).next = σ.next := rfl
@[simp] theorem St.next_push (σ : St) (o : AObj) : (σ.push o).next = σ.next + 1 := rfl

theorem St.get_set (σ : St) (id j : Nat) (o : AObj) : (σ.set id o).get j = if j = id then (if id < σ.next then some o else none) else σ.get j := by
  rw [St.get_eq, St.get_eq]
  show (if j < σ.next then (σ.objs.set o (id + 1) id).get j else none) = _
  rw [Tree.get_set _ _ _ _ _ (by omega)]
  by_cases hj : j = id
  · subst hj; simp
  · simp [hj]

theorem St.get_push (σ : St) (j : Nat) (o : AObj) : (σ.push o).get j = if j = σ.next then some o else σ.get j := by
  rw [St.get_eq, St.get_eq]
  show (if j < σ.next + 1 then (σ.objs.set o (σ.next + 1) σ.next).get j else none) = _
  rw [Tree.get_set _ _ _ _ _ (by omega)]
  by_cases hj : j = σ.next
  · subst hj; simp
  · by_cases h : j < σ.next
    · rw [if_pos (by omega), if_neg hj, if_neg hj, if_pos h]
    · rw [if_neg (by omega), if_neg hj, if_neg h]

theorem putK_eq {β : Type} (a : AAct) (d : Option Tmp) (v : AV) (f : AAct → β) : putK a d v f = f (a.put d v) := by
  cases d with
  | none => rfl
  | some d => simp only [putK, forceAV_eq, Go.Abs.setK_eq]; rfl

theorem repCells_zero (z : List AV) : repCells z 0 = [] := rfl
theorem repCells_succ (z : List AV) (n : Nat) : repCells z (n + 1) = z ++ repCells z n := by
  rw [← lapp_eq]; rfl
theorem repCells_length (z : List AV) (n : Nat) : (repCells z n).length = n * z.length := by
  induction n with
  | zero => simp [repCells_zero]
  | succ n ih => rw [repCells_succ, List.length_append, ih, Nat.succ_mul, Nat.add_comm]

theorem nbeq (a b : Nat) : Nat.beq a b = decide (a = b) := by rw [Bool.eq_iff_iff]; simp [Nat.beq_eq]
theorem nble (a b : Nat) : Nat.ble a b = decide (a ≤ b) := by rw [Bool.eq_iff_iff]; simp [Nat.ble_eq]
theorem nblt (a b : Nat) : Nat.blt a b = decide (a < b) := by rw [Bool.eq_iff_iff]; simp [Nat.blt_eq]
theorem eqI_eq (x y : Int) : eqI x y = decide (x = y) := by
  cases x <;> cases y <;> simp only [eqI, nbeq]
  · rw [decide_eq_decide]; simp only [Int.ofNat_eq_natCast]; omega
  · symm; rw [decide_eq_false_iff_not]; simp only [Int.ofNat_eq_natCast]; omega
  · symm; rw [decide_eq_false_iff_not]; simp only [Int.ofNat_eq_natCast]; omega
  · rw [decide_eq_decide]; omega
theorem leI_eq (x y : Int) : leI x y = decide (x ≤ y) := by
  cases x with
  | ofNat a => cases y with
    | ofNat b => simp only [leI, nble]; rw [decide_eq_decide]; simp only [Int.ofNat_eq_natCast]; omega
    | negSucc b => simp only [leI]; symm; rw [decide_eq_false_iff_not]; simp only [Int.ofNat_eq_natCast]; omega
  | negSucc a => cases y with
    | ofNat b => simp only [leI]; symm; rw [decide_eq_true_eq]; simp only [Int.ofNat_eq_natCast]; omega
    | negSucc b => simp only [leI, nble]; rw [decide_eq_decide]; omega
theorem eqBool_eq (a b : Bool) : eqBool a b = decide (a = b) := by cases a <;> cases b <;> rfl
theorem eqKind_eq (j k : IntKind) : eqKind j k = decide (j = k) := by cases j <;> cases k <;> rfl
theorem not_eq (b : Bool) : boolC true false b = !b := by cases b <;> rfl

theorem eqB_eq (a b : List UInt8) : eqB a b = decide (a = b) := by
  induction a generalizing b with
  | nil => cases b <;> simp [eqB]
  | cons x a ih => cases b with
    | nil => simp [eqB]
    | cons y b =>
      have h : eqB (x :: a) (y :: b) = boolC false (eqB a b) (Nat.beq x.toNat y.toNat) := rfl
      rw [h, ih]
      by_cases e : x = y
      · subst e; simp [boolC]
      · have : Nat.beq x.toNat y.toNat = false := by
          cases hb : Nat.beq x.toNat y.toNat
          · rfl
          · exact absurd (UInt8.toNat_inj.1 (Nat.beq_eq ▸ hb)) e
        rw [this]; simp [boolC, e]

theorem lessB_eq (a b : List UInt8) : lessB a b = Op.bytesLess a b := by
  induction a generalizing b with
  | nil => cases b <;> rfl
  | cons x a ih => cases b with
    | nil => rfl
    | cons y b =>
      have h : lessB (x :: a) (y :: b) = boolC (boolC false (lessB a b) (Nat.beq x.toNat y.toNat)) true (Nat.blt x.toNat y.toNat) := rfl
      rw [h, ih]
      simp only [Op.bytesLess]
      by_cases hl : x < y
      · have : Nat.blt x.toNat y.toNat = true := by simpa [Nat.blt_eq] using UInt8.lt_iff_toNat_lt.1 hl
        rw [this]; simp [boolC, hl]
      · have : Nat.blt x.toNat y.toNat = false := by
          cases hb : Nat.blt x.toNat y.toNat
          · rfl
          · exact absurd (UInt8.lt_iff_toNat_lt.2 (by simpa [Nat.blt_eq] using hb)) hl
        rw [this]
        by_cases e : x = y
        · subst e; simp [boolC]
        · have he : Nat.beq x.toNat y.toNat = false := by
            cases hb : Nat.beq x.toNat y.toNat
            · rfl
            · exact absurd (UInt8.toNat_inj.1 (Nat.beq_eq ▸ hb)) e
          rw [he]; simp [boolC, hl, e]

end Go.Abs
