/-
  THE EVALUATOR IN CONTINUATION STYLE, with one rewriting law per kind of code and of operation: how proofs go through a function's code.
-/
import Derived.Test.YthpaljelbkclbaaDoorAbsTab
namespace Go.Abs
open Go

/-! ### The store: normal forms -/
theorem Tree.set_nil (o : AObj) (k n : Nat) : Tree.set o (k + 1) .nil n = Tree.set o (k + 1) (.node none .nil .nil) n := rfl
theorem Tree.set_node0 (o : AObj) (k : Nat) (p : Option AObj) (l r : Tree) : Tree.set o (k + 1) (.node p l r) 0 = .node (some o) l r := by rw [Tree.set_node]
theorem Tree.set_nodeS (o : AObj) (k : Nat) (p : Option AObj) (l r : Tree) (m : Nat) :
    Tree.set o (k + 1) (.node p l r) (m + 1) = if m % 2 = 0 then .node p (Tree.set o k l (m / 2)) r else .node p l (Tree.set o k r (m / 2)) := by rw [Tree.set_node]

theorem Tree.set_set (o o' : AObj) : ∀ (k : Nat) (t : Tree) (n : Nat), Tree.set o' k (Tree.set o k t n) n = Tree.set o' k t n := by
  intro k
  induction k with
  | zero => intro t n; rfl
  | succ k ih =>
    have node : ∀ p l r n, Tree.set o' (k + 1) (Tree.set o (k + 1) (.node p l r) n) n = Tree.set o' (k + 1) (.node p l r) n := by
      intro p l r n
      cases n with
      | zero => simp only [Tree.set_node0]
      | succ m =>
        simp only [Tree.set_nodeS]
        by_cases h : m % 2 = 0
        · simp only [if_pos h, Tree.set_nodeS, ih]
        · simp only [if_neg h, Tree.set_nodeS, ih]
    intro t n
    cases t with
    | nil => rw [Tree.set_nil o, Tree.set_nil o']; exact node _ _ _ n
    | node p l r => exact node p l r n

theorem Tree.set_comm (o o' : AObj) : ∀ (k k' : Nat) (t : Tree) (n m : Nat), n < k → m < k' → n ≠ m → Tree.set o' k' (Tree.set o k t n) m = Tree.set o k (Tree.set o' k' t m) n := by
  intro k
  induction k with
  | zero => intro k' t n m h; omega
  | succ k ih =>
    intro k' t n m hn hm hne
    cases k' with
    | zero => omega
    | succ k' =>
    have node : ∀ p l r, Tree.set o' (k' + 1) (Tree.set o (k + 1) (.node p l r) n) m = Tree.set o (k + 1) (Tree.set o' (k' + 1) (.node p l r) m) n := by
      intro p l r
      cases n with
      | zero =>
        cases m with
        | zero => exact absurd rfl hne
        | succ m =>
          simp only [Tree.set_node0, Tree.set_nodeS]
          by_cases h : m % 2 = 0
          · simp only [if_pos h, Tree.set_node0]
          · simp only [if_neg h, Tree.set_node0]
      | succ n =>
        cases m with
        | zero =>
          simp only [Tree.set_node0, Tree.set_nodeS]
          by_cases h : n % 2 = 0
          · simp only [if_pos h, Tree.set_node0]
          · simp only [if_neg h, Tree.set_node0]
        | succ m =>
          simp only [Tree.set_nodeS]
          by_cases h : n % 2 = 0
          · by_cases h' : m % 2 = 0
            · simp only [if_pos h, if_pos h', Tree.set_nodeS]
              rw [ih k' l (n / 2) (m / 2) (by omega) (by omega) (by omega)]
            · simp only [if_pos h, if_neg h', Tree.set_nodeS]
          · by_cases h' : m % 2 = 0
            · simp only [if_neg h, if_pos h', Tree.set_nodeS]
            · simp only [if_neg h, if_neg h', Tree.set_nodeS]
              rw [ih k' r (n / 2) (m / 2) (by omega) (by omega) (by omega)]
    cases t with
    | nil =>
      have := node none .nil .nil
      rw [← Tree.set_nil, ← Tree.set_nil] at this
      exact this
    | node p l r => exact node p l r

theorem St.set_set (σ : St) {i j : Nat} (o o' : AObj) (h : j = i) : (σ.set i o).set j o' = σ.set i o' := by
  subst h; unfold St.set; simp only [Tree.set_set]
theorem St.set_push (σ : St) {j : Nat} (o o' : AObj) (h : j = σ.next) : (σ.push o).set j o' = σ.push o' := by
  subst h; unfold St.set St.push; simp only [Tree.set_set]
theorem St.set_push_lt (σ : St) {j : Nat} (o o' : AObj) (h : j < σ.next) : (σ.push o).set j o' = (σ.set j o').push o := by
  unfold St.set St.push
  simp only
  rw [Tree.set_comm _ _ _ _ _ _ _ (Nat.lt_succ_self _) (Nat.lt_succ_self _) (by omega)]

theorem St.get_push_eq (σ : St) {j : Nat} (o : AObj) (h : j = σ.next) : (σ.push o).get j = some o := by rw [St.get_push, if_pos h]
theorem St.get_push_ne (σ : St) {j : Nat} (o : AObj) (h : j ≠ σ.next) : (σ.push o).get j = σ.get j := by rw [St.get_push, if_neg h]
theorem St.get_set_eq (σ : St) {i j : Nat} (o : AObj) (h : j = i) (hl : i < σ.next) : (σ.set i o).get j = some o := by rw [St.get_set, if_pos h, if_pos hl]
theorem St.get_set_ne (σ : St) {i j : Nat} (o : AObj) (h : j ≠ i) : (σ.set i o).get j = σ.get j := by rw [St.get_set, if_neg h]

/-- The cells of an object. -/
def csOf : Option AObj → Option (List AV)
  | some (.cells vs _ _) => some vs
  | _ => none
theorem cellsOf_get (σ : St) (id : Nat) : cellsOf σ id = csOf (σ.get id) := by
  unfold cellsOf csOf; split <;> simp_all
theorem csOf_cells (vs : List AV) (fz : Nat) (ro : Bool) : csOf (some (.cells vs fz ro)) = some vs := rfl
theorem cellsOf_push_eq (σ : St) {j : Nat} (vs : List AV) (fz : Nat) (ro : Bool) (h : j = σ.next) : cellsOf (σ.push (.cells vs fz ro)) j = some vs := by rw [cellsOf_get, St.get_push_eq σ _ h]; rfl
theorem cellsOf_push_ne (σ : St) {j : Nat} (o : AObj) (h : j ≠ σ.next) : cellsOf (σ.push o) j = cellsOf σ j := by rw [cellsOf_get, cellsOf_get, St.get_push_ne σ _ h]
theorem cellsOf_set_eq (σ : St) {i j : Nat} (vs : List AV) (fz : Nat) (ro : Bool) (h : j = i) (hl : i < σ.next) : cellsOf (σ.set i (.cells vs fz ro)) j = some vs := by rw [cellsOf_get, St.get_set_eq σ _ h hl]; rfl
theorem cellsOf_set_ne (σ : St) {i j : Nat} (o : AObj) (h : j ≠ i) : cellsOf (σ.set i o) j = cellsOf σ j := by rw [cellsOf_get, cellsOf_get, St.get_set_ne σ _ h]

/-! ### Environments -/
abbrev Env := List (Nat × AV)
def lk : Env → Nat → AV
  | [], _ => .undef
  | (j, v) :: η, i => if i = j then v else lk η i
theorem lk_nil (i : Nat) : lk [] i = .undef := rfl
theorem lk_cons (j : Nat) (v : AV) (η : Env) (i : Nat) : lk ((j, v) :: η) i = if i = j then v else lk η i := rfl

def mat (n : Nat) (η : Env) : List AV := (List.range n).map (lk η)
theorem lget_mat (n : Nat) (η : Env) (i : Nat) : lget (mat n η) i .undef = if i < n then lk η i else .undef := by
  rw [lget_eq, List.getD_eq_getElem?_getD, mat, List.getElem?_map]
  by_cases h : i < n
  · rw [List.getElem?_range h, if_pos h]; rfl
  · rw [List.getElem?_eq_none (by simpa using h), if_neg h]; rfl
theorem set_mat (n : Nat) (η : Env) (d : Nat) (v : AV) : (mat n η).set d v = mat n ((d, v) :: η) := by
  apply List.ext_getElem?
  intro i
  rw [List.getElem?_set]
  simp only [mat, List.getElem?_map, List.length_map, List.length_range]
  by_cases hi : i < n
  · rw [List.getElem?_range hi]
    by_cases h : d = i
    · subst h; simp [hi, lk_cons]
    · rw [if_neg h]; simp [lk_cons, Ne.symm h]
  · rw [List.getElem?_eq_none (by simpa using hi)]
    by_cases h : d = i
    · subst h; simp [hi]
    · rw [if_neg h]; simp
def enum : Nat → List AV → Env
  | _, [] => []
  | i, v :: l => (i, v) :: enum (i + 1) l
theorem lk_enum : ∀ (l : List AV) (i j : Nat), lk (enum i l) j = if i ≤ j ∧ j < i + l.length then l.getD (j - i) .undef else .undef
  | [], i, j => by simp only [enum, lk_nil, List.length_nil]; rw [if_neg (by omega)]
  | v :: l, i, j => by
    simp only [enum, lk_cons, lk_enum l, List.length_cons]
    by_cases h : j = i
    · subst h; simp
    · rw [if_neg h]
      by_cases h2 : i ≤ j ∧ j < i + (l.length + 1)
      · rw [if_pos (by omega), if_pos h2, show j - i = (j - (i + 1)) + 1 by omega, List.getD_cons_succ]
      · rw [if_neg (by omega), if_neg h2]
theorem padTo_mat (args : List AV) (n : Nat) (h : args.length ≤ n) : padTo args n = mat n (enum 0 args) := by
  rw [padTo_eq]
  apply List.ext_getElem?
  intro i
  rw [mat, List.getElem?_map]
  by_cases hi : i < n
  · rw [List.getElem?_range hi, Option.map_some, lk_enum, List.getElem?_append]
    by_cases h2 : i < args.length
    · rw [if_pos h2, if_pos (by omega)]; simp [List.getD_eq_getElem?_getD, h2]
    · rw [if_neg h2, if_neg (by omega), List.getElem?_replicate, if_pos (by omega)]
  · rw [List.getElem?_eq_none (by simp; omega), List.getElem?_eq_none (by simpa using hi)]; rfl

/-! ### Values of operands -/
theorem evT_tmp (n : Nat) (η : Env) (i : Nat) : evT (mat n η) (.tmp i) = some (if i < n then lk η i else .undef) := by show some _ = _; rw [lget_mat]
theorem evT_int (t : List AV) (k : IntKind) (n : Int) : evT t (.const (.int k n)) = some (.int k n) := rfl
theorem evT_bool (t : List AV) (b : Bool) : evT t (.const (.bool b)) = some (.bool b) := rfl
theorem evT_str (t : List AV) (l : List UInt8) : evT t (.const (.string ⟨⟨l⟩⟩)) = some (.str l) := rfl
theorem evT_nilPtr (t : List AV) : evT t (.const (.pointer none)) = some .nilPtr := rfl
theorem evT_nilSlice (t : List AV) : evT t (.const (.slice none 0 0)) = some .nilSlice := rfl
theorem evT_nilMap (t : List AV) : evT t (.const (.map none)) = some .nilMap := rfl
theorem evT_nilFunc (t : List AV) : evT t (.const .nilFunc) = some .nilFunc := rfl
theorem evT_nilIface (t : List AV) : evT t (.const .nilIface) = some .nilIface := rfl
theorem evT_agg (t : List AV) (a : Array Value) : evT t (.const (.agg a)) = match ofVals a.toList with | some l => some (.agg l) | none => none := rfl
theorem evT_func (t : List AV) (f : FuncId) : evT t (.func f) = some (.fn f [] []) := rfl
theorem ofVals_nil : ofVals [] = some [] := rfl
theorem ofVal1_int (k : IntKind) (n : Int) : ofVal1 (.int k n) = some (.int k n) := rfl
theorem ofVal1_bool (b : Bool) : ofVal1 (.bool b) = some (.bool b) := rfl
theorem ofVal1_str (l : List UInt8) : ofVal1 (.string ⟨⟨l⟩⟩) = some (.str l) := rfl
theorem ofVal1_nilSlice : ofVal1 (.slice none 0 0) = some .nilSlice := rfl
theorem ofVal1_nilPtr : ofVal1 (.pointer none) = some .nilPtr := rfl
theorem ofVal1_nilMap : ofVal1 (.map none) = some .nilMap := rfl
theorem ofVal1_nilFunc : ofVal1 .nilFunc = some .nilFunc := rfl
theorem ofVal1_nilIface : ofVal1 .nilIface = some .nilIface := rfl

theorem evs_nil (t : List AV) : evs t [] = some [] := rfl
theorem evParts_nil (t : List AV) : evParts t [] = some [] := rfl
theorem optEv_none (t : List AV) : optEv t none = some none := rfl
theorem optEv_some' (t : List AV) (x : Operand) : optEv t (some x) = match evT t x with
    | some v => some (some v)
    | none => none := rfl
theorem ev1_def {β : Type} (t : List AV) (e : β) (x : Operand) (f : AV → β) : ev1 t e x f = match evT t x with
    | some v => f v
    | none => e := rfl
theorem withSt_some (σ : St) (v : AV) : withSt σ (some v) = some (v, σ) := rfl
theorem withUndef_some (σ : St) : withUndef (some σ) = some (.undef, σ) := rfl

section run
variable (C : Cfg) {β : Type}

/-- Words that keep 'simp' out of an argument: what stands behind has a type that names it. -/
abbrev HS {α : Type} (_ : α) : Type := St
abbrev HX {α : Type} (_ : α) : Type := Option (AV × St)
abbrev HV {α : Type} (_ : α) : Type := AV
noncomputable def run (c : Code) (a : AAct) (k : Exit → AAct → St → Option β) (σ : HS (c, a, k)) : Option β := Option.bind ((W C).c c a σ) fun p => k p.1 p.2.1 p.2.2
noncomputable def runO (ops l : List Oper) (a : AAct) (k : AAct → St → Option β) (σ : HS (ops, l, a, k)) : Option β := Option.bind (stepOps C (W C) ops l a σ) fun p => k p.2.1 p.2.2
def bnd (k : AV → St → Option β) (x : HX k) : Option β := Option.bind x fun p => k p.1 p.2
noncomputable def opR (o : Op) (t : List AV) (σ : St) : ResF := stepOp C (W C) o t σ

theorem bnd_some (v : AV) (σ : St) (k : AV → St → Option β) : bnd k (some (v, σ)) = k v σ := rfl
theorem bnd_none (k : AV → St → Option β) : bnd k none = none := rfl

noncomputable def thenK (y : Code) (k : Exit → AAct → St → Option β) (e : Exit) (a : AAct) (σ : St) : Option β := match e with
  | .normal => run C y a k σ
  | e => k e a σ
def blockK (id : Nat) (k : Exit → AAct → St → Option β) (e : Exit) (a : AAct) (σ : St) : Option β := match e with
  | .exit j => if j = id then k .normal a σ else k (.exit j) a σ
  | e => k e a σ
theorem thenK_normal (y : Code) (k : Exit → AAct → St → Option β) (a : AAct) (σ : St) : thenK C y k .normal a σ = run C y a k σ := rfl
theorem thenK_ret (y : Code) (k : Exit → AAct → St → Option β) (a : AAct) (σ : St) : thenK C y k .ret a σ = k .ret a σ := rfl
theorem thenK_exit (y : Code) (k : Exit → AAct → St → Option β) (n : Nat) (a : AAct) (σ : St) : thenK C y k (.exit n) a σ = k (.exit n) a σ := rfl
theorem blockK_normal (id : Nat) (k : Exit → AAct → St → Option β) (a : AAct) (σ : St) : blockK id k .normal a σ = k .normal a σ := rfl
theorem blockK_ret (id : Nat) (k : Exit → AAct → St → Option β) (a : AAct) (σ : St) : blockK id k .ret a σ = k .ret a σ := rfl
theorem blockK_exit (id : Nat) (k : Exit → AAct → St → Option β) (n : Nat) (a : AAct) (σ : St) : blockK id k (.exit n) a σ = if n = id then k .normal a σ else k (.exit n) a σ := rfl

theorem run_skip (a : AAct) (σ : St) (k : Exit → AAct → St → Option β) : run C .skip a k σ = k .normal a σ := by unfold run; rw [W_c]; rfl
theorem run_ret (a : AAct) (σ : St) (k : Exit → AAct → St → Option β) : run C .ret a k σ = k .ret a σ := by unfold run; rw [W_c]; rfl
theorem run_exit (n : Nat) (a : AAct) (σ : St) (k : Exit → AAct → St → Option β) : run C (.exit n) a k σ = k (.exit n) a σ := by unfold run; rw [W_c]; rfl
theorem run_label (n : Nat) (a : AAct) (σ : St) (k : Exit → AAct → St → Option β) : run C (.label n) a k σ = k .normal a σ := by unfold run; rw [W_c]; rfl
theorem run_seq (x y : Code) (a : AAct) (σ : St) (k : Exit → AAct → St → Option β) : run C (.seq x y) a k σ = run C x a (thenK C y k) σ := by
  unfold run
  rw [W_c]
  show Option.bind (seqC (W C) y ((W C).c x a σ)) _ = _
  cases (W C).c x a σ with
  | none => rfl
  | some p =>
    obtain ⟨e, a', σ'⟩ := p
    cases e <;> rfl
theorem run_block (id : Nat) (b : Code) (a : AAct) (σ : St) (k : Exit → AAct → St → Option β) : run C (.block id b) a k σ = run C b a (blockK id k) σ := by
  unfold run
  rw [W_c]
  show Option.bind (blockC id ((W C).c b a σ)) _ = _
  cases (W C).c b a σ with
  | none => rfl
  | some p =>
    obtain ⟨e, a', σ'⟩ := p
    cases e with
    | exit j =>
      show Option.bind (boolC (some (Exit.exit j, a', σ')) (some (Exit.normal, a', σ')) (Nat.beq j id)) _ = if j = id then k .normal a' σ' else k (.exit j) a' σ'
      by_cases h : j = id
      · subst h; rw [if_pos rfl, nbeq, decide_eq_true rfl]; rfl
      · rw [if_neg h, nbeq, decide_eq_false h]; rfl
    | _ => rfl
theorem run_loop (b : Code) (a : AAct) (σ : St) (k : Exit → AAct → St → Option β) : run C (.loop b) a k σ = run C b a (thenK C (.loop b) k) σ := by
  unfold run
  rw [W_c]
  show Option.bind (seqC (W C) (.loop b) ((W C).c b a σ)) _ = _
  cases (W C).c b a σ with
  | none => rfl
  | some p =>
    obtain ⟨e, a', σ'⟩ := p
    cases e <;> rfl

/-- A branch. -/
def condV (x y : Option β) (v : HV (x, y)) : Option β := match v with
  | .bool b => bif b then x else y
  | _ => none
theorem condV_bool (b : Bool) (x y : Option β) : condV x y (.bool b) = bif b then x else y := rfl
theorem condV_true (x y : Option β) : condV x y (.bool true) = x := rfl
theorem condV_false (x y : Option β) : condV x y (.bool false) = y := rfl
theorem condV_dec (p : Prop) [Decidable p] (x y : Option β) : condV x y (.bool (decide p)) = if p then x else y := by by_cases h : p <;> simp [condV, h]
theorem condV_not (b : Bool) (x y : Option β) : condV x y (.bool (!b)) = condV y x (.bool b) := by cases b <;> rfl
theorem run_cond (n : Nat) (η : Env) (d : List Nat) (r : Bool) (i : Nat) (x y : Code) (σ : St) (k : Exit → AAct → St → Option β) :
    run C (.cond (.tmp i) x y) ⟨mat n η, d, r⟩ k σ = condV (run C x ⟨mat n η, d, r⟩ k σ) (run C y ⟨mat n η, d, r⟩ k σ) (if i < n then lk η i else .undef) := by
  unfold run
  rw [W_c]
  show Option.bind (condC (W C) x y ⟨mat n η, d, r⟩ σ (some (lget (mat n η) i .undef))) _ = _
  rw [lget_mat]
  generalize (if i < n then lk η i else .undef) = v
  cases v with
  | bool b => cases b <;> rfl
  | _ => rfl
theorem run_cond_true (x y : Code) (a : AAct) (σ : St) (k : Exit → AAct → St → Option β) : run C (.cond (.const (.bool true)) x y) a k σ = run C x a k σ := by unfold run; rw [W_c]; rfl
theorem run_cond_false (x y : Code) (a : AAct) (σ : St) (k : Exit → AAct → St → Option β) : run C (.cond (.const (.bool false)) x y) a k σ = run C y a k σ := by unfold run; rw [W_c]; rfl

theorem stepOps_normal (ih : Evs) (ops : List Oper) : ∀ (l : List Oper) (a : AAct) (σ : St) (e : Exit) (a' : AAct) (σ' : St), stepOps C ih ops l a σ = some (e, a', σ') → e = .normal
  | [], a, σ, e, a', σ', h => by cases h; rfl
  | o :: l, a, σ, e, a', σ', h => by
    rw [stepOps_cons] at h
    simp only [putK_eq] at h
    cases hw : wantedA ops o a.tmps
    · rw [hw, boolC_false] at h; exact stepOps_normal ih ops l _ _ _ _ _ h
    · rw [hw, boolC_true] at h
      split at h
      · exact stepOps_normal ih ops l _ _ _ _ _ h
      · cases h

theorem run_regionA (id : Nat) (ops : Array Oper) (a : AAct) (σ : St) (k : Exit → AAct → St → Option β) : run C (.region id ops false) a k σ = runO C ops.toList ops.toList a (k .normal) σ := by
  unfold run runO
  rw [W_c]
  show Option.bind (stepOps C (W C) ops.toList ops.toList a σ) _ = _
  cases h : stepOps C (W C) ops.toList ops.toList a σ with
  | none => rfl
  | some p => obtain ⟨e, a', σ'⟩ := p; rw [stepOps_normal C _ _ _ _ _ _ _ _ h]; rfl

theorem run_region (id : Nat) (ops : List Oper) (a : AAct) (σ : St) (k : Exit → AAct → St → Option β) : run C (.region id ops.toArray false) a k σ = runO C ops ops a (k .normal) σ := by
  rw [run_regionA, List.toList_toArray]
theorem runO_app (ops l m : List Oper) (o : Oper) (a : AAct) (σ : St) (k : AAct → St → Option β) : runO C ops (List.append (o :: l) m) a k σ = runO C ops (o :: List.append l m) a k σ := rfl
theorem runO_app0 (ops m : List Oper) (a : AAct) (σ : St) (k : AAct → St → Option β) : runO C ops (List.append [] m) a k σ = runO C ops m a k σ := rfl
theorem runO_nil (ops : List Oper) (a : AAct) (σ : St) (k : AAct → St → Option β) : runO C ops [] a k σ = k a σ := rfl

/-- The place of an operation's value. -/
def dstAt (ops : List Oper) (j : Nat) : Option Tmp := match ops with
  | [] => none
  | o :: l => match j with
    | 0 => o.dst
    | j + 1 => dstAt l j
theorem dstAt_zero (o : Oper) (l : List Oper) : dstAt (o :: l) 0 = o.dst := rfl
theorem dstAt_app (o : Oper) (l m : List Oper) (j : Nat) : dstAt (List.append (o :: l) m) j = dstAt (o :: List.append l m) j := rfl
theorem dstAt_app0 (m : List Oper) (j : Nat) : dstAt (List.append [] m) j = dstAt m j := rfl
theorem dstAt_succ (o : Oper) (l : List Oper) (j : Nat) : dstAt (o :: l) (j + 1) = dstAt l j := rfl
def isB (v : AV) (want : Bool) : Bool := match v with
  | .bool b => b == want
  | _ => false
theorem isB_bool (b want : Bool) : isB (.bool b) want = (b == want) := rfl
theorem isB_undef (w : Bool) : isB .undef w = false := rfl
theorem isB_true (b : Bool) : isB (.bool b) true = b := by cases b <;> rfl
theorem isB_false (b : Bool) : isB (.bool b) false = !b := by cases b <;> rfl
def yes (d : Option Tmp) (n : Nat) (η : Env) (want : Bool) : Bool := match d with
  | some d => isB (if d < n then lk η d else .undef) want
  | none => false
theorem yes_some (d : Tmp) (n : Nat) (η : Env) (want : Bool) : yes (some d) n η want = isB (if d < n then lk η d else .undef) want := rfl
theorem wantedA_guard (ops : List Oper) (dst : Option Tmp) (op : Op) (ty : TypeId) (pos : String) (aft : Array Edge) (j : Nat) (w : Bool) (n : Nat) (η : Env) :
    wantedA ops ⟨dst, op, ty, pos, aft, some (j, w)⟩ (mat n η) = yes (dstAt ops j) n η w := by
  show yieldedA ops (mat n η) j w = _
  unfold yieldedA
  rw [ldrop_eq]
  induction ops generalizing j with
  | nil => simp [dstAt, yes]
  | cons o l ih =>
    cases j with
    | zero =>
      show (match o.dst with | some d => _ | none => false) = yes o.dst n η w
      cases o.dst with
      | none => rfl
      | some d =>
        simp only [lget_mat, yes_some]
        generalize (if d < n then lk η d else .undef) = v
        cases v with
        | bool b => cases b <;> cases w <;> rfl
        | _ => rfl
    | succ j => rw [List.drop_succ_cons]; exact ih j

theorem runO_plain (ops l : List Oper) (d : Tmp) (op : Op) (ty : TypeId) (pos : String) (aft : Array Edge) (n : Nat) (η : Env) (ds : List Nat) (r : Bool) (σ : St) (k : AAct → St → Option β) :
    runO C ops (⟨some d, op, ty, pos, aft, none⟩ :: l) ⟨mat n η, ds, r⟩ k σ = bnd (fun v σ' => runO C ops l ⟨mat n ((d, v) :: η), ds, r⟩ k σ') (opR C op (mat n η) σ) := by
  unfold runO bnd opR
  rw [stepOps_cons]
  simp only [putK_eq]
  show Option.bind (match stepOp C (W C) op (mat n η) σ with | some (v, σ') => _ | none => none) _ = _
  cases stepOp C (W C) op (mat n η) σ with
  | none => rfl
  | some p => obtain ⟨v, σ'⟩ := p; simp only [Option.bind_some, AAct.put, set_mat]
theorem runO_bare (ops l : List Oper) (op : Op) (ty : TypeId) (pos : String) (aft : Array Edge) (n : Nat) (η : Env) (ds : List Nat) (r : Bool) (σ : St) (k : AAct → St → Option β) :
    runO C ops (⟨none, op, ty, pos, aft, none⟩ :: l) ⟨mat n η, ds, r⟩ k σ = bnd (fun _ σ' => runO C ops l ⟨mat n η, ds, r⟩ k σ') (opR C op (mat n η) σ) := by
  unfold runO bnd opR
  rw [stepOps_cons]
  simp only [putK_eq]
  show Option.bind (match stepOp C (W C) op (mat n η) σ with | some (v, σ') => _ | none => none) _ = _
  cases stepOp C (W C) op (mat n η) σ with
  | none => rfl
  | some p => rfl
/-- An operation under a guard: what it would come to else. -/
def gd (g : Bool) (x : Option (AV × St)) (σ : St) : Option (AV × St) := bif g then x else some (.undef, σ)
theorem gd_true (x : Option (AV × St)) (σ : St) : gd true x σ = x := rfl
theorem gd_false (x : Option (AV × St)) (σ : St) : gd false x σ = some (.undef, σ) := rfl
theorem runO_guard (ops l : List Oper) (d : Tmp) (op : Op) (ty : TypeId) (pos : String) (aft : Array Edge) (j : Nat) (w : Bool) (n : Nat) (η : Env) (ds : List Nat) (r : Bool) (σ : St) (k : AAct → St → Option β) :
    runO C ops (⟨some d, op, ty, pos, aft, some (j, w)⟩ :: l) ⟨mat n η, ds, r⟩ k σ =
      condV (bnd (fun v σ' => runO C ops l ⟨mat n ((d, v) :: η), ds, r⟩ k σ') (opR C op (mat n η) σ)) (runO C ops l ⟨mat n ((d, .undef) :: η), ds, r⟩ k σ) (.bool (yes (dstAt ops j) n η w)) := by
  unfold runO bnd opR
  rw [stepOps_cons]
  simp only [putK_eq, wantedA_guard]
  cases yes (dstAt ops j) n η w
  · show Option.bind (stepOps C (W C) ops l (AAct.put ⟨mat n η, ds, r⟩ (some d) .undef) σ) _ = Option.bind (stepOps C (W C) ops l ⟨mat n ((d, .undef) :: η), ds, r⟩ σ) _
    simp only [AAct.put, set_mat]
  · show Option.bind (match stepOp C (W C) op (mat n η) σ with | some (v, σ') => _ | none => none) _ = _
    simp only [condV_bool, cond_true]
    cases stepOp C (W C) op (mat n η) σ with
    | none => rfl
    | some p => obtain ⟨v, σ'⟩ := p; simp only [Option.bind_some, AAct.put, set_mat]
theorem runO_guardB (ops l : List Oper) (op : Op) (ty : TypeId) (pos : String) (aft : Array Edge) (j : Nat) (w : Bool) (n : Nat) (η : Env) (ds : List Nat) (r : Bool) (σ : St) (k : AAct → St → Option β) :
    runO C ops (⟨none, op, ty, pos, aft, some (j, w)⟩ :: l) ⟨mat n η, ds, r⟩ k σ =
      condV (bnd (fun _ σ' => runO C ops l ⟨mat n η, ds, r⟩ k σ') (opR C op (mat n η) σ)) (runO C ops l ⟨mat n η, ds, r⟩ k σ) (.bool (yes (dstAt ops j) n η w)) := by
  unfold runO bnd opR
  rw [stepOps_cons]
  simp only [putK_eq, wantedA_guard]
  cases yes (dstAt ops j) n η w
  · rfl
  · show Option.bind (match stepOp C (W C) op (mat n η) σ with | some (v, σ') => _ | none => none) _ = _
    simp only [condV_bool, cond_true]
    cases stepOp C (W C) op (mat n η) σ with
    | none => rfl
    | some p => rfl

/-! #### operations -/
noncomputable def ev1' {β : Type} (t : List AV) (x : Operand) (f : AV → Option β) : Option β := match evT t x with
  | some v => f v
  | none => none
section ops
variable (t : List AV) (σ : St)
theorem opR_move (x : Operand) : opR C (.move x) t σ = withSt σ (evT t x) := rfl
theorem opR_assign (x : Operand) : opR C (.assign x) t σ = withSt σ (evT t x) := rfl
theorem opR_pick (c x y : Operand) : opR C (.pick c x y) t σ = ev1 t none c fun c => match c with
  | .bool b => ev1 t none x fun x => ev1 t none y fun y => some (bif b then x else y, σ)
  | _ => none := by
  show oPick t σ c x y = _
  unfold oPick
  congr 1
  funext c
  cases c with
  | bool b => cases b <;> rfl
  | _ => rfl
theorem opR_alloc (ty : TypeId) : opR C (.alloc ty) t σ = oAlloc C.T σ ty := rfl
theorem opR_box (ty : TypeId) (x : Operand) : opR C (.box ty x) t σ = ev1 t none x fun v => oNew σ v := rfl
theorem opR_build (ty : TypeId) (ps : List (Nat × Operand)) : opR C (.build ty ps.toArray) t σ = match evParts t ps with
  | some l => withSt σ (aBuild C.T ty l)
  | none => none := by
  show oBuild C.T t σ ty ps.toArray = _
  unfold oBuild; rw [List.toList_toArray]; rfl
theorem opR_buildSlice (ty : TypeId) (n : Nat) (ps : List (Nat × Operand)) : opR C (.buildSlice ty n ps.toArray) t σ = match evParts t ps with
  | some l => aBuildSlice C.T σ ty n l
  | none => none := by
  show oBuildSlice C.T t σ ty n ps.toArray = _
  unfold oBuildSlice; rw [List.toList_toArray]; rfl
theorem opR_load (ty : TypeId) (x : Operand) : opR C (.load ty x) t σ = ev1 t none x fun p => withSt σ (aLoad C.T σ ty p) := rfl
theorem opR_store (ty : TypeId) (x y : Operand) : opR C (.store ty x y) t σ = ev1 t none x fun p => ev1 t none y fun v => withUndef (aStore C.T σ ty p v) := rfl
theorem opR_nilCheck (x : Operand) : opR C (.nilCheck x) t σ = ev1 t none x fun v => oNilCheck σ v := rfl
theorem opR_binOp (o : BinOp) (ty : TypeId) (x y : Operand) (ty' : TypeId) : opR C (.binOp o ty x y ty') t σ = ev1 t none x fun a => ev1 t none y fun b => withSt σ (aBin C.T C.E o ty a b) := rfl
theorem opR_unOp (o : UnOp) (ty : TypeId) (x : Operand) : opR C (.unOp o ty x) t σ = ev1 t none x fun a => withSt σ (aUn o a) := rfl
theorem opR_convert (s d : TypeId) (x : Operand) : opR C (.convert s d x) t σ = ev1 t none x fun a => aConvert C.T σ s d a := rfl
theorem opR_makeFunc (f : FuncId) (a b : List Operand) : opR C (.makeFunc (.func f) a.toArray b.toArray) t σ = match evs t a with
  | some a => match evs t b with
    | some b => some (.fn f a b, σ)
    | none => none
  | none => none := by
  show oMakeFunc t σ (.func f) a.toArray b.toArray = _
  unfold oMakeFunc; simp only [List.toList_toArray]; rfl
theorem opR_makeMap (ty : TypeId) : opR C (.makeMap ty none) t σ = newMap σ := rfl
theorem opR_makeMap1 (ty : TypeId) (x : Operand) : opR C (.makeMap ty (some x)) t σ = oMakeMap C.T t σ ty (some x) := rfl
theorem opR_makeSlice (ty : TypeId) (x y : Operand) : opR C (.makeSlice ty x y) t σ = ev1 t none x fun l => ev1 t none y fun c => aMakeSlice C.T σ ty l c := rfl
theorem opR_slice (ty : TypeId) (x : Operand) (lo hi : Option Operand) : opR C (.slice ty x lo hi none) t σ = ev1 t none x fun x => match optEv t lo with
    | some lo => match optEv t hi with
      | some hi => withSt σ (aSlice C.T σ ty x lo hi)
      | none => none
    | none => none := rfl
theorem opR_slice3 (ty : TypeId) (x : Operand) (lo hi : Option Operand) (mx : Operand) : opR C (.slice ty x lo hi (some mx)) t σ = ev1 t none x fun x => ev1 t none mx fun mx => match optEv t lo with
    | some lo => match optEv t hi with
      | some hi => withSt σ (aSlice3 C.T ty x lo hi mx)
      | none => none
    | none => none := rfl
theorem opR_fieldAddr (s : TypeId) (x : Operand) (f : Nat) : opR C (.fieldAddr s x f) t σ = ev1 t none x fun p => withSt σ (aFieldAddr C.T s p f) := rfl
theorem opR_field (s : TypeId) (x : Operand) (f : Nat) : opR C (.field s x f) t σ = ev1 t none x fun p => withSt σ (aField C.T s p f) := rfl
theorem opR_indexAddr (ty : TypeId) (x i : Operand) : opR C (.indexAddr ty x i) t σ = ev1 t none x fun x => ev1 t none i fun i => withSt σ (aIndexAddr C.T ty x i) := rfl
theorem opR_index (ty : TypeId) (x i : Operand) : opR C (.index ty x i) t σ = ev1 t none x fun x => ev1 t none i fun i => withSt σ (aIndex C.T ty x i) := rfl
theorem opR_lookup (ty : TypeId) (m k : Operand) (ok : Bool) : opR C (.lookup ty m k ok) t σ = ev1 t none m fun m => ev1 t none k fun k => withSt σ (aLookup C.T σ ty m k ok) := rfl
theorem opR_mapUpdate (ty : TypeId) (m k v : Operand) : opR C (.mapUpdate ty m k v) t σ = ev1 t none m fun m => ev1 t none k fun k => ev1 t none v fun v => withUndef (aMapUpdate C.T σ ty m k v) := rfl
theorem opR_insert (ty : TypeId) (m k v : Operand) : opR C (.insert ty m k v) t σ = ev1 t none m fun m => ev1 t none k fun k => ev1 t none v fun v => withUndef (aMapUpdate C.T σ ty m k v) := rfl
theorem opR_extract (x : Operand) (i : Nat) : opR C (.extract x i) t σ = ev1 t none x fun v => oExtract σ v i := rfl
theorem opR_callV (f : Operand) (args : List Operand) (at_ : Array TypeId) : opR C (.call ⟨.value f, args.toArray, at_⟩) t σ = ev1 t none f fun f => match evs t args with
    | some args => callV (W C) f args σ
    | none => none := by
  show ev1' t f (fun f => match evs t args.toArray.toList with
    | some args => callV (W C) f args σ
    | none => none) = _
  rw [List.toList_toArray]; rfl
theorem opR_callB (b : Builtin) (args : List Operand) (at_ : Array TypeId) : opR C (.call ⟨.builtin b, args.toArray, at_⟩) t σ = match evs t args with
    | some l => aBuiltin C.T σ b at_ l
    | none => none := by
  show (match evs t args.toArray.toList with
    | some l => aBuiltin C.T σ b at_ l
    | none => none) = _
  rw [List.toList_toArray]
end ops
theorem callV_fn (f : FuncId) (a b args : List AV) (σ : St) : callV (W C) (.fn f a b) args σ = (W C).f f (a ++ (args ++ b)) σ := by
  show (W C).f f (lapp a (lapp args b)) σ = _
  rw [lapp_eq, lapp_eq]
theorem callV_yield (l : Nat) (args : List AV) (σ : St) : callV (W C) (.yield l) args σ = (W C).r l args σ := rfl

/-! #### functions -/
/-- How a function is left. -/
noncomputable def leaveK (fn : Func) (e : Exit) (a : AAct) (σ : St) : ResF := match e with
  | .normal => match killAll a.defers σ with
    | some σ' => withSt σ' (aResults C σ' a.tmps fn)
    | none => none
  | .ret => match killAll a.defers σ with
    | some σ' => withSt σ' (aResults C σ' a.tmps fn)
    | none => none
  | _ => none
theorem leaveK_ret (fn : Func) (t : List AV) (r : Bool) (σ : St) : leaveK C fn .ret ⟨t, [], r⟩ σ = withSt σ (aResults C σ t fn) := rfl
theorem leaveK_normal (fn : Func) (t : List AV) (r : Bool) (σ : St) : leaveK C fn .normal ⟨t, [], r⟩ σ = withSt σ (aResults C σ t fn) := rfl
theorem W_run {f : FuncId} {fn : Func} {c : Code} (hS : C.S f = none) (hF : C.F f = some fn) (hb : fn.body = some c) {args : List AV} (hl : args.length ≤ fn.ntmps) (σ : St) :
    (W C).f f args σ = run C c ⟨mat fn.ntmps (enum 0 args), [], false⟩ (leaveK C fn) σ := by
  rw [W_f]
  unfold stepF
  rw [hS, hF]
  simp only [hb, forceL_eq]
  rw [padTo_mat _ _ hl]
  unfold run leaveF
  cases (W C).c c ⟨mat fn.ntmps (enum 0 args), [], false⟩ σ with
  | none => rfl
  | some p => obtain ⟨e, a, σ'⟩ := p; cases e <;> rfl
noncomputable def resVar (σ : St) (n : Nat) (η : Env) (x : ResultVar) : Option AV := match x with
  | .tmp t => some (if t < n then lk η t else .undef)
  | .cell a t => aLoad C.T σ t (if a < n then lk η a else .undef)
theorem resVar_tmp (σ : St) (n : Nat) (η : Env) (t : Tmp) : resVar C σ n η (.tmp t) = some (if t < n then lk η t else .undef) := rfl
theorem resVar_cell (σ : St) (n : Nat) (η : Env) (a : Tmp) (t : TypeId) : resVar C σ n η (.cell a t) = aLoad C.T σ t (if a < n then lk η a else .undef) := rfl
noncomputable def resVars (σ : St) (n : Nat) (η : Env) (l : List ResultVar) : Option (List AV) := match l with
  | [] => some []
  | x :: l => match resVar C σ n η x with
    | some v => match resVars σ n η l with
      | some r => some (v :: r)
      | none => none
    | none => none
theorem resVars_nil (σ : St) (n : Nat) (η : Env) : resVars C σ n η [] = some [] := rfl
theorem resVars_cons (σ : St) (n : Nat) (η : Env) (x : ResultVar) (l : List ResultVar) : resVars C σ n η (x :: l) = match resVar C σ n η x with
    | some v => match resVars C σ n η l with
      | some r => some (v :: r)
      | none => none
    | none => none := rfl
def tup : List AV → AV
  | [v] => v
  | vs => .tuple vs
theorem tup_nil : tup [] = .tuple [] := rfl
theorem tup_one (v : AV) : tup [v] = v := rfl
theorem tup_two (v w : AV) (l : List AV) : tup (v :: w :: l) = .tuple (v :: w :: l) := rfl
theorem aResults_mat (σ : St) (n : Nat) (η : Env) (fn : Func) : aResults C σ (mat n η) fn = match resVars C σ n η fn.results.toList with
    | some vs => some (tup vs)
    | none => none := by
  have key : ∀ l, aResultsL C σ (mat n η) l = resVars C σ n η l := by
    intro l
    induction l with
    | nil => rfl
    | cons x l ih =>
      have e : aResultsL C σ (mat n η) (x :: l) = match aResult C σ (mat n η) x with
        | some v => match aResultsL C σ (mat n η) l with
          | some vs => some (v :: vs)
          | none => none
        | none => none := rfl
      rw [e, ih, resVars_cons]
      have : aResult C σ (mat n η) x = resVar C σ n η x := by
        cases x with
        | tmp t => simp only [aResult, resVar, lget_mat]
        | cell a t => simp only [aResult, resVar, lget_mat]
      rw [this]
  unfold aResults
  rw [key]
  cases resVars C σ n η fn.results.toList with
  | none => rfl
  | some vs => cases vs with
    | nil => rfl
    | cons v l => cases l <;> rfl
end run
end Go.Abs
