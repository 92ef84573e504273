/-
  THE ABSTRACT MACHINE: a deterministic evaluator of the model's code over an abstract store (block numbers and spare capacity are not seen). What it answers is what every run of the model answers (AbsSound).
  Its functions are typed by recursors and in continuation style: so the kernel reckons them quickly.
-/
import Derived.RangeFuncLeaves
import Derived.OrdersIn
set_option linter.unusedVariables false
namespace Go.Abs
open Go
noncomputable section

/-! ### Small functions, by recursors -/
section small
universe u v
variable {α : Type u} {β : Sort v}

def natC (z : β) (s : Nat → β) (n : Nat) : β := Nat.rec z (fun m _ => s m) n
def boolC (f t : β) (b : Bool) : β := Bool.rec f t b

/-- 'f n', n reckoned first. -/
def forceNat (n : Nat) (f : Nat → β) : β := natC (f 0) (fun m => f (m + 1)) n
def forceInt (n : Int) (f : Int → β) : β := Int.rec (fun n => forceNat n fun n => f (.ofNat n)) (fun n => forceNat n fun n => f (.negSucc n)) n
def forceBool (b : Bool) (f : Bool → β) : β := boolC (f false) (f true) b
def forceL (l : List α) : (List α → β) → β := List.rec (fun f => f []) (fun x _ ih f => ih fun l => f (x :: l)) l

/-- The place n of a list, or d. -/
def lget (l : List α) : Nat → α → α := List.rec (fun _ d => d) (fun x _ ih n d => natC x (fun m => ih m d) n) l
/-- The list with v in the place n. -/
def setK (v : α) (l : List α) : Nat → (List α → β) → β :=
  List.rec (fun _ f => f []) (fun x l ih n f => natC (f (v :: l)) (fun m => ih m fun l => f (x :: l)) n) l
/-- Without the first n. -/
def ldrop (l : List α) : Nat → List α := List.rec (fun _ => []) (fun x l ih n => natC (x :: l) ih n) l
/-- The first n, if there are so many; else e. -/
def takeK (e : β) (n : Nat) : List α → (List α → β) → β :=
  Nat.rec (fun _ f => f []) (fun _ ih l f => List.rec e (fun x l _ => ih l fun r => f (x :: r)) l) n
/-- new over the first of l; e if l is shorter. -/
def overK (e : β) (new : List α) : List α → (List α → β) → β :=
  List.rec (fun l f => f l) (fun x _ ih l f => List.rec e (fun _ l _ => ih l fun r => f (x :: r)) l) new
/-- new over l from the place n on; e if that goes beyond its end. -/
def spliceK (e : β) (new : List α) (l : List α) : Nat → (List α → β) → β :=
  List.rec (fun n f => natC (overK e new [] f) (fun _ => e) n) (fun x l ih n f => natC (overK e new (x :: l) f) (fun m => ih m fun r => f (x :: r)) n) l
/-- The first n, or all. -/
def ltake (l : List α) : Nat → List α := List.rec (fun _ => []) (fun x _ ih n => natC [] (fun m => x :: ih m) n) l
def llen (l : List α) : Nat := List.rec 0 (fun _ _ n => n + 1) l
def lapp (l r : List α) : List α := List.rec r (fun x _ ih => x :: ih) l

def splice (l : List α) (n : Nat) (new : List α) : List α := l.take n ++ new ++ l.drop (n + new.length)

theorem natC_zero (z : β) (s : Nat → β) : natC z s 0 = z := rfl
theorem natC_succ (z : β) (s : Nat → β) (n : Nat) : natC z s (n + 1) = s n := rfl
theorem boolC_eq (f t : β) (b : Bool) : boolC f t b = cond b t f := by cases b <;> rfl
theorem forceNat_eq (n : Nat) (f : Nat → β) : forceNat n f = f n := by cases n <;> rfl
theorem forceInt_eq (n : Int) (f : Int → β) : forceInt n f = f n := by cases n <;> simp only [forceInt, forceNat_eq]
theorem forceBool_eq (b : Bool) (f : Bool → β) : forceBool b f = f b := by cases b <;> rfl
theorem forceL_eq (l : List α) (f : List α → β) : forceL l f = f l := by
  induction l generalizing f with
  | nil => rfl
  | cons x l ih => exact ih _
theorem lget_eq (l : List α) (n : Nat) (d : α) : lget l n d = l.getD n d := by
  induction l generalizing n with
  | nil => rfl
  | cons x l ih => cases n with
    | zero => rfl
    | succ n => simpa [lget, natC] using ih n
theorem setK_eq (v : α) (l : List α) (n : Nat) (f : List α → β) : setK v l n f = f (l.set n v) := by
  induction l generalizing n f with
  | nil => rfl
  | cons x l ih => cases n with
    | zero => rfl
    | succ n => exact ih n _
theorem ldrop_eq (l : List α) (n : Nat) : ldrop l n = l.drop n := by
  induction l generalizing n with
  | nil => cases n <;> rfl
  | cons x l ih => cases n with
    | zero => rfl
    | succ n => simpa [ldrop, natC] using ih n
theorem ltake_eq (l : List α) (n : Nat) : ltake l n = l.take n := by
  induction l generalizing n with
  | nil => cases n <;> rfl
  | cons x l ih => cases n with
    | zero => rfl
    | succ n => simpa [ltake, natC] using ih n
theorem takeK_eq (e : β) (n : Nat) (l : List α) (f : List α → β) : takeK e n l f = if n ≤ l.length then f (l.take n) else e := by
  induction n generalizing l f with
  | zero => rw [if_pos (Nat.zero_le _)]; rfl
  | succ n ih => cases l with
    | nil => simp [takeK]
    | cons x l =>
      have := ih l (fun r => f (x :: r))
      simp only [List.length_cons, Nat.add_le_add_iff_right, List.take_succ_cons]
      exact this
theorem overK_eq (e : β) (new l : List α) (f : List α → β) : overK e new l f = if new.length ≤ l.length then f (new ++ l.drop new.length) else e := by
  induction new generalizing l f with
  | nil => simp [overK]
  | cons x new ih => cases l with
    | nil => simp [overK]
    | cons y l =>
      have := ih l (fun r => f (x :: r))
      simp only [List.length_cons, Nat.add_le_add_iff_right, List.drop_succ_cons, List.cons_append]
      exact this
theorem spliceK_eq (e : β) (new l : List α) (n : Nat) (f : List α → β) : spliceK e new l n f = if n + new.length ≤ l.length then f (splice l n new) else e := by
  induction l generalizing n f with
  | nil => cases n with
    | zero =>
      have := overK_eq e new [] f
      simp only [List.length_nil, Nat.zero_add]
      rw [show spliceK e new [] 0 f = overK e new [] f from rfl, this]
      by_cases h : new.length ≤ 0
      · rw [if_pos (by simpa using h), if_pos (by simpa using h)]; simp [splice]
      · rw [if_neg (by simpa using h), if_neg (by simpa using h)]
    | succ n =>
      rw [if_neg (by simp)]
      rfl
  | cons x l ih => cases n with
    | zero =>
      rw [show spliceK e new (x :: l) 0 f = overK e new (x :: l) f from rfl, overK_eq]
      simp [splice]
    | succ n =>
      rw [show spliceK e new (x :: l) (n + 1) f = spliceK e new l n (fun r => f (x :: r)) from rfl, ih]
      have h1 : n + 1 + new.length ≤ (x :: l).length ↔ n + new.length ≤ l.length := by simp; omega
      by_cases h : n + new.length ≤ l.length
      · rw [if_pos h, if_pos (h1.2 h)]
        simp [splice, Nat.succ_add]
      · rw [if_neg h, if_neg (fun hh => h (h1.1 hh))]
theorem llen_eq (l : List α) : llen l = l.length := by
  induction l with
  | nil => rfl
  | cons x l ih => simp only [List.length_cons, ← ih]; rfl
theorem lapp_eq (l r : List α) : lapp l r = l ++ r := by
  induction l with
  | nil => rfl
  | cons x l ih => simp only [List.cons_append, ← ih]; rfl
end small

/-! ### Values -/

/-- Abstract values. -/
inductive AV where
  | bool (b : Bool)
  | int (k : IntKind) (n : Int)
  | str (s : List UInt8)
  | nilPtr
  | ptr (id off : Nat)
  | nilSlice
  | slice (id off len cap esz : Nat)
  | nilMap
  | map (id : Nat)
  | nilFunc
  | fn (f : FuncId) (first cap : List AV)
  | yield (id : Nat)
  | nilIface
  | agg (cs : List AV)
  | tuple (vs : List AV)
  deriving Inhabited

def AV.undef : AV := .tuple []

def forceAV {β : Type} (x : AV) (f : AV → β) : β :=
  match x with
  | .bool b => forceBool b fun b => f (.bool b)
  | .int k n => forceInt n fun n => f (.int k n)
  | .str s => forceL s fun s => f (.str s)
  | .ptr id off => forceNat id fun id => forceNat off fun off => f (.ptr id off)
  | .slice id off len cap esz => forceNat id fun id => forceNat off fun off => forceNat len fun len => forceNat cap fun cap => f (.slice id off len cap esz)
  | x => f x

theorem forceAV_eq {β : Type} (x : AV) (f : AV → β) : forceAV x f = f x := by
  cases x <;> simp only [forceAV, forceBool_eq, forceInt_eq, forceNat_eq, forceL_eq]

/-- A value of one cell. -/
def AV.one : AV → Bool
  | .agg _ | .tuple _ => false
  | _ => true

def AV.cells : AV → List AV
  | .agg cs => cs
  | v => [v]

/-- A scalar constant. -/
def ofVal1 : Value → Option AV
  | .bool b => some (.bool b)
  | .int k n => some (.int k n)
  | .string s => some (.str s.data.toList)
  | .pointer none => some .nilPtr
  | .slice none 0 0 => some .nilSlice
  | .map none => some .nilMap
  | .nilFunc => some .nilFunc
  | .nilIface => some .nilIface
  | _ => none

def ofVals (l : List Value) : Option (List AV) :=
  List.rec (some []) (fun v _ ih => match ofVal1 v with
    | some a => match ih with
      | some r => some (a :: r)
      | none => none
    | none => none) l

def ofVal : Value → Option AV
  | .agg cs => match ofVals cs.toList with
    | some l => some (.agg l)
    | none => none
  | .tuple cs => match cs.toList with
    | [] => some .undef
    | _ => none
  | v => ofVal1 v

/-- What is known of a type: what lies under its name, its cells, its bytes, its zero value; kill: is a slice of such elements given up where it is appended to (else it may be read still, not written). -/
structure TyI where
  desc : TypeDesc
  size : Nat
  bytes : Nat
  zero : Option AV
  agg : Bool
  kill : Bool

/-- A tree of values by the bits of their places. -/
inductive BT (α : Type) where
  | nil
  | node (v : α) (l r : BT α)

def BT.get {α : Type} (t : BT α) : Nat → Option α :=
  BT.rec (fun _ => none) (fun v _ _ ihl ihr n => natC (some v) (fun m => natC (ihl (m / 2)) (fun _ => ihr (m / 2)) (m % 2)) n) t

/-- The record of a range over a function. -/
structure ALoop where
  state : LoopState
  pending : Option Code
  tmps : List AV
  params : List Tmp
  assign : Code
  body : Code
  defers : Nat

structure AEntry where
  key : AV
  val : AV
  born : Nat

/-- Abstract objects. cells: what its first cells hold; how many leading cells may be frozen; may it not be written. -/
inductive AObj where
  | cells (vs : List AV) (fz : Nat) (ro : Bool)
  | map (es : List AEntry) (clock : Nat)
  | mapIter (map : Option Nat) (since : Nat) (seen : List Nat) (stepped : Nat)
  | loop (l : ALoop)
  | deferred
  | dead

/-- A tree of objects, by the bits of their numbers. -/
inductive Tree where
  | nil
  | node (o : Option AObj) (l r : Tree)

def Tree.get (t : Tree) : Nat → Option AObj :=
  Tree.rec (fun _ => none) (fun o _ _ ihl ihr n => natC o (fun m => natC (ihl (m / 2)) (fun _ => ihr (m / 2)) (m % 2)) n) t

def Tree.parts {β : Type} (t : Tree) (f : Option AObj → Tree → Tree → β) : β := Tree.rec (f none .nil .nil) (fun o l r _ _ => f o l r) t

def Tree.setK {β : Type} (o : AObj) (k : Nat) : Tree → Nat → (Tree → β) → β :=
  Nat.rec (fun t _ f => f t) (fun _ ih t n f => t.parts fun p l r =>
    natC (f (.node (some o) l r)) (fun m => natC (ih l (m / 2) fun l => f (.node p l r)) (fun _ => ih r (m / 2) fun r => f (.node p l r)) (m % 2)) n) k

def Tree.set (o : AObj) (k : Nat) (t : Tree) (n : Nat) : Tree := Tree.setK o k t n id

structure St where
  next : Nat
  objs : Tree

def St.get (σ : St) (id : Nat) : Option AObj := boolC none (σ.objs.get id) (Nat.blt id σ.next)
def St.set (σ : St) (id : Nat) (o : AObj) : St := { σ with objs := σ.objs.set o (id + 1) id }
def St.push (σ : St) (o : AObj) : St := { next := σ.next + 1, objs := σ.objs.set o (σ.next + 1) σ.next }

def forceObj {β : Type} (o : AObj) (f : AObj → β) : β :=
  match o with
  | .cells vs fz ro => forceL vs fun vs => forceNat fz fun fz => f (.cells vs fz ro)
  | .map es c => forceL es fun es => forceNat c fun c => f (.map es c)
  | .mapIter m s l p => forceL l fun l => f (.mapIter m s l p)
  | o => f o

def St.setK {β : Type} (σ : St) (id : Nat) (o : AObj) (f : St → β) : β := forceObj o fun o => Tree.setK o (id + 1) σ.objs id fun t => f { next := σ.next, objs := t }
def St.pushK {β : Type} (σ : St) (o : AObj) (f : St → β) : β := forceObj o fun o => Tree.setK o (σ.next + 1) σ.objs σ.next fun t => forceNat (σ.next + 1) fun n => f { next := n, objs := t }

structure AAct where
  tmps : List AV
  defers : List Nat
  inRound : Bool

def AAct.put (a : AAct) (d : Option Tmp) (v : AV) : AAct :=
  match d with
  | some d => { a with tmps := a.tmps.set d v }
  | none => a

def putK {β : Type} (a : AAct) (d : Option Tmp) (v : AV) (f : AAct → β) : β :=
  match d with
  | some d => forceAV v fun v => setK v a.tmps d fun t => f { tmps := t, defers := a.defers, inRound := a.inRound }
  | none => f a

def evT (tmps : List AV) : Operand → Option AV
  | .tmp t => some (lget tmps t .undef)
  | .const v => ofVal v
  | .global _ => none
  | .func f => some (.fn f [] [])

/-- The values of a list of operands. -/
def evs (tmps : List AV) (l : List Operand) : Option (List AV) :=
  List.rec (some []) (fun x _ ih => match evT tmps x with
    | some a => match ih with
      | some r => some (a :: r)
      | none => none
    | none => none) l

abbrev TT := TypeId → Option TyI

section ops
variable (T : TT)

def cellsOf (σ : St) (id : Nat) : Option (List AV) :=
  match σ.get id with
  | some (.cells vs _ _) => some vs
  | _ => none

/-- n cells of an object from a place on. -/
def loadN (σ : St) (id off n : Nat) : Option (List AV) :=
  match cellsOf σ id with
  | some vs => takeK none n (ldrop vs off) some
  | none => none

/-- Cells written into an object that has them. -/
def storeN (σ : St) (id off : Nat) (l : List AV) : Option St :=
  match σ.get id with
  | some (.cells vs fz false) => boolC none (spliceK none l vs off fun vs' => σ.setK id (.cells vs' fz false) some) (Nat.ble fz off)
  | _ => none

def load1 (σ : St) (id off : Nat) : Option AV :=
  match cellsOf σ id with
  | some vs => match ldrop vs off with
    | v :: _ => some v
    | [] => none
  | none => none

def aLoad (σ : St) (t : TypeId) (p : AV) : Option AV :=
  match p with
  | .ptr id off => match T t with
    | some i => boolC (load1 σ id off) (match loadN σ id off i.size with
      | some l => some (.agg l)
      | none => none) i.agg
    | none => none
  | _ => none

def aStore (σ : St) (t : TypeId) (p v : AV) : Option St :=
  match p with
  | .ptr id off => match v with
    | .tuple _ => none
    | v => match T t with
      | some i => boolC none (storeN σ id off v.cells) (Nat.beq (llen v.cells) i.size)
      | none => none
  | _ => none

def aNew (σ : St) (l : List AV) : Option (AV × St) := σ.pushK (.cells l 0 false) fun σ' => some (.ptr σ.next 0, σ')

def aPart (i : TyI) (cs : List AV) (off : Nat) : Option AV :=
  boolC (match ldrop cs off with
    | v :: _ => some v
    | [] => none) (takeK none i.size (ldrop cs off) fun l => some (.agg l)) i.agg

def nthField (fs : List Field) (n : Nat) : Option Field :=
  match ldrop fs n with
  | f :: _ => some f
  | [] => none

def fieldOf (s : TypeId) (f : Nat) : Option Field :=
  match T s with
  | some i => match i.desc with
    | .struct fs => nthField fs.toList f
    | _ => none
  | none => none

def aFieldAddr (s : TypeId) (p : AV) (f : Nat) : Option AV :=
  match p with
  | .ptr id off => match fieldOf T s f with
    | some fd => match T fd.type with
      | some i => natC none (fun _ => some (.ptr id (off + fd.offset))) i.size
      | none => none
    | none => none
  | _ => none

def aField (t : TypeId) (x : AV) (f : Nat) : Option AV :=
  match x with
  | .agg cs => match fieldOf T t f with
    | some fd => match T fd.type with
      | some i => aPart i cs fd.offset
      | none => none
    | none => none
  | _ => none

/-- A number from 0 on below n. -/
def natBelow (i : AV) (n : Nat) : Option Nat :=
  match i with
  | .int _ (.ofNat m) => boolC none (some m) (Nat.blt m n)
  | _ => none

def aIndexAddr (t : TypeId) (x ix : AV) : Option AV :=
  match T t with
  | some i => match i.desc with
    | .array len elem => match x with
      | .ptr id off => match T elem with
        | some e => match natBelow ix len with
          | some m => some (.ptr id (off + m * e.size))
          | none => none
        | none => none
      | _ => none
    | .slice elem => match x with
      | .slice id off len _ _ => match T elem with
        | some e => match natBelow ix len with
          | some m => some (.ptr id (off + m * e.size))
          | none => none
        | none => none
      | _ => none
    | _ => none
  | none => none

def aIndex (t : TypeId) (x ix : AV) : Option AV :=
  match T t with
  | some i => match i.desc with
    | .array len elem => match x with
      | .agg cs => match T elem with
        | some e => match natBelow ix len with
          | some m => aPart e cs (m * e.size)
          | none => none
        | none => none
      | _ => none
    | .string => match x with
      | .str s => match ix with
        | .int _ (.ofNat m) => match ldrop s m with
          | b :: _ => some (.int .u8 b.toNat)
          | [] => none
        | _ => none
      | _ => none
    | _ => none
  | none => none

/-- A bound of a slice: a number from 0 to y; none: the default. -/
def aBound (x : Option AV) (dflt y : Nat) : Option Nat :=
  match x with
  | none => some dflt
  | some (.int _ (.ofNat m)) => boolC none (some m) (Nat.ble m y)
  | _ => none

def bounds2 (lo hi : Option AV) (len cap : Nat) : Option (Nat × Nat) :=
  match aBound hi len cap with
  | some h => match aBound lo 0 h with
    | some l => some (l, h)
    | none => none
  | none => none

def aSlice (σ : St) (t : TypeId) (x : AV) (lo hi : Option AV) : Option AV :=
  match T t with
  | some i => match i.desc with
    | .string => match x with
      | .str s => match bounds2 lo hi (llen s) (llen s) with
        | some (l, h) => takeK none (h - l) (ldrop s l) fun r => some (.str r)
        | none => none
      | _ => none
    | .slice elem => match T elem with
      | some e => match x with
        | .nilSlice => match bounds2 lo hi 0 0 with
          | some _ => some .nilSlice
          | none => none
        | .slice id off len cap esz => match bounds2 lo hi len cap with
          | some (l, h) => boolC none (some (.slice id (off + l * esz) (h - l) (cap - l) esz)) (Nat.beq e.size esz)
          | none => none
        | _ => none
      | none => none
    | .array m elem => match T elem with
      | some e => match x with
        | .ptr id off => match bounds2 lo hi m m with
          | some (l, h) => match cellsOf σ id with
            | some vs => boolC none (some (.slice id (off + l * e.size) (h - l) (m - l) e.size)) (Nat.ble (off + m * e.size) (llen vs))
            | none => none
          | none => none
        | _ => none
      | none => none
    | _ => none
  | none => none

/-- A slice with a third bound. -/
def aSlice3 (t : TypeId) (x : AV) (lo hi : Option AV) (mx : AV) : Option AV :=
  match T t with
  | some i => match i.desc with
    | .slice elem => match T elem with
      | some e => match x with
        | .slice id off len cap esz => match hi with
          | some hi => match aBound (some mx) cap cap with
            | some m => match bounds2 lo (some hi) len m with
              | some (l, h) => boolC none (some (.slice id (off + l * esz) (h - l) (m - l) esz)) (Nat.beq e.size esz)
              | none => none
            | none => none
          | none => none
        | _ => none
      | none => none
    | _ => none
  | none => none

/-- So many cells, over and over. -/
def repCells (z : List AV) (n : Nat) : List AV := Nat.rec [] (fun _ ih => lapp z ih) n

def bigBytes : Nat := 281474976710656

def aMakeSlice (σ : St) (t : TypeId) (len cap : AV) : Option (AV × St) :=
  match T t with
  | some i => match i.desc with
    | .slice elem => match T elem with
      | some e => match e.zero with
        | some z => match len with
          | .int _ (.ofNat l) => match cap with
            | .int _ (.ofNat c) => boolC none (σ.pushK (.cells (repCells z.cells c) 0 false) fun σ' => some (.slice σ.next 0 l c e.size, σ'))
                (Nat.ble l c && Nat.ble (c * e.bytes) bigBytes && Nat.ble 1 e.bytes && Nat.beq (llen z.cells) e.size && Nat.ble 1 e.size)
            | _ => none
          | _ => none
        | none => none
      | none => none
    | _ => none
  | none => none

/-- Parts laid into cells. -/
def aFill (place : Nat → Option (Nat × Nat)) (parts : List (Nat × AV)) : List AV → Option (List AV) :=
  List.rec some (fun p _ ih cells => match place p.1 with
    | some (off, size) => match p.2 with
      | .tuple _ => none
      | v => boolC none (spliceK none v.cells cells off ih) (Nat.beq (llen v.cells) size)
    | none => none) parts

def evParts (tmps : List AV) (l : List (Nat × Operand)) : Option (List (Nat × AV)) :=
  List.rec (some []) (fun p _ ih => match evT tmps p.2 with
    | some a => match ih with
      | some r => some ((p.1, a) :: r)
      | none => none
    | none => none) l

def placeOf (fs : List Field) (i : Nat) : Option (Nat × Nat) :=
  match nthField fs i with
  | some f => match T f.type with
    | some i => some (f.offset, i.size)
    | none => none
  | none => none

def knownFields (fs : List Field) : Bool := List.rec true (fun f _ ih => match T f.type with
  | some _ => ih
  | none => false) fs

def aBuild (t : TypeId) (parts : List (Nat × AV)) : Option AV :=
  match T t with
  | some i => match i.zero with
    | some z => match i.desc with
      | .struct fs => boolC none (match aFill (placeOf T fs.toList) parts z.cells with
        | some l => some (.agg l)
        | none => none) (knownFields T fs.toList)
      | .array _ elem => match T elem with
        | some e => match aFill (fun i => some (i * e.size, e.size)) parts z.cells with
          | some l => some (.agg l)
          | none => none
        | none => none
      | _ => none
    | none => none
  | none => none

/-- The cells of a slice's literal, and the size of an element. -/
def sliceCells (t : TypeId) (len : Nat) (parts : List (Nat × AV)) : Option (List AV × Nat) :=
  match T t with
  | some i => match i.desc with
    | .slice elem => match T elem with
      | some e => match e.zero with
        | some z => boolC none (match aFill (fun i => some (i * e.size, e.size)) parts (repCells z.cells len) with
            | some cs => some (cs, e.size)
            | none => none) (Nat.ble (len * e.size) 16777216 && Nat.beq (llen z.cells) e.size && Nat.ble 1 e.size)
        | none => none
      | none => none
    | _ => none
  | none => none

def aBuildSlice (σ : St) (t : TypeId) (len : Nat) (parts : List (Nat × AV)) : Option (AV × St) :=
  match sliceCells T t len parts with
  | some (cs, size) => σ.pushK (.cells cs 0 false) fun σ' => some (.slice σ.next 0 len len size, σ')
  | none => none

/-! ### numbers -/

def wrapS (h m : Nat) (n : Int) : Int :=
  match n with
  | .ofNat x => boolC (match n % (m : Int) with
      | r => if r ≥ (h : Int) then r - m else r) (.ofNat x) (Nat.blt x h)
  | .negSucc x => boolC (match n % (m : Int) with
      | r => if r ≥ (h : Int) then r - m else r) (.negSucc x) (Nat.blt x h)

def wrapU (m : Nat) (n : Int) : Int :=
  match n with
  | .ofNat x => .ofNat (x % m)
  | n => n % m

def wrapA (k : IntKind) (n : Int) : Int :=
  match k with
  | .i8 => wrapS 128 256 n
  | .i16 => wrapS 32768 65536 n
  | .i32 => wrapS 2147483648 4294967296 n
  | .i64 => wrapS 9223372036854775808 18446744073709551616 n
  | .u8 => wrapU 256 n
  | .u16 => wrapU 65536 n
  | .u32 => wrapU 4294967296 n
  | .u64 => wrapU 18446744073709551616 n

/-- One more than the greatest of the kind's bits. -/
def modA : IntKind → Nat
  | .i8 | .u8 => 256
  | .i16 | .u16 => 65536
  | .i32 | .u32 => 4294967296
  | .i64 | .u64 => 18446744073709551616

/-- The bits of a number of a kind, as a natural number. -/
def natOf (k : IntKind) (n : Int) : Nat :=
  match n with
  | .ofNat x => x % modA k
  | n => (n % (modA k : Int)).toNat

def leI (x y : Int) : Bool :=
  match x with
  | .ofNat a => match y with
    | .ofNat b => Nat.ble a b
    | .negSucc _ => false
  | .negSucc a => match y with
    | .ofNat _ => true
    | .negSucc b => Nat.ble b a

def eqI (x y : Int) : Bool :=
  match x with
  | .ofNat a => match y with
    | .ofNat b => Nat.beq a b
    | .negSucc _ => false
  | .negSucc a => match y with
    | .ofNat _ => false
    | .negSucc b => Nat.beq b a

def subI (x y : Int) : Int := x - y

def aInt (op : BinOp) (k : IntKind) (x y : Int) : Option AV :=
  match op with
  | .add => some (.int k (wrapA k (x + y)))
  | .sub => some (.int k (wrapA k (x - y)))
  | .mul => some (.int k (wrapA k (x * y)))
  | .quo => boolC (some (.int k (wrapA k (x.tdiv y)))) none (eqI y 0)
  | .rem => boolC (some (.int k (x.tmod y))) none (eqI y 0)
  | .and => some (.int k (wrapA k (.ofNat (Nat.land (natOf k x) (natOf k y)))))
  | .or => some (.int k (wrapA k (.ofNat (Nat.lor (natOf k x) (natOf k y)))))
  | .xor => some (.int k (wrapA k (.ofNat (Nat.xor (natOf k x) (natOf k y)))))
  | .andNot => some (.int k (wrapA k (.ofNat (Nat.land (natOf k x) (Nat.xor (natOf k y) (modA k - 1))))))
  | .eql => some (.bool (eqI x y))
  | .neq => some (.bool (boolC true false (eqI x y)))
  | .lss => some (.bool (boolC true false (leI y x)))
  | .leq => some (.bool (leI x y))
  | .gtr => some (.bool (boolC true false (leI x y)))
  | .geq => some (.bool (leI y x))
  | _ => none

def bitsA : IntKind → Nat
  | .i8 | .u8 => 8
  | .i16 | .u16 => 16
  | .i32 | .u32 => 32
  | .i64 | .u64 => 64

def minN (a b : Nat) : Nat := boolC b a (Nat.ble a b)
def maxN (a b : Nat) : Nat := boolC a b (Nat.ble a b)

def aShift (op : BinOp) (k : IntKind) (x y : Int) : Option AV :=
  match y with
  | .ofNat y => match op with
    | .shl => some (.int k (wrapA k (x * ((2 ^ minN y (bitsA k) : Nat) : Int))))
    | .shr => match x with
      | .ofNat x => some (.int k (.ofNat (x / 2 ^ minN y (bitsA k))))
      | x => some (.int k (x.fdiv ((2 ^ minN y (bitsA k) : Nat) : Int)))
    | _ => none
  | _ => none

def eqB (a : List UInt8) : List UInt8 → Bool :=
  List.rec (fun b => List.rec true (fun _ _ _ => false) b) (fun x _ ih b => List.rec false (fun y l _ => boolC false (ih l) (Nat.beq x.toNat y.toNat)) b) a

def lessB (a : List UInt8) : List UInt8 → Bool :=
  List.rec (fun b => List.rec false (fun _ _ _ => true) b) (fun x _ ih b => List.rec false (fun y l _ =>
    boolC (boolC false (ih l) (Nat.beq x.toNat y.toNat)) true (Nat.blt x.toNat y.toNat)) b) a

def aStr (op : BinOp) (x y : List UInt8) : Option AV :=
  match op with
  | .add => boolC none (some (.str (lapp x y))) (Nat.ble (llen x + llen y) 9223372036854775807)
  | .eql => some (.bool (eqB x y))
  | .neq => some (.bool (boolC true false (eqB x y)))
  | .lss => some (.bool (lessB x y))
  | .leq => some (.bool (boolC (eqB x y) true (lessB x y)))
  | .gtr => some (.bool (boolC true false (boolC (eqB x y) true (lessB x y))))
  | .geq => some (.bool (boolC true false (lessB x y)))
  | _ => none

def isNil {α : Type} (l : List α) : Bool := List.rec true (fun _ _ _ => false) l

/-- Are two scalars of one kind the same? -/
def eqKind (j k : IntKind) : Bool :=
  match j with
  | .i8 => match k with | .i8 => true | _ => false
  | .i16 => match k with | .i16 => true | _ => false
  | .i32 => match k with | .i32 => true | _ => false
  | .i64 => match k with | .i64 => true | _ => false
  | .u8 => match k with | .u8 => true | _ => false
  | .u16 => match k with | .u16 => true | _ => false
  | .u32 => match k with | .u32 => true | _ => false
  | .u64 => match k with | .u64 => true | _ => false

def eqBool (a b : Bool) : Bool := boolC (boolC true false b) b a

def eqOne (x y : AV) : Option Bool :=
  match x with
  | .bool a => match y with
    | .bool b => some (eqBool a b)
    | _ => none
  | .int j a => match y with
    | .int k b => boolC none (some (eqI a b)) (eqKind j k)
    | _ => none
  | .str a => match y with
    | .str b => some (eqB a b)
    | _ => none
  | _ => none

/-- The fields of a struct all of whose fields are numbers, strings or bools: each one cell, one behind the other. -/
def plainT (t : TypeId) : Bool :=
  match T t with
  | some i => match i.desc with
    | .bool | .int _ | .string => true
    | _ => false
  | none => false

def plainFields (fs : List Field) : Nat → Bool :=
  List.rec (fun _ => true) (fun f _ ih n => plainT T f.type && Nat.beq f.offset n && f.name != "_" && ih (n + 1)) fs

def keyFits (d : TypeDesc) (x : AV) : Bool :=
  match d with
  | .int _ => match x with
    | .int _ _ => true
    | _ => false
  | .string => match x with
    | .str _ => true
    | _ => false
  | .bool => match x with
    | .bool _ => true
    | _ => false
  | _ => false

def eqFieldsA (fs : List Field) : List AV → List AV → Option Bool :=
  List.rec (fun xs ys => boolC none (some true) (isNil xs && isNil ys)) (fun f _ ih xs ys => List.rec none (fun x xs _ => List.rec none (fun y ys _ => match T f.type with
    | some i => boolC none (match eqOne x y with
      | some b => boolC (some false) (ih xs ys) b
      | none => none) (keyFits i.desc x)
    | none => none) ys) xs) fs

def ltag : List TypeId → TypeId → Bool := fun l t => List.rec false (fun x _ ih => boolC ih true (Nat.beq x t)) l

/-- E: the struct types that may be compared. -/
def aEq (E : List TypeId) (t : TypeId) (x y : AV) : Option Bool :=
  match T t with
  | some i => match i.desc with
    | .bool => match x, y with
      | .bool a, .bool b => some (eqBool a b)
      | _, _ => none
    | .pointer _ => match x, y with
      | .nilPtr, .nilPtr => some true
      | .nilPtr, .ptr _ _ => some false
      | .ptr _ _, .nilPtr => some false
      | _, _ => none
    | .slice _ => match x, y with
      | .nilSlice, .nilSlice => some true
      | .nilSlice, .slice _ _ _ _ _ => some false
      | .slice _ _ _ _ _, .nilSlice => some false
      | _, _ => none
    | .map _ _ => match x, y with
      | .nilMap, .nilMap => some true
      | .nilMap, .map _ => some false
      | .map _, .nilMap => some false
      | _, _ => none
    | .func _ _ _ => match x, y with
      | .nilFunc, .nilFunc => some true
      | .nilFunc, .fn _ _ _ => some false
      | .fn _ _ _, .nilFunc => some false
      | _, _ => none
    | .struct fs => match x, y with
      | .agg xs, .agg ys => boolC none (eqFieldsA T fs.toList xs ys) (ltag E t)
      | _, _ => none
    | _ => none
  | none => none

def aBin2 (E : List TypeId) (op : BinOp) (t : TypeId) (x y : AV) : Option AV :=
  match op with
  | .eql => match aEq T E t x y with
    | some b => some (.bool b)
    | none => none
  | .neq => match aEq T E t x y with
    | some b => some (.bool (boolC true false b))
    | none => none
  | _ => none

def isShift : BinOp → Bool
  | .shl | .shr => true
  | _ => false

def aBin (E : List TypeId) (op : BinOp) (t : TypeId) (x y : AV) : Option AV :=
  match x with
  | .int k a => match y with
    | .int k' b => boolC (boolC none (aInt op k a b) (eqKind k k')) (aShift op k a b) (isShift op)
    | _ => none
  | .str a => match y with
    | .str b => aStr op a b
    | _ => none
  | x => aBin2 T E op t x y

def aUn (op : UnOp) (x : AV) : Option AV :=
  match x with
  | .int k n => match op with
    | .neg => aInt .sub k 0 n
    | .xor => some (.int k (wrapA k (.ofNat (Nat.xor (natOf k n) (modA k - 1)))))
    | _ => none
  | .bool b => match op with
    | .not => some (.bool (boolC true false b))
    | _ => none
  | _ => none

def bytesOf (l : List AV) : Option (List UInt8) :=
  List.rec (some []) (fun x _ ih => match x with
    | .int .u8 n => match ih with
      | some r => some (UInt8.ofNat n.toNat :: r)
      | none => none
    | _ => none) l

def ofBytes (s : List UInt8) : List AV := List.rec [] (fun b _ ih => .int .u8 (.ofNat b.toNat) :: ih) s

def isByte (e : TypeId) : Bool :=
  match T e with
  | some i => match i.desc with
    | .int .u8 => true
    | _ => false
  | none => false

def aConvert (σ : St) (src dst : TypeId) (x : AV) : Option (AV × St) :=
  match T src with
  | none => none
  | some s => match T dst with
    | none => none
    | some d => match d.desc with
      | .int k => match x with
        | .int _ n => some (.int k (wrapA k n), σ)
        | _ => none
      | .string => match x with
        | .str s => some (.str s, σ)
        | .nilSlice => match s.desc with
          | .slice e => boolC none (some (.str [], σ)) (isByte T e)
          | _ => none
        | .slice id off len _ _ => match s.desc with
          | .slice e => boolC none (match loadN σ id off len with
            | some l => match bytesOf l with
              | some s => some (.str s, σ)
              | none => none
            | none => none) (isByte T e)
          | _ => none
        | _ => none
      | .slice e => match x with
        | .str s => boolC none (σ.pushK (.cells (ofBytes s) 0 false) fun σ' => some (.slice σ.next 0 (llen s) (llen s) 1, σ')) (isByte T e && Nat.ble (llen s) 4611686018427387904)
        | _ => none
      | _ => none

/-! ### maps -/

def sameKey (x y : AV) : Option Bool := eqOne x y

def findA (k : AV) (es : List AEntry) : Nat → Option (Option (Nat × AV)) :=
  List.rec (fun _ => some none) (fun e _ ih i => match sameKey k e.key with
    | some b => boolC (ih (i + 1)) (some (some (i, e.val))) b
    | none => none) es

def entriesOf (σ : St) (m : AV) : Option (List AEntry) :=
  match m with
  | .nilMap => some []
  | .map r => match σ.get r with
    | some (.map es _) => some es
    | _ => none
  | _ => none

def aLookup (σ : St) (t : TypeId) (m k : AV) (ok : Bool) : Option AV :=
  match T t with
  | some i => match i.desc with
    | .map kt elem => match T kt with
      | some kd => match T elem with
        | some ei => match ei.zero with
          | some z => match entriesOf σ m with
            | some es => boolC none (match findA k es 0 with
                | some (some (_, v)) => some (boolC v (.tuple [v, .bool true]) ok)
                | some none => some (boolC z (.tuple [z, .bool false]) ok)
                | none => none) (keyFits kd.desc k)
            | none => none
          | none => none
        | none => none
      | none => none
    | _ => none
  | none => none

def setVal (v : AV) (es : List AEntry) : Nat → List AEntry :=
  List.rec (fun _ => []) (fun e es ih i => natC ({ key := e.key, val := v, born := e.born } :: es) (fun m => e :: ih m) i) es

def aMapUpdate (σ : St) (t : TypeId) (m k v : AV) : Option St :=
  match m with
  | .map r => match T t with
    | some i => match i.desc with
      | .map kt _ => match T kt with
        | some kd => match σ.get r with
          | some (.map es clock) => boolC none (match findA k es 0 with
              | some (some (i, _)) => σ.setK r (.map (setVal v es i) clock) some
              | some none => σ.setK r (.map (lapp es [{ key := k, val := v, born := clock }]) (clock + 1)) some
              | none => none) (keyFits kd.desc k)
          | _ => none
        | none => none
      | _ => none
    | none => none
  | _ => none

/-! ### builtins -/

/-- What an append or a copy takes: the cells of so many elements of a slice, or a string. -/
def srcLen : AV → Option Nat
  | .nilSlice => some 0
  | .slice _ _ len _ _ => some len
  | .str s => some (llen s)
  | _ => none

def srcCells (σ : St) (size n : Nat) : AV → Option (List AV)
  | .nilSlice => some []
  | .slice id off _ _ _ => natC (some []) (fun _ => loadN σ id off (n * size)) (n * size)
  | .str s => takeK none n s fun r => some (ofBytes r)
  | _ => none

/-- Cells laid behind a slice: n elements. -/
def growNil (σ : St) (size bytes n : Nat) (new : List AV) : Option (AV × St) :=
  natC (some (.nilSlice, σ)) (fun _ => boolC none (σ.pushK (.cells new 0 false) fun σ' => some (.slice σ.next 0 n n size, σ'))
    (Nat.ble ((2 * n + 1024) * bytes) bigBytes && Nat.blt n 4611686018427387904)) n

def growIn (σ : St) (id off len cap size n : Nat) (new : List AV) : Option (AV × St) :=
  match σ.get id with
  | some (.cells vs fz false) =>
    boolC none (σ.setK id (.cells (lapp (lapp (takeK [] (off + len * size) vs fun l => l) new) (ldrop vs (off + len * size + llen new))) fz false) fun σ' => some (.slice id off (len + n) cap size, σ'))
      (Nat.ble (off + len * size) (llen vs) && Nat.ble fz (off + len * size))
  | _ => none

def growOut (σ : St) (id off len size bytes n : Nat) (kill : Bool) (new : List AV) : Option (AV × St) :=
  match σ.get id with
  | some (.cells vs fz false) =>
    boolC none (takeK none (len * size) (ldrop vs off) fun old => boolC
        (σ.setK id (.cells (ltake vs (off + len * size)) fz true) fun σ1 => σ1.pushK (.cells (lapp old new) (maxN (fz - off) (len * size)) false) fun σ' => some (.slice σ.next 0 (len + n) (len + n) size, σ'))
        (σ.setK id .dead fun σ1 => σ1.pushK (.cells (lapp old new) (fz - off) false) fun σ' => some (.slice σ.next 0 (len + n) (len + n) size, σ')) kill)
      (Nat.ble fz (off + len * size) && Nat.ble ((2 * (len + n) + 1024) * bytes) bigBytes && Nat.blt (len + n) 4611686018427387904)
  | _ => none

def aAppendTo (σ : St) (s : AV) (size bytes n : Nat) (kill : Bool) (new : List AV) : Option (AV × St) :=
  boolC none (match s with
    | .nilSlice => growNil σ size bytes n new
    | .slice id off len cap esz => boolC none
        (natC (some (.slice id off len cap esz, σ)) (fun _ => boolC (growOut σ id off len size bytes n kill new) (growIn σ id off len cap size n new) (Nat.ble (len + n) cap)) n) (Nat.beq esz size)
    | _ => none) (Nat.beq (llen new) (n * size) && Nat.ble 1 size)

def argType (argTypes : Array TypeId) (i : Nat) : Option TyI :=
  match ldrop argTypes.toList i with
  | t :: _ => T t
  | [] => none

def isSeq : TypeDesc → Bool
  | .slice _ => true
  | .string => true
  | _ => false

def aAppend (σ : St) (argTypes : Array TypeId) (s x : AV) : Option (AV × St) :=
  match argType T argTypes 0 with
  | none => none
  | some st => match argType T argTypes 1 with
    | none => none
    | some xt => match st.desc with
      | .slice elem => match T elem with
        | some e => match e.zero with
          | some z => boolC none (match srcLen x with
            | some n => match srcCells σ e.size n x with
              | some new => boolC none (aAppendTo σ s e.size e.bytes n e.kill new) (Nat.beq (llen z.cells) e.size)
              | none => none
            | none => none) (isSeq xt.desc)
          | none => none
        | none => none
      | _ => none

def aCopy (σ : St) (argTypes : Array TypeId) (d x : AV) : Option (AV × St) :=
  match argType T argTypes 0 with
  | some t => match t.desc with
    | .slice elem => match T elem with
      | some e => match srcLen x with
        | some sn => match srcLen d with
          | some dn => match srcCells σ e.size (minN sn dn) x with
            | some cells => match d with
              | .nilSlice => some (.int .i64 (.ofNat (minN sn dn)), σ)
              | .slice id off _ _ _ => List.rec (some (.int .i64 (.ofNat (minN sn dn)), σ)) (fun _ _ _ => match storeN σ id off cells with
                | some σ' => some (.int .i64 (.ofNat (minN sn dn)), σ')
                | none => none) cells
              | _ => none
            | none => none
          | none => none
        | none => none
      | none => none
    | _ => none
  | none => none

def aLen (σ : St) (argTypes : Array TypeId) (x : AV) : Option AV :=
  match argType T argTypes 0 with
  | some t => match t.desc with
    | .string => match x with
      | .str s => some (.int .i64 (.ofNat (llen s)))
      | _ => none
    | .array n _ => some (.int .i64 (.ofNat n))
    | .pointer arr => match T arr with
      | some a => match a.desc with
        | .array n _ => some (.int .i64 (.ofNat n))
        | _ => none
      | none => none
    | .slice _ => match x with
      | .nilSlice => some (.int .i64 0)
      | .slice _ _ len _ _ => some (.int .i64 (.ofNat len))
      | _ => none
    | .map _ _ => match entriesOf σ x with
      | some es => some (.int .i64 (.ofNat (llen es)))
      | none => none
    | _ => none
  | none => none

def aCap (argTypes : Array TypeId) (x : AV) : Option AV :=
  match argType T argTypes 0 with
  | some t => match t.desc with
    | .array n _ => some (.int .i64 (.ofNat n))
    | .slice _ => match x with
      | .nilSlice => some (.int .i64 0)
      | _ => none
    | _ => none
  | none => none

def foldInts (f : Int → Int → Int) (k : IntKind) (l : List AV) : Int → Option AV :=
  List.rec (fun x => some (.int k x)) (fun y _ ih x => match y with
    | .int _ y => ih (f x y)
    | _ => none) l

def aMinMax (f : Int → Int → Int) (l : List AV) : Option AV :=
  match l with
  | .int k x :: l => foldInts f k l x
  | _ => none

def minI (x y : Int) : Int := boolC y x (leI x y)
def maxI (x y : Int) : Int := boolC x y (leI x y)

def aClear (σ : St) (argTypes : Array TypeId) (x : AV) : Option St :=
  match argType T argTypes 0 with
  | some t => match x with
    | .nilMap => some σ
    | .nilSlice => some σ
    | .map r => match σ.get r with
      | some (.map _ clock) => σ.setK r (.map [] clock) some
      | _ => none
    | .slice id off len _ esz => natC (some σ) (fun _ => match t.desc with
      | .slice elem => match T elem with
        | some e => match e.zero with
          | some z => boolC none (storeN σ id off (repCells z.cells len)) (Nat.beq (llen z.cells) esz && Nat.ble 1 esz)
          | none => none
        | none => none
      | _ => none) len
    | _ => none
  | none => none

def withSt (σ : St) (x : Option AV) : Option (AV × St) :=
  match x with
  | some v => some (v, σ)
  | none => none

def withUndef (x : Option St) : Option (AV × St) :=
  match x with
  | some σ => some (.undef, σ)
  | none => none

def two {β : Type} (e : β) (l : List AV) (f : AV → AV → β) : β :=
  match l with
  | [x, y] => f x y
  | _ => e

def onlyOne {β : Type} (e : β) (l : List AV) (f : AV → β) : β :=
  match l with
  | [x] => f x
  | _ => e

def aBuiltin (σ : St) (b : Builtin) (argTypes : Array TypeId) (args : List AV) : Option (AV × St) :=
  match b with
  | .append => two none args fun s x => aAppend T σ argTypes s x
  | .copy => two none args fun d x => aCopy T σ argTypes d x
  | .len => onlyOne none args fun x => withSt σ (aLen T σ argTypes x)
  | .cap => onlyOne none args fun x => withSt σ (aCap T argTypes x)
  | .min => withSt σ (aMinMax minI args)
  | .max => withSt σ (aMinMax maxI args)
  | .clear => onlyOne none args fun x => withUndef (aClear T σ argTypes x)
  | _ => none

/-! ### One operation that is no call -/
variable (E : List TypeId) (tmps : List AV)

def optEv (tmps : List AV) : Option Operand → Option (Option AV)
  | none => some none
  | some x => match evT tmps x with
    | some v => some (some v)
    | none => none

def ev1 {β : Type} (e : β) (x : Operand) (f : AV → β) : β := match evT tmps x with
  | some v => f v
  | none => e

def oPick (σ : St) (c a b : Operand) : Option (AV × St) := ev1 tmps none c fun c => match c with
  | .bool t => ev1 tmps none a fun a => ev1 tmps none b fun b => some (boolC b a t, σ)
  | _ => none

def oNew (σ : St) (v : AV) : Option (AV × St) := match v with
  | .tuple _ => none
  | v => aNew σ v.cells

def oAlloc (σ : St) (t : TypeId) : Option (AV × St) := match T t with
  | some i => match i.zero with
    | some z => oNew σ z
    | none => none
  | none => none

def oNilCheck (σ : St) (v : AV) : Option (AV × St) := match v with
  | .ptr i o => some (.ptr i o, σ)
  | .fn f a b => some (.fn f a b, σ)
  | .yield l => some (.yield l, σ)
  | _ => none

def oMakeFunc (σ : St) (fn : Fn) (first captured : Array Operand) : Option (AV × St) := match fn with
  | .func f => match evs tmps first.toList with
    | some a => match evs tmps captured.toList with
      | some b => some (.fn f a b, σ)
      | none => none
    | none => none
  | _ => none

def newMap (σ : St) : Option (AV × St) := σ.pushK (.map [] 0) fun σ' => some (.map σ.next, σ')

def oMakeMap (σ : St) (t : TypeId) (r : Option Operand) : Option (AV × St) := match r with
  | none => newMap σ
  | some r => match T t with
    | some i => match i.desc with
      | .map _ _ => ev1 tmps none r fun r => match r with
        | .int _ _ => newMap σ
        | _ => none
      | _ => none
    | none => none

def oSlice (σ : St) (t : TypeId) (x : Operand) (lo hi max : Option Operand) : Option (AV × St) := match max with
  | none => ev1 tmps none x fun x => match optEv tmps lo with
    | some lo => match optEv tmps hi with
      | some hi => withSt σ (aSlice T σ t x lo hi)
      | none => none
    | none => none
  | some mx => ev1 tmps none x fun x => ev1 tmps none mx fun mx => match optEv tmps lo with
    | some lo => match optEv tmps hi with
      | some hi => withSt σ (aSlice3 T t x lo hi mx)
      | none => none
    | none => none

def oExtract (σ : St) (v : AV) (i : Nat) : Option (AV × St) := match v with
  | .tuple vs => match ldrop vs i with
    | v :: _ => some (v, σ)
    | [] => none
  | _ => none

def oBuild (σ : St) (t : TypeId) (parts : Array (Nat × Operand)) : Option (AV × St) := match evParts tmps parts.toList with
  | some l => withSt σ (aBuild T t l)
  | none => none

def oBuildSlice (σ : St) (t : TypeId) (n : Nat) (parts : Array (Nat × Operand)) : Option (AV × St) := match evParts tmps parts.toList with
  | some l => aBuildSlice T σ t n l
  | none => none

def oBuiltin (σ : St) (c : Call) : Option (AV × St) := match c.callee with
  | .builtin b => match evs tmps c.args.toList with
    | some l => aBuiltin T σ b c.argTypes l
    | none => none
  | _ => none

def oUpdate (σ : St) (t : TypeId) (m k v : Operand) : Option (AV × St) :=
  ev1 tmps none m fun m => ev1 tmps none k fun k => ev1 tmps none v fun v => withUndef (aMapUpdate T σ t m k v)

/-- An operation that is no call: its value, and the store. -/
def aOp (o : Op) (σ : St) : Option (AV × St) :=
  match o with
  | .move x => withSt σ (evT tmps x)
  | .assign x => withSt σ (evT tmps x)
  | .pick c a b => oPick tmps σ c a b
  | .alloc t => oAlloc T σ t
  | .box _ x => ev1 tmps none x fun v => oNew σ v
  | .build t parts => oBuild T tmps σ t parts
  | .buildSlice t n parts => oBuildSlice T tmps σ t n parts
  | .load t x => ev1 tmps none x fun p => withSt σ (aLoad T σ t p)
  | .store t x y => ev1 tmps none x fun p => ev1 tmps none y fun v => withUndef (aStore T σ t p v)
  | .nilCheck x => ev1 tmps none x fun v => oNilCheck σ v
  | .binOp op t x y _ => ev1 tmps none x fun a => ev1 tmps none y fun b => withSt σ (aBin T E op t a b)
  | .unOp op _ x => ev1 tmps none x fun a => withSt σ (aUn op a)
  | .convert s d x => ev1 tmps none x fun a => aConvert T σ s d a
  | .makeFunc fn first captured => oMakeFunc tmps σ fn first captured
  | .makeMap t r => oMakeMap T tmps σ t r
  | .makeSlice t l c => ev1 tmps none l fun l => ev1 tmps none c fun c => aMakeSlice T σ t l c
  | .slice t x lo hi max => oSlice T tmps σ t x lo hi max
  | .fieldAddr s x f => ev1 tmps none x fun p => withSt σ (aFieldAddr T s p f)
  | .field t x f => ev1 tmps none x fun v => withSt σ (aField T t v f)
  | .indexAddr t x i => ev1 tmps none x fun x => ev1 tmps none i fun i => withSt σ (aIndexAddr T t x i)
  | .index t x i => ev1 tmps none x fun x => ev1 tmps none i fun i => withSt σ (aIndex T t x i)
  | .lookup t m k ok => ev1 tmps none m fun m => ev1 tmps none k fun k => withSt σ (aLookup T σ t m k ok)
  | .mapUpdate t m k v => oUpdate T tmps σ t m k v
  | .insert t m k v => oUpdate T tmps σ t m k v
  | .extract x i => ev1 tmps none x fun v => oExtract σ v i
  | .call c => oBuiltin T tmps σ c
  | _ => none

end ops

/-! ### Control -/

/-- What a call comes to, for functions that are not walked. -/
abbrev Sum1 := List AV → St → Option (AV × St)

structure Cfg where
  P : Program
  T : TT
  F : FuncId → Option Func
  E : List TypeId
  S : FuncId → Option Sum1

/-- The bool that an operation of the region has left (for guards). -/
def yieldedA (ops : List Oper) (tmps : List AV) (j : Nat) (want : Bool) : Bool :=
  match ldrop ops j with
  | o :: _ => match o.dst with
    | some d => match lget tmps d .undef with
      | .bool b => eqBool b want
      | _ => false
    | none => false
  | [] => false

def wantedA (ops : List Oper) (o : Oper) (tmps : List AV) : Bool :=
  match o.guard with
  | none => true
  | some (j, want) => yieldedA ops tmps j want

abbrev Res := Option (Exit × AAct × St)
abbrev ResF := Option (AV × St)

/-- The evaluator with one unit of fuel less. -/
structure Evs where
  c : Code → AAct → St → Res
  f : FuncId → List AV → St → ResF
  r : Nat → List AV → St → ResF

section steps
variable (C : Cfg) (ih : Evs)

/-- A call of a function value. -/
def callV (f : AV) (args : List AV) (σ : St) : ResF :=
  match f with
  | .fn g first cap => ih.f g (lapp first (lapp args cap)) σ
  | .yield l => ih.r l args σ
  | _ => none

def stepCall (c : Call) (tmps : List AV) (σ : St) : ResF :=
  match c.callee with
  | .value f => match evT tmps f with
    | some f => match evs tmps c.args.toList with
      | some args => callV ih f args σ
      | none => none
    | none => none
  | .builtin _ => oBuiltin C.T tmps σ c
  | _ => none

def stepOp (o : Op) (tmps : List AV) (σ : St) : ResF :=
  match o with
  | .call c => stepCall C ih c tmps σ
  | o => aOp C.T C.E tmps o σ

/-- A region in the order of the text. -/
def stepOps (ops : List Oper) (l : List Oper) : AAct → St → Res :=
  List.rec (fun a σ => some (.normal, a, σ)) (fun o _ k a σ =>
    boolC (putK a o.dst .undef fun a' => k a' σ) (match stepOp C ih o.op a.tmps σ with
      | some (v, σ') => putK a o.dst v fun a' => k a' σ'
      | none => none) (wantedA ops o a.tmps)) l

/-! A region that draws its order. -/

/-- What an operation is: 0: it does not look at the store · 1: it reads it · 3: it writes, lays something new, or calls. -/
def opClass (o : Op) : Nat :=
  match o with
  | .load _ _ => 1
  | .lookup _ _ _ _ => 1
  | .convert _ _ _ => 1
  | .slice _ _ _ _ _ => 1
  | .alloc _ => 3
  | .box _ _ => 3
  | .buildSlice _ _ _ => 3
  | .makeMap _ _ => 3
  | .makeSlice _ _ _ => 3
  | .store _ _ _ => 3
  | .mapUpdate _ _ _ _ => 3
  | .insert _ _ _ _ => 3
  | .call c => match c.callee with
    | .builtin b => match b with
      | .len => 1
      | .cap => 0
      | .min => 0
      | .max => 0
      | _ => 3
    | _ => 3
  | _ => 0

/-- The same abstract value (for small ones). -/
def sameOne (x y : AV) : Bool :=
  match x with
  | .bool a => match y with | .bool b => eqBool a b | _ => false
  | .int j a => match y with | .int k b => eqKind j k && eqI a b | _ => false
  | .str a => match y with | .str b => eqB a b | _ => false
  | .nilPtr => match y with | .nilPtr => true | _ => false
  | .ptr a b => match y with | .ptr c d => Nat.beq a c && Nat.beq b d | _ => false
  | .nilSlice => match y with | .nilSlice => true | _ => false
  | .slice a b c d e => match y with | .slice a' b' c' d' e' => Nat.beq a a' && Nat.beq b b' && Nat.beq c c' && Nat.beq d d' && Nat.beq e e' | _ => false
  | .nilMap => match y with | .nilMap => true | _ => false
  | .map a => match y with | .map b => Nat.beq a b | _ => false
  | .nilFunc => match y with | .nilFunc => true | _ => false
  | .nilIface => match y with | .nilIface => true | _ => false
  | .yield a => match y with | .yield b => Nat.beq a b | _ => false
  | _ => false

def sameOnes (xs : List AV) : List AV → Bool :=
  List.rec (fun ys => isNil ys) (fun x _ ih ys => List.rec false (fun y ys _ => sameOne x y && ih ys) ys) xs

def sameAV (x y : AV) : Bool :=
  match x with
  | .agg xs => match y with | .agg ys => sameOnes xs ys | _ => false
  | .tuple xs => match y with | .tuple ys => sameOnes xs ys | _ => false
  | .fn f xs ys => match y with | .fn g xs' ys' => Nat.beq f g && sameOnes xs xs' && sameOnes ys ys' | _ => false
  | x => sameOne x y

/-- An operation that was carried out: its place, it, the temporaries that it saw, what it came to. -/
structure Seen where
  at_ : Nat
  op : Op
  tmps : List AV
  val : AV

/-- What is known within a region that draws: the store ahead of each loud operation; the reads; the variables that are laid ahead of all: the operation's place, the object, its cells. -/
structure Draw where
  loud : List (Nat × St)
  reads : List Seen
  news : List (Nat × Nat × List AV × Option (Nat × Nat))

def stillIs (C : Cfg) (op : Op) (tmps : List AV) (σ : St) (v : AV) : Bool :=
  match aOp C.T C.E tmps op σ with
  | some (w, σ') => sameAV v w && Nat.beq σ'.next σ.next
  | none => false

/-- Of each place: is it among the ancestors? -/
def allLoudIn (mask : Nat) (l : List (Nat × St)) : Bool := List.rec true (fun p _ ih => boolC false ih (Nat.testBit mask p.1)) l
/-- A read, made ahead of each loud operation that is no ancestor of it, comes to the same. -/
def readEarly (op : Op) (tmps : List AV) (v : AV) (mask : Nat) (l : List (Nat × St)) : Bool :=
  List.rec true (fun p _ ih => boolC (boolC false ih (stillIs C op tmps p.2 v)) ih (Nat.testBit mask p.1)) l
/-- The reads, made behind a loud operation of which they are no ancestors, come to the same. -/
def readLate (σ : St) (mask : Nat) (l : List Seen) : Bool :=
  List.rec true (fun s _ ih => boolC (boolC false ih (stillIs C s.op s.tmps σ s.val)) ih (Nat.testBit mask s.at_)) l

def isFresh (σ : St) (id : Nat) (cs : List AV) : Bool :=
  match σ.get id with
  | some (.cells l fz ro) => sameOnes cs l && Nat.beq fz 0 && boolC true false ro
  | _ => false
/-- The variables that may not be laid yet are as they are laid. -/
def allFresh (σ : St) (mask : Nat) (l : List (Nat × Nat × List AV × Option (Nat × Nat))) : Bool :=
  List.rec true (fun p _ ih => boolC (boolC false ih (isFresh σ p.2.1 p.2.2.1)) ih (Nat.testBit mask p.1)) l

/-- The ancestors of an operation; masks: those of the earlier ones, the last one first; n: how many these are. -/
def maskOf (masks : List Nat) (n : Nat) (es : List Edge) : Nat :=
  List.rec 0 (fun e _ ih => boolC ih (Nat.lor (Nat.lor ih (2 ^ e.on)) (lget masks (n - 1 - e.on) 0)) (Region.binds .any e && Nat.blt e.on n)) es
/-- The ancestors of each operation, the last one's first. -/
def masksR (l : List Oper) : Nat → List Nat → List Nat :=
  List.rec (fun _ acc => acc) (fun o _ ih n acc => forceNat (maskOf acc n o.after.toList) fun m => forceNat (n + 1) fun n => ih n (m :: acc)) l
def masksOf (l : List Oper) : List Nat := (masksR l 0 []).reverse

def optMem (t : Nat) (d : Option Tmp) : Bool := match d with
  | some u => Nat.beq t u
  | none => false
def tmpIs (t : Nat) (x : Operand) : Bool := match x with
  | .tmp u => Nat.beq t u
  | _ => false
/-- Does an operation name this temporary: its own, an operand's, its guard's? -/
def namesTmp (ops : List Oper) (o : Oper) (t : Nat) : Bool :=
  optMem t o.dst || List.any o.op.operands.toList (tmpIs t) || (match o.guard with
    | some (j, _) => (match ops[j]? with
      | some g => optMem t g.dst
      | none => false)
    | none => false)
def writesTo (ops : List Oper) (o p : Oper) : Bool := match o.dst with
  | some t => namesTmp ops p t
  | none => false
def clash (ops : List Oper) (o p : Oper) : Bool := writesTo ops o p || writesTo ops p o
/-- Operations that share a temporary stand in order; an operation stands behind what it waits for. -/
def tempsOk (ops : List Oper) : Bool :=
  forceL (masksOf ops) fun ms => List.all (List.range ops.length) fun i => match ops[i]? with
    | some o => List.all o.after.toList (fun e => !Region.binds .any e || Nat.blt e.on i) && List.all (List.range i) fun j => (match ops[j]? with
      | some p => Nat.testBit (lget ms i 0) j || !clash ops o p
      | none => false)
    | none => false

def drawOne (i : Nat) (mask : Nat) (o : Oper) (D : Draw) (tmps : List AV) (σ : St) (k : AV → St → Draw → Res) : Res :=
  match stepOp C ih o.op tmps σ with
  | none => none
  | some (v, σ') =>
    forceAV v fun v => match opClass o.op with
    | 0 => k v σ D
    | 1 => boolC none (k v σ { loud := D.loud, reads := { at_ := i, op := o.op, tmps := tmps, val := v } :: D.reads, news := D.news }) (Nat.beq σ'.next σ.next && readEarly C o.op tmps v mask D.loud)
    | _ => boolC none (k v σ' { loud := (i, σ) :: D.loud, reads := D.reads, news := D.news }) (allLoudIn mask D.loud && readLate C σ' mask D.reads && allFresh σ' mask D.news)

def isConstA : Operand → Bool
  | .const _ => true
  | _ => false
/-- What an operation without a guard lays: a variable; a slice's cells, its length, an element's size. -/
def layOf (T : TT) (tmps : List AV) (o : Oper) : Option (List AV × Option (Nat × Nat)) := match o.guard with
  | some _ => none
  | none => match o.op with
    | .alloc t => match T t with
      | some ti => match ti.zero with
        | some (.tuple _) => none
        | some z => some (z.cells, none)
        | none => none
      | none => none
    | .buildSlice t n parts => match evParts tmps parts.toList with
        | some l => match sliceCells T t n l with
          | some (cs, size) => some (cs, some (n, size))
          | none => none
        | none => none
    | _ => none

def newVal (id : Nat) (k : Option (Nat × Nat)) : AV := match k with
  | some (n, size) => .slice id 0 n n size
  | none => .ptr id 0

def laidAlways (o : Oper) : Bool := match o.op with
  | .alloc _ => true
  | .buildSlice _ _ parts => List.all parts.toList fun p => isConstA p.2
  | _ => false
/-- Is there an operation that writes, or calls, and stands in no order to this one? -/
def unbound (ops : List Oper) (i : Nat) : Bool := forceL (masksOf ops) fun ms => List.any (List.range ops.length) fun j => match ops[j]? with
  | some p => Nat.beq (opClass p.op) 3 && !Nat.beq j i && !Nat.testBit (lget ms i 0) j && !Nat.testBit (lget ms j 0) i && !laidAlways p
  | none => false
/-- May it be laid ahead of all: a variable, a slice of constants; a slice that stands in no order to an operation that writes. -/
def hoistable (ops : List Oper) (i : Nat) (o : Oper) : Bool := boolC (match o.op with
  | .buildSlice _ _ _ => unbound ops i
  | _ => false) true (laidAlways o)

def putL (t : List AV) (d : Option Tmp) (v : AV) : List AV := match d with
  | some d => t.set d v
  | none => t
/-- What an operation comes to ahead of all that writes. -/
def quietV (C : Cfg) (ops : List Oper) (o : Oper) (t : List AV) (σ : St) : AV :=
  boolC .undef (boolC .undef (match aOp C.T C.E t o.op σ with
    | some (v, _) => v
    | none => .undef) (Nat.ble (opClass o.op) 1)) (wantedA ops o t)

/-- What may be laid ahead is laid. -/
def hoistK (C : Cfg) (ops : List Oper) (σ0 : St) (l : List Oper) : Nat → List AV → St → (List (Nat × Nat × List AV × Option (Nat × Nat)) → St → Res) → Res :=
  List.rec (fun _ _ σ k => k [] σ) (fun o _ ih i t σ k => match boolC none (layOf C.T t o) (hoistable ops i o) with
    | some (cs, d) => σ.pushK (.cells cs 0 false) fun σ' => ih (i + 1) (putL t o.dst (newVal σ.next d)) σ' (fun l σ'' => k ((i, σ.next, cs, d) :: l) σ'')
    | none => ih (i + 1) (putL t o.dst (quietV C ops o t σ0)) σ k) l

def newEnt (i : Nat) (l : List (Nat × Nat × List AV × Option (Nat × Nat))) : Option (Nat × List AV × Option (Nat × Nat)) := List.rec none (fun p _ ih => boolC ih (some p.2) (Nat.beq p.1 i)) l

def sameD (a b : Option (Nat × Nat)) : Bool := match a with
  | some (n, s) => match b with
    | some (m, r) => Nat.beq n m && Nat.beq s r
    | none => false
  | none => match b with
    | some _ => false
    | none => true
/-- Does the operation lay just this? -/
def layIs (T : TT) (t : List AV) (o : Oper) (cs : List AV) (d : Option (Nat × Nat)) : Bool := match layOf T t o with
  | some (cs', d') => sameOnes cs' cs && sameD d' d
  | none => false

def drawOps (ops : List Oper) (l : List Oper) : Nat → List Nat → Draw → AAct → St → Res :=
  List.rec (fun _ _ _ a σ => some (.normal, a, σ)) (fun o _ k i ms D a σ => List.rec none (fun mask ms _ => match newEnt i D.news with
    | some (id, cs, d) => boolC none (putK a o.dst (newVal id d) fun a' => k (i + 1) ms D a' σ) (layIs C.T a.tmps o cs d)
    | none => boolC (putK a o.dst .undef fun a' => k (i + 1) ms D a' σ)
      (drawOne C ih i mask o D a.tmps σ fun v σ' D' => putK a o.dst v fun a' => k (i + 1) ms D' a' σ') (wantedA ops o a.tmps)) ms) l

def drawC (ops : List Oper) (a : AAct) (σ : St) : Res :=
  boolC none (hoistK C ops σ ops 0 a.tmps σ fun news σ' => boolC none (drawOps C ih ops ops 0 (masksOf ops) { loud := [], reads := [], news := news } a σ') (allFresh σ' 0 news)) (tempsOk ops)

/-! Functions. -/

def killAll (l : List Nat) : St → Option St :=
  List.rec some (fun r _ ih σ => match σ.get r with
    | some .deferred => σ.setK r .dead ih
    | _ => none) l

def aResult (σ : St) (tmps : List AV) : ResultVar → Option AV
  | .tmp t => some (lget tmps t .undef)
  | .cell a t => aLoad C.T σ t (lget tmps a .undef)

def aResultsL (σ : St) (tmps : List AV) (l : List ResultVar) : Option (List AV) :=
  List.rec (some []) (fun r _ ih => match aResult C σ tmps r with
    | some v => match ih with
      | some vs => some (v :: vs)
      | none => none
    | none => none) l

def aResults (σ : St) (tmps : List AV) (fn : Func) : Option AV :=
  match aResultsL C σ tmps fn.results.toList with
  | some [v] => some v
  | some vs => some (.tuple vs)
  | none => none

def leaveF (fn : Func) (r : Res) : ResF :=
  match r with
  | some (e, a, σ) => match e with
    | .normal => match killAll a.defers σ with
      | some σ' => withSt σ' (aResults C σ' a.tmps fn)
      | none => none
    | .ret => match killAll a.defers σ with
      | some σ' => withSt σ' (aResults C σ' a.tmps fn)
      | none => none
    | _ => none
  | none => none

def padTo (l : List AV) (n : Nat) : List AV := lapp l (Nat.rec [] (fun _ ih => .undef :: ih) (n - llen l))

def stepF (f : FuncId) (args : List AV) (σ : St) : ResF :=
  match C.S f with
  | some s => s args σ
  | none => match C.F f with
    | some fn => match fn.body with
      | some c => forceL (padTo args fn.ntmps) fun t => leaveF C fn (ih.c c { tmps := t, defers := [], inRound := false } σ)
      | none => none
    | none => none

/-! Ranges over functions. -/

def setMany (ps : List Tmp) : List AV → List AV → List AV :=
  List.rec (fun _ l => l) (fun t _ ih vs l => List.rec l (fun v vs _ => ih vs (l.set t v)) vs) ps

def eqState (a b : LoopState) : Bool :=
  match a with
  | .ready => match b with | .ready => true | _ => false
  | .busy => match b with | .busy => true | _ => false
  | .done => match b with | .done => true | _ => false
  | .exhausted => match b with | .exhausted => true | _ => false

def ALoop.to (r : ALoop) (s : LoopState) (p : Option Code) : ALoop :=
  { state := s, pending := p, tmps := r.tmps, params := r.params, assign := r.assign, body := r.body, defers := r.defers }

def loopAt (σ : St) (l : Nat) : Option ALoop :=
  match σ.get l with
  | some (.loop r) => some r
  | _ => none

def endRound (l : Nat) (σ : St) (jump : Option Code) : ResF :=
  match loopAt σ l with
  | some r => match jump with
    | none => σ.setK l (.loop (r.to .ready none)) fun σ' => some (.bool true, σ')
    | some c => σ.setK l (.loop (r.to .done (some c))) fun σ' => some (.bool false, σ')
  | none => none

def roundEnd (l : Nat) (r : Res) : ResF :=
  match r with
  | some (e, a, σ) => match a.defers with
    | [] => match e with
      | .normal => endRound l σ none
      | .ret => endRound l σ (some .ret)
      | .exit id => endRound l σ (some (.exit id))
      | _ => none
    | _ => none
  | none => none

def roundBody (l : Nat) (body : Code) (r : Res) : ResF :=
  match r with
  | some (e, a, σ) => match e with
    | .normal => match loopAt σ l with
      | some q => boolC none (σ.setK l (.loop (q.to .busy q.pending)) fun σ' => roundEnd l (ih.c body a σ')) (eqState q.state .ready)
      | none => none
    | _ => none
  | none => none

def stepR (l : Nat) (args : List AV) (σ : St) : ResF :=
  match loopAt σ l with
  | some r => boolC none (forceL (setMany r.params args r.tmps) fun t => roundBody ih l r.body (ih.c r.assign { tmps := t, defers := [], inRound := true } σ)) (Nat.beq (llen args) (llen r.params))
  | none => none

/-- The function that was ranged over has ended. -/
def rangeEnd (l d : Nat) (a : AAct) (r : ResF) : Res :=
  match r with
  | some (_, σ) => match loopAt σ l with
    | some q => boolC (σ.setK l (.loop (q.to .exhausted q.pending)) fun σ' =>
        match q.pending with
        | none => some (.normal, { tmps := a.tmps, defers := d :: a.defers, inRound := a.inRound }, σ')
        | some c => ih.c c { tmps := a.tmps, defers := d :: a.defers, inRound := a.inRound } σ') none (eqState q.state .busy)
    | none => none
  | none => none

def stepRange (f : Operand) (params : Array Tmp) (assign body : Code) (a : AAct) (σ : St) : Res :=
  boolC (match evT a.tmps f with
    | some (.fn g first cap) => match C.S g with
      | none => σ.pushK .deferred fun σ1 =>
        σ1.pushK (.loop { state := .ready, pending := none, tmps := a.tmps, params := params.toList, assign := assign, body := body, defers := σ.next }) fun σ2 =>
        rangeEnd ih σ1.next σ.next a (ih.f g (lapp first (.yield σ1.next :: cap)) σ2)
      | some _ => none
    | _ => none) none a.inRound

def seqC (y : Code) (r : Res) : Res :=
  match r with
  | some (e, a, σ) => match e with
    | .normal => ih.c y a σ
    | e => some (e, a, σ)
  | none => none

def condC (x y : Code) (a : AAct) (σ : St) (v : Option AV) : Res :=
  match v with
  | some (.bool b) => boolC (ih.c y a σ) (ih.c x a σ) b
  | _ => none

def blockC (id : Nat) (r : Res) : Res :=
  match r with
  | some (e, a, σ) => match e with
    | .exit id' => boolC (some (.exit id', a, σ)) (some (.normal, a, σ)) (Nat.beq id' id)
    | e => some (e, a, σ)
  | none => none

def stepC (c : Code) (a : AAct) (σ : St) : Res :=
  match c with
  | .skip => some (.normal, a, σ)
  | .region _ ops draw => boolC (stepOps C ih ops.toList ops.toList a σ) (drawC C ih ops.toList a σ) draw
  | .seq x y => seqC ih y (ih.c x a σ)
  | .cond v x y => condC ih x y a σ (evT a.tmps v)
  | .block id body => blockC id (ih.c body a σ)
  | .loop body => seqC ih (.loop body) (ih.c body a σ)
  | .rangeFunc f params assign body => stepRange C ih f params assign body a σ
  | .exit id => some (.exit id, a, σ)
  | .scope _ => none
  | .label _ => some (.normal, a, σ)
  | .goto _ => none
  | .ret => some (.ret, a, σ)
  | .refuse _ => none

def stepE : Evs := { c := stepC C ih, f := stepF C ih, r := stepR ih }
end steps

def evZ : Evs := { c := fun _ _ _ => none, f := fun _ _ _ => none, r := fun _ _ _ => none }

/-- THE EVALUATOR, with so much fuel (how deep it may go). -/
def ev (C : Cfg) (n : Nat) : Evs := Nat.rec evZ (fun _ ih => stepE C ih) n

/-! ### Tables out of a program -/

def evens {α : Type} (l : List α) : List α × List α := List.rec ([], []) (fun x _ ih => (x :: ih.2, ih.1)) l

def BT.ofList {α : Type} (n : Nat) : List α → BT α :=
  Nat.rec (fun _ => .nil) (fun _ ih l => List.rec .nil (fun x l _ => .node x (ih (evens l).1) (ih (evens l).2)) l) n

def isAggD : TypeDesc → Bool
  | .struct _ => true
  | .array _ _ => true
  | _ => false

def noTuple (x : Option AV) : Option AV := match x with
  | some (.tuple _) => none
  | x => x

def mkTy (u : Nat → Option TypeInfo) (i : TypeInfo) : Option TyI :=
  let mk (d : TypeDesc) : TyI := { desc := d, size := i.size, bytes := i.bytes, zero := match i.zero with | some z => noTuple (ofVal z) | none => none, agg := isAggD d, kill := false }
  match i.desc with
  | .named _ v => match u v with
    | some j => some (mk j.desc)
    | none => none
  | d => some (mk d)

def typesOf (l : List TypeInfo) : BT (Option TyI) :=
  BT.ofList 20 (List.rec [] (fun i _ ih => mkTy (BT.ofList 20 l).get i :: ih) l)

def bjoin {α : Type} (x : Option (Option α)) : Option α := match x with
  | some y => y
  | none => none

end
end Go.Abs
