/-
  REGIONS THAT DRAW THEIR ORDER, in continuation style.
-/
import Derived.Test.YthpaljelbkclbaaDoorAbsVal
namespace Go.Abs
open Go
noncomputable section
section
variable (C : Cfg) {β : Type}

def mAt (ms : List Nat) (i : Nat) : Nat := ms.getD i 0
def runD (ms : List Nat) (ops l : List Oper) (i : Nat) (D : Draw) (a : AAct) (k : AAct → St → Option β) (σ : HS (ops, l, i, D, a, k)) : Option β :=
  Option.bind (drawOps C (W C) ops l i (ms.drop i) D a σ) fun p => k p.2.1 p.2.2

abbrev HB {α : Type} (_ : α) : Type := Bool
abbrev HN {α : Type} (_ : α) : Type := Nat
abbrev HO {α : Type} (_ : α) : Type := Option (Nat × List AV × Option (Nat × Nat))
def clsK (x0 x1 x3 : Option β) (c : HN (x0, x1, x3)) : Option β := match c with
  | 0 => x0
  | 1 => x1
  | _ => x3
theorem clsK_0 (x0 x1 x3 : Option β) : clsK x0 x1 x3 0 = x0 := rfl
theorem clsK_1 (x0 x1 x3 : Option β) : clsK x0 x1 x3 1 = x1 := rfl
theorem clsK_3 (x0 x1 x3 : Option β) : clsK x0 x1 x3 3 = x3 := rfl
def chkK (x : Option β) (b : HB x) : Option β := boolC none x b
theorem chkK_true (x : Option β) : chkK x true = x := rfl
def newK (f : Nat → List AV → Option (Nat × Nat) → Option β) (g : Option β) (x : HO (f, g)) : Option β := match x with
  | some (id, cs, d) => f id cs d
  | none => g
theorem newK_some (f : Nat → List AV → Option (Nat × Nat) → Option β) (g : Option β) (id : Nat) (cs : List AV) (d : Option (Nat × Nat)) : newK f g (some (id, cs, d)) = f id cs d := rfl
theorem newK_none (f : Nat → List AV → Option (Nat × Nat) → Option β) (g : Option β) : newK f g none = g := rfl
theorem newEnt_nil (i : Nat) : newEnt i [] = none := rfl
theorem newEnt_cons (i j id : Nat) (cs : List AV) (d : Option (Nat × Nat)) (l : List (Nat × Nat × List AV × Option (Nat × Nat))) : newEnt i ((j, id, cs, d) :: l) = if j = i then some (id, cs, d) else newEnt i l := by
  show boolC (newEnt i l) (some (id, cs, d)) (Nat.beq j i) = _
  rw [nbeq, boolC_eq, Bool.cond_decide]
theorem newVal_none (id : Nat) : newVal id none = .ptr id 0 := rfl
theorem newVal_some (id n e : Nat) : newVal id (some (n, e)) = .slice id 0 n n e := rfl

theorem runD_nil (ms : List Nat) (ops : List Oper) (i : Nat) (D : Draw) (a : AAct) (σ : St) (k : AAct → St → Option β) : runD C ms ops [] i D a k σ = k a σ := rfl
theorem runD_app (ms : List Nat) (ops l m : List Oper) (i : Nat) (D : Draw) (o : Oper) (a : AAct) (σ : St) (k : AAct → St → Option β) : runD C ms ops (List.append (o :: l) m) i D a k σ = runD C ms ops (o :: List.append l m) i D a k σ := rfl
theorem runD_app0 (ms : List Nat) (ops m : List Oper) (i : Nat) (D : Draw) (a : AAct) (σ : St) (k : AAct → St → Option β) : runD C ms ops (List.append [] m) i D a k σ = runD C ms ops m i D a k σ := rfl

theorem drop_masks {ms : List Nat} {i : Nat} (h : i < ms.length) : ms.drop i = mAt ms i :: ms.drop (i + 1) := by
  rw [List.drop_eq_getElem_cons h, mAt, List.getD_eq_getElem?_getD, List.getElem?_eq_getElem h]; rfl

theorem put_some (n : Nat) (η : Env) (ds : List Nat) (r : Bool) (d : Tmp) (v : AV) : AAct.put ⟨mat n η, ds, r⟩ (some d) v = ⟨mat n ((d, v) :: η), ds, r⟩ := by simp only [AAct.put, set_mat]
/-- What one operation does in a region that draws. -/
def afterD (ms : List Nat) (ops l : List Oper) (i : Nat) (D : Draw) (op : Op) (d : Option Tmp) (a : AAct) (σ : St) (k : AAct → St → Option β) (v : AV) (σ' : St) : Option β :=
  clsK (runD C ms ops l (i + 1) D (a.put d v) k σ)
    (chkK (runD C ms ops l (i + 1) { loud := D.loud, reads := { at_ := i, op := op, tmps := a.tmps, val := v } :: D.reads, news := D.news } (a.put d v) k σ) (Nat.beq σ'.next σ.next && readEarly C op a.tmps v (mAt ms i) D.loud))
    (chkK (runD C ms ops l (i + 1) { loud := (i, σ) :: D.loud, reads := D.reads, news := D.news } (a.put d v) k σ') (allLoudIn (mAt ms i) D.loud && readLate C σ' (mAt ms i) D.reads && allFresh σ' (mAt ms i) D.news))
    (opClass op)

theorem runD_cons (ms : List Nat) (ops l : List Oper) (i : Nat) (D : Draw) (o : Oper) (a : AAct) (σ : St) (k : AAct → St → Option β) (hi : i < ms.length) :
    runD C ms ops (o :: l) i D a k σ = newK (fun id cs d => chkK (runD C ms ops l (i + 1) D (a.put o.dst (newVal id d)) k σ) (layIs C.T a.tmps o cs d))
      (bif wantedA ops o a.tmps then bnd (afterD C ms ops l i D o.op o.dst a σ k) (opR C o.op a.tmps σ) else runD C ms ops l (i + 1) D (a.put o.dst .undef) k σ) (newEnt i D.news) := by
  unfold runD
  rw [drop_masks hi, drawOps_cons]
  simp only [putK_eq]
  cases newEnt i D.news with
  | some e =>
    obtain ⟨id, cs, d⟩ := e
    simp only [newK_some, chkK]
    generalize layIs C.T a.tmps o cs d = b
    cases b <;> rfl
  | none =>
    show _ = (bif wantedA ops o a.tmps then _ else _)
    cases wantedA ops o a.tmps with
    | false => rfl
    | true =>
      simp only [boolC_true, cond_true]
      unfold drawOne bnd opR
      cases stepOp C (W C) o.op a.tmps σ with
      | none => rfl
      | some p =>
        obtain ⟨v, σ'⟩ := p
        simp only [forceAV_eq, Option.bind_some]
        unfold afterD clsK chkK runD
        generalize opClass o.op = c
        match c with
        | 0 => rfl
        | 1 =>
          simp only
          generalize (Nat.beq σ'.next σ.next && readEarly C o.op a.tmps v (mAt ms i) D.loud) = b
          cases b <;> rfl
        | c + 2 =>
          simp only
          generalize (allLoudIn (mAt ms i) D.loud && readLate C σ' (mAt ms i) D.reads && allFresh σ' (mAt ms i) D.news) = b
          cases b <;> rfl

theorem afterD_some (ms : List Nat) (ops l : List Oper) (i : Nat) (D : Draw) (op : Op) (d : Tmp) (n : Nat) (η : Env) (ds : List Nat) (r : Bool) (σ : St) (k : AAct → St → Option β) (v : AV) (σ' : St) :
    afterD C ms ops l i D op (some d) ⟨mat n η, ds, r⟩ σ k v σ' = clsK (runD C ms ops l (i + 1) D ⟨mat n ((d, v) :: η), ds, r⟩ k σ)
    (chkK (runD C ms ops l (i + 1) { loud := D.loud, reads := { at_ := i, op := op, tmps := mat n η, val := v } :: D.reads, news := D.news } ⟨mat n ((d, v) :: η), ds, r⟩ k σ) (Nat.beq σ'.next σ.next && readEarly C op (mat n η) v (mAt ms i) D.loud))
    (chkK (runD C ms ops l (i + 1) { loud := (i, σ) :: D.loud, reads := D.reads, news := D.news } ⟨mat n ((d, v) :: η), ds, r⟩ k σ') (allLoudIn (mAt ms i) D.loud && readLate C σ' (mAt ms i) D.reads && allFresh σ' (mAt ms i) D.news))
    (opClass op) := by
  unfold afterD
  rw [put_some]
theorem afterD_none (ms : List Nat) (ops l : List Oper) (i : Nat) (D : Draw) (op : Op) (n : Nat) (η : Env) (ds : List Nat) (r : Bool) (σ : St) (k : AAct → St → Option β) (v : AV) (σ' : St) :
    afterD C ms ops l i D op none ⟨mat n η, ds, r⟩ σ k v σ' = clsK (runD C ms ops l (i + 1) D ⟨mat n η, ds, r⟩ k σ)
    (chkK (runD C ms ops l (i + 1) { loud := D.loud, reads := { at_ := i, op := op, tmps := mat n η, val := v } :: D.reads, news := D.news } ⟨mat n η, ds, r⟩ k σ) (Nat.beq σ'.next σ.next && readEarly C op (mat n η) v (mAt ms i) D.loud))
    (chkK (runD C ms ops l (i + 1) { loud := (i, σ) :: D.loud, reads := D.reads, news := D.news } ⟨mat n η, ds, r⟩ k σ') (allLoudIn (mAt ms i) D.loud && readLate C σ' (mAt ms i) D.reads && allFresh σ' (mAt ms i) D.news))
    (opClass op) := rfl

theorem put_none (a : AAct) (v : AV) : a.put none v = a := rfl
theorem runD_plain (ms : List Nat) (ops l : List Oper) (i : Nat) (D : Draw) (d : Tmp) (op : Op) (ty : TypeId) (pos : String) (aft : Array Edge) (n : Nat) (η : Env) (ds : List Nat) (r : Bool) (σ : St) (k : AAct → St → Option β) (hi : Nat.blt i ms.length = true) :
    runD C ms ops (⟨some d, op, ty, pos, aft, none⟩ :: l) i D ⟨mat n η, ds, r⟩ k σ = newK (fun id cs nd => chkK (runD C ms ops l (i + 1) D ⟨mat n ((d, newVal id nd) :: η), ds, r⟩ k σ) (layIs C.T (mat n η) ⟨some d, op, ty, pos, aft, none⟩ cs nd))
      (bnd (afterD C ms ops l i D op (some d) ⟨mat n η, ds, r⟩ σ k) (opR C op (mat n η) σ)) (newEnt i D.news) := by
  rw [runD_cons C ms ops l i D _ _ σ k (by simpa using hi)]
  have e : (fun id cs nd => chkK (runD C ms ops l (i + 1) D (AAct.put ⟨mat n η, ds, r⟩ (some d) (newVal id nd)) k σ) (layIs C.T (mat n η) ⟨some d, op, ty, pos, aft, none⟩ cs nd)) =
      fun id cs nd => chkK (runD C ms ops l (i + 1) D ⟨mat n ((d, newVal id nd) :: η), ds, r⟩ k σ) (layIs C.T (mat n η) ⟨some d, op, ty, pos, aft, none⟩ cs nd) := funext fun id => funext fun cs => funext fun nd => by rw [put_some]
  show newK (fun id cs nd => chkK (runD C ms ops l (i + 1) D (AAct.put ⟨mat n η, ds, r⟩ (some d) (newVal id nd)) k σ) (layIs C.T (mat n η) ⟨some d, op, ty, pos, aft, none⟩ cs nd)) _ _ = _
  rw [e]; rfl
theorem runD_bare (ms : List Nat) (ops l : List Oper) (i : Nat) (D : Draw) (op : Op) (ty : TypeId) (pos : String) (aft : Array Edge) (n : Nat) (η : Env) (ds : List Nat) (r : Bool) (σ : St) (k : AAct → St → Option β) (hi : Nat.blt i ms.length = true) :
    runD C ms ops (⟨none, op, ty, pos, aft, none⟩ :: l) i D ⟨mat n η, ds, r⟩ k σ = newK (fun _ cs nd => chkK (runD C ms ops l (i + 1) D ⟨mat n η, ds, r⟩ k σ) (layIs C.T (mat n η) ⟨none, op, ty, pos, aft, none⟩ cs nd))
      (bnd (afterD C ms ops l i D op none ⟨mat n η, ds, r⟩ σ k) (opR C op (mat n η) σ)) (newEnt i D.news) :=
  runD_cons C ms ops l i D _ _ σ k (by simpa using hi)
theorem runD_guard (ms : List Nat) (ops l : List Oper) (i : Nat) (D : Draw) (d : Tmp) (op : Op) (ty : TypeId) (pos : String) (aft : Array Edge) (j : Nat) (w : Bool) (n : Nat) (η : Env) (ds : List Nat) (r : Bool) (σ : St) (k : AAct → St → Option β) (hi : Nat.blt i ms.length = true) :
    runD C ms ops (⟨some d, op, ty, pos, aft, some (j, w)⟩ :: l) i D ⟨mat n η, ds, r⟩ k σ = newK (fun id cs nd => chkK (runD C ms ops l (i + 1) D ⟨mat n ((d, newVal id nd) :: η), ds, r⟩ k σ) (layIs C.T (mat n η) ⟨some d, op, ty, pos, aft, some (j, w)⟩ cs nd))
      (condV (bnd (afterD C ms ops l i D op (some d) ⟨mat n η, ds, r⟩ σ k) (opR C op (mat n η) σ)) (runD C ms ops l (i + 1) D ⟨mat n ((d, .undef) :: η), ds, r⟩ k σ) (.bool (yes (dstAt ops j) n η w))) (newEnt i D.news) := by
  rw [runD_cons C ms ops l i D _ _ σ k (by simpa using hi)]
  have e : (fun id cs nd => chkK (runD C ms ops l (i + 1) D (AAct.put ⟨mat n η, ds, r⟩ (some d) (newVal id nd)) k σ) (layIs C.T (mat n η) ⟨some d, op, ty, pos, aft, some (j, w)⟩ cs nd)) =
      fun id cs nd => chkK (runD C ms ops l (i + 1) D ⟨mat n ((d, newVal id nd) :: η), ds, r⟩ k σ) (layIs C.T (mat n η) ⟨some d, op, ty, pos, aft, some (j, w)⟩ cs nd) := funext fun id => funext fun cs => funext fun nd => by rw [put_some]
  show newK (fun id cs nd => chkK (runD C ms ops l (i + 1) D (AAct.put ⟨mat n η, ds, r⟩ (some d) (newVal id nd)) k σ) (layIs C.T (mat n η) ⟨some d, op, ty, pos, aft, some (j, w)⟩ cs nd)) (bif wantedA ops _ (mat n η) then _ else runD C ms ops l (i + 1) D (AAct.put ⟨mat n η, ds, r⟩ (some d) .undef) k σ) _ = _
  rw [e, put_some, wantedA_guard]
  cases yes (dstAt ops j) n η w <;> rfl
theorem runD_guardB (ms : List Nat) (ops l : List Oper) (i : Nat) (D : Draw) (op : Op) (ty : TypeId) (pos : String) (aft : Array Edge) (j : Nat) (w : Bool) (n : Nat) (η : Env) (ds : List Nat) (r : Bool) (σ : St) (k : AAct → St → Option β) (hi : Nat.blt i ms.length = true) :
    runD C ms ops (⟨none, op, ty, pos, aft, some (j, w)⟩ :: l) i D ⟨mat n η, ds, r⟩ k σ = newK (fun _ cs nd => chkK (runD C ms ops l (i + 1) D ⟨mat n η, ds, r⟩ k σ) (layIs C.T (mat n η) ⟨none, op, ty, pos, aft, some (j, w)⟩ cs nd))
      (condV (bnd (afterD C ms ops l i D op none ⟨mat n η, ds, r⟩ σ k) (opR C op (mat n η) σ)) (runD C ms ops l (i + 1) D ⟨mat n η, ds, r⟩ k σ) (.bool (yes (dstAt ops j) n η w))) (newEnt i D.news) := by
  rw [runD_cons C ms ops l i D _ _ σ k (by simpa using hi)]
  show newK _ (bif wantedA ops _ (mat n η) then _ else _) _ = _
  rw [wantedA_guard]
  cases yes (dstAt ops j) n η w <;> rfl

/-! #### classes of operations -/
section cls
theorem cls_move (x : Operand) : opClass (.move x) = 0 := rfl
theorem cls_assign (x : Operand) : opClass (.assign x) = 0 := rfl
theorem cls_pick (c x y : Operand) : opClass (.pick c x y) = 0 := rfl
theorem cls_alloc (t : TypeId) : opClass (.alloc t) = 3 := rfl
theorem cls_box (t : TypeId) (x : Operand) : opClass (.box t x) = 3 := rfl
theorem cls_build (t : TypeId) (p : Array (Nat × Operand)) : opClass (.build t p) = 0 := rfl
theorem cls_buildSlice (t : TypeId) (n : Nat) (p : Array (Nat × Operand)) : opClass (.buildSlice t n p) = 3 := rfl
theorem cls_load (t : TypeId) (x : Operand) : opClass (.load t x) = 1 := rfl
theorem cls_store (t : TypeId) (x y : Operand) : opClass (.store t x y) = 3 := rfl
theorem cls_nilCheck (x : Operand) : opClass (.nilCheck x) = 0 := rfl
theorem cls_binOp (o : BinOp) (t : TypeId) (x y : Operand) (t' : TypeId) : opClass (.binOp o t x y t') = 0 := rfl
theorem cls_unOp (o : UnOp) (t : TypeId) (x : Operand) : opClass (.unOp o t x) = 0 := rfl
theorem cls_convert (s d : TypeId) (x : Operand) : opClass (.convert s d x) = 1 := rfl
theorem cls_makeFunc (f : Fn) (a b : Array Operand) : opClass (.makeFunc f a b) = 0 := rfl
theorem cls_makeMap (t : TypeId) (x : Option Operand) : opClass (.makeMap t x) = 3 := rfl
theorem cls_makeSlice (t : TypeId) (x y : Operand) : opClass (.makeSlice t x y) = 3 := rfl
theorem cls_slice (t : TypeId) (x : Operand) (a b c : Option Operand) : opClass (.slice t x a b c) = 1 := rfl
theorem cls_fieldAddr (s : TypeId) (x : Operand) (f : Nat) : opClass (.fieldAddr s x f) = 0 := rfl
theorem cls_field (s : TypeId) (x : Operand) (f : Nat) : opClass (.field s x f) = 0 := rfl
theorem cls_indexAddr (t : TypeId) (x i : Operand) : opClass (.indexAddr t x i) = 0 := rfl
theorem cls_index (t : TypeId) (x i : Operand) : opClass (.index t x i) = 0 := rfl
theorem cls_lookup (t : TypeId) (m k : Operand) (ok : Bool) : opClass (.lookup t m k ok) = 1 := rfl
theorem cls_mapUpdate (t : TypeId) (m k v : Operand) : opClass (.mapUpdate t m k v) = 3 := rfl
theorem cls_insert (t : TypeId) (m k v : Operand) : opClass (.insert t m k v) = 3 := rfl
theorem cls_extract (x : Operand) (i : Nat) : opClass (.extract x i) = 0 := rfl
theorem cls_callV (f : Operand) (as : Array Operand) (ts : Array TypeId) : opClass (.call ⟨.value f, as, ts⟩) = 3 := rfl
theorem cls_len (as : Array Operand) (ts : Array TypeId) : opClass (.call ⟨.builtin .len, as, ts⟩) = 1 := rfl
theorem cls_cap (as : Array Operand) (ts : Array TypeId) : opClass (.call ⟨.builtin .cap, as, ts⟩) = 0 := rfl
theorem cls_min (as : Array Operand) (ts : Array TypeId) : opClass (.call ⟨.builtin .min, as, ts⟩) = 0 := rfl
theorem cls_max (as : Array Operand) (ts : Array TypeId) : opClass (.call ⟨.builtin .max, as, ts⟩) = 0 := rfl
theorem cls_append (as : Array Operand) (ts : Array TypeId) : opClass (.call ⟨.builtin .append, as, ts⟩) = 3 := rfl
theorem cls_copy (as : Array Operand) (ts : Array TypeId) : opClass (.call ⟨.builtin .copy, as, ts⟩) = 3 := rfl
theorem cls_clear (as : Array Operand) (ts : Array TypeId) : opClass (.call ⟨.builtin .clear, as, ts⟩) = 3 := rfl
end cls

/-! #### looks -/
theorem beq_self (n : Nat) : Nat.beq n n = true := by rw [nbeq]; simp
theorem readEarly_nil (op : Op) (t : List AV) (v : AV) (m : Nat) : readEarly C op t v m [] = true := rfl
theorem readEarly_cons (op : Op) (t : List AV) (v : AV) (m : Nat) (j : Nat) (σ : St) (l : List (Nat × St)) :
    readEarly C op t v m ((j, σ) :: l) = ((Nat.testBit m j || stillIs C op t σ v) && readEarly C op t v m l) := by
  show boolC (boolC false (readEarly C op t v m l) (stillIs C op t σ v)) (readEarly C op t v m l) (Nat.testBit m j) = _
  cases Nat.testBit m j <;> cases stillIs C op t σ v <;> rfl
theorem readEarly_anc (op : Op) (t : List AV) (v : AV) (ms : List Nat) (i : Nat) (j : Nat) (σ : St) (l : List (Nat × St)) (h : Nat.testBit (mAt ms i) j = true) :
    readEarly C op t v (mAt ms i) ((j, σ) :: l) = readEarly C op t v (mAt ms i) l := by rw [readEarly_cons, h]; rfl
theorem readEarly_chk (op : Op) (t : List AV) (v : AV) (ms : List Nat) (i : Nat) (j : Nat) (σ : St) (l : List (Nat × St)) (h : Nat.testBit (mAt ms i) j = false) :
    readEarly C op t v (mAt ms i) ((j, σ) :: l) = (stillIs C op t σ v && readEarly C op t v (mAt ms i) l) := by rw [readEarly_cons, h]; rfl
theorem readLate_nil (σ : St) (m : Nat) : readLate C σ m [] = true := rfl
theorem readLate_cons (σ : St) (m : Nat) (s : Seen) (l : List Seen) : readLate C σ m (s :: l) = ((Nat.testBit m s.at_ || stillIs C s.op s.tmps σ s.val) && readLate C σ m l) := by
  show boolC (boolC false (readLate C σ m l) (stillIs C s.op s.tmps σ s.val)) (readLate C σ m l) (Nat.testBit m s.at_) = _
  cases Nat.testBit m s.at_ <;> cases stillIs C s.op s.tmps σ s.val <;> rfl
theorem readLate_anc (σ : St) (ms : List Nat) (i j : Nat) (op : Op) (t : List AV) (v : AV) (l : List Seen) (h : Nat.testBit (mAt ms i) j = true) :
    readLate C σ (mAt ms i) (⟨j, op, t, v⟩ :: l) = readLate C σ (mAt ms i) l := by rw [readLate_cons, h]; rfl
theorem readLate_chk (σ : St) (ms : List Nat) (i j : Nat) (op : Op) (t : List AV) (v : AV) (l : List Seen) (h : Nat.testBit (mAt ms i) j = false) :
    readLate C σ (mAt ms i) (⟨j, op, t, v⟩ :: l) = (stillIs C op t σ v && readLate C σ (mAt ms i) l) := by rw [readLate_cons, h]; rfl
theorem allLoudIn_nil (m : Nat) : allLoudIn m [] = true := rfl
theorem allLoudIn_cons (ms : List Nat) (i j : Nat) (σ : St) (l : List (Nat × St)) (h : Nat.testBit (mAt ms i) j = true) : allLoudIn (mAt ms i) ((j, σ) :: l) = allLoudIn (mAt ms i) l := by
  show boolC false (allLoudIn (mAt ms i) l) (Nat.testBit (mAt ms i) j) = _
  rw [h]; rfl
theorem allFresh_nil (σ : St) (m : Nat) : allFresh σ m [] = true := rfl
theorem allFresh_anc (σ : St) (ms : List Nat) (i j id : Nat) (cs : List AV) (d : Option (Nat × Nat)) (l : List (Nat × Nat × List AV × Option (Nat × Nat))) (h : Nat.testBit (mAt ms i) j = true) :
    allFresh σ (mAt ms i) ((j, id, cs, d) :: l) = allFresh σ (mAt ms i) l := by
  show boolC (boolC false (allFresh σ (mAt ms i) l) (isFresh σ id cs)) (allFresh σ (mAt ms i) l) (Nat.testBit (mAt ms i) j) = _
  rw [h]; rfl
theorem allFresh_cons (σ : St) (m : Nat) (j id : Nat) (cs : List AV) (d : Option (Nat × Nat)) (l : List (Nat × Nat × List AV × Option (Nat × Nat))) (h : isFresh σ id cs = true) :
    allFresh σ m ((j, id, cs, d) :: l) = allFresh σ m l := by
  show boolC (boolC false (allFresh σ m l) (isFresh σ id cs)) (allFresh σ m l) (Nat.testBit m j) = _
  rw [h]; cases Nat.testBit m j <;> rfl

/-- A read made once more: the same. -/
def stC (v : AV) (σ : St) (r : Option (AV × St)) : Bool := match r with
  | some (w, σ') => sameAV v w && Nat.beq σ'.next σ.next
  | none => false
theorem stC_some (v w : AV) (σ σ' : St) : stC v σ (some (w, σ')) = (sameAV v w && Nat.beq σ'.next σ.next) := rfl
theorem stillIs_load (t : List AV) (σ : St) (v : AV) (ty : TypeId) (x : Operand) : stillIs C (.load ty x) t σ v = stC v σ (opR C (.load ty x) t σ) := rfl
theorem stillIs_lookup (t : List AV) (σ : St) (v : AV) (ty : TypeId) (m k : Operand) (ok : Bool) : stillIs C (.lookup ty m k ok) t σ v = stC v σ (opR C (.lookup ty m k ok) t σ) := rfl
theorem stillIs_convert (t : List AV) (σ : St) (v : AV) (s d : TypeId) (x : Operand) : stillIs C (.convert s d x) t σ v = stC v σ (opR C (.convert s d x) t σ) := rfl
theorem stillIs_slice (t : List AV) (σ : St) (v : AV) (ty : TypeId) (x : Operand) (a b c : Option Operand) : stillIs C (.slice ty x a b c) t σ v = stC v σ (opR C (.slice ty x a b c) t σ) := rfl
theorem stillIs_len (t : List AV) (σ : St) (v : AV) (as : Array Operand) (ts : Array TypeId) : stillIs C (.call ⟨.builtin .len, as, ts⟩) t σ v = stC v σ (opR C (.call ⟨.builtin .len, as, ts⟩) t σ) := rfl

theorem sameOne_self {v : AV} (h : sameOne v v = true) : sameOne v v = true := h
theorem sOne_int (k : IntKind) (n : Int) : sameOne (.int k n) (.int k n) = true := by
  show (eqKind k k && eqI n n) = true
  rw [eqKind_eq, eqI_eq]; simp
theorem sOne_bool (b : Bool) : sameOne (.bool b) (.bool b) = true := by cases b <;> rfl
theorem sOne_str (s : List UInt8) : sameOne (.str s) (.str s) = true := by show eqB s s = true; rw [eqB_eq]; simp
theorem sOne_ptr (i o : Nat) : sameOne (.ptr i o) (.ptr i o) = true := by show (Nat.beq i i && Nat.beq o o) = true; rw [beq_self, beq_self]; rfl
theorem sOne_sl {v : AV} (h : isSl v = true) : sameOne v v = true := by
  cases v <;> first | rfl | (cases h; done) | (show (Nat.beq _ _ && Nat.beq _ _ && Nat.beq _ _ && Nat.beq _ _ && Nat.beq _ _) = true; simp only [beq_self]; rfl)
theorem sOne_map (i : Nat) : sameOne (.map i) (.map i) = true := beq_self i
theorem sOne_yield (i : Nat) : sameOne (.yield i) (.yield i) = true := beq_self i
theorem sAV_int (k : IntKind) (n : Int) : sameAV (.int k n) (.int k n) = true := sOne_int k n
theorem sAV_bool (b : Bool) : sameAV (.bool b) (.bool b) = true := sOne_bool b
theorem sAV_str (s : List UInt8) : sameAV (.str s) (.str s) = true := sOne_str s
theorem sAV_ptr (i o : Nat) : sameAV (.ptr i o) (.ptr i o) = true := sOne_ptr i o
theorem sAV_sl {v : AV} (h : isSl v = true) : sameAV v v = true := by
  have := sOne_sl h
  cases v <;> first | exact this | (cases h; done)
theorem sAV_map (i : Nat) : sameAV (.map i) (.map i) = true := sOne_map i
theorem sAV_agg (l : List AV) : sameAV (.agg l) (.agg l) = sameOnes l l := rfl
theorem sAV_tuple (l : List AV) : sameAV (.tuple l) (.tuple l) = sameOnes l l := rfl
theorem sAV_nilPtr : sameAV .nilPtr .nilPtr = true := rfl
theorem sAV_nilMap : sameAV .nilMap .nilMap = true := rfl
theorem sAV_nilFunc : sameAV .nilFunc .nilFunc = true := rfl
theorem sOnes_nil : sameOnes [] [] = true := rfl
theorem sOnes_cons (x : AV) (l : List AV) : sameOnes (x :: l) (x :: l) = (sameOne x x && sameOnes l l) := rfl
theorem isFresh_of {σ : St} {id : Nat} {cs : List AV} (h : σ.get id = some (.cells cs 0 false)) (hs : sameOnes cs cs = true) : isFresh σ id cs = true := by
  unfold isFresh; rw [h]; simp only [hs]; rfl
/-- Is an object as it was laid? -/
def frO (cs : List AV) (o : Option AObj) : Bool := match o with
  | some (.cells l fz ro) => sameOnes cs l && Nat.beq fz 0 && boolC true false ro
  | _ => false
theorem isFresh_frO (σ : St) (id : Nat) (cs : List AV) : isFresh σ id cs = frO cs (σ.get id) := by
  unfold isFresh frO; cases σ.get id with
  | none => rfl
  | some o => cases o <;> rfl
theorem frO_cells (cs : List AV) : frO cs (some (.cells cs 0 false)) = sameOnes cs cs := by
  show (sameOnes cs cs && Nat.beq 0 0 && boolC true false false) = _
  cases sameOnes cs cs <;> rfl

/-! #### what is laid ahead -/
theorem sameD_none : sameD none none = true := rfl
theorem sameD_some (n s : Nat) : sameD (some (n, s)) (some (n, s)) = true := by show (Nat.beq n n && Nat.beq s s) = true; rw [beq_self, beq_self]; rfl
def layB (x : Option (List AV × Option (Nat × Nat))) (cs : List AV) (d : Option (Nat × Nat)) : Bool := match x with
  | some (cs', d') => sameOnes cs' cs && sameD d' d
  | none => false
theorem layIs_layB (T : TT) (t : List AV) (o : Oper) (cs : List AV) (d : Option (Nat × Nat)) : layIs T t o cs d = layB (layOf T t o) cs d := rfl
theorem layB_some (cs' cs : List AV) (d' d : Option (Nat × Nat)) : layB (some (cs', d')) cs d = (sameOnes cs' cs && sameD d' d) := rfl
def slC (n s : Nat) (x : Option (List AV)) : Option (List AV × Option (Nat × Nat)) := match x with
  | some cs => some (cs, some (n, s))
  | none => none
theorem slC_some (n s : Nat) (cs : List AV) : slC n s (some cs) = some (cs, some (n, s)) := rfl
def evP (x : Option (List (Nat × AV))) (k : List (Nat × AV) → Option (List AV × Option (Nat × Nat))) : Option (List AV × Option (Nat × Nat)) := match x with
  | some l => k l
  | none => none
theorem evP_some (l : List (Nat × AV)) (k : List (Nat × AV) → Option (List AV × Option (Nat × Nat))) : evP (some l) k = k l := rfl
def laySC (T : TT) (ty : TypeId) (n : Nat) (l : List (Nat × AV)) : Option (List AV × Option (Nat × Nat)) := match sliceCells T ty n l with
  | some (cs, size) => some (cs, some (n, size))
  | none => none
theorem layOf_bs (T : TT) (t : List AV) (d : Option Tmp) (t1 ty : TypeId) (n : Nat) (ps : List (Nat × Operand)) (pos : String) (aft : Array Edge) :
    layOf T t ⟨d, .buildSlice t1 n ps.toArray, ty, pos, aft, none⟩ = evP (evParts t ps) (laySC T t1 n) := by
  show (match evParts t ps.toArray.toList with | some l => _ | none => none) = _
  rw [List.toList_toArray]; rfl

/-- Is nothing laid ahead? -/
def noHoist (ops : List Oper) : List Oper → Nat → Bool
  | [], _ => true
  | o :: l, i => !hoistable ops i o && noHoist ops l (i + 1)
theorem hoistK_none {γ : Type} (ops : List Oper) (σ0 : St) : ∀ (l : List Oper) (i : Nat) (t : List AV) (σ : St) (k : List (Nat × Nat × List AV × Option (Nat × Nat)) → St → Res), noHoist ops l i = true → hoistK C ops σ0 l i t σ k = k [] σ
  | [], i, t, σ, k, h => rfl
  | o :: l, i, t, σ, k, h => by
    have e : hoistK C ops σ0 (o :: l) i t σ k = match boolC none (layOf C.T t o) (hoistable ops i o) with
      | some (cs, d) => σ.pushK (.cells cs 0 false) fun σ' => hoistK C ops σ0 l (i + 1) (putL t o.dst (newVal σ.next d)) σ' (fun l σ'' => k ((i, σ.next, cs, d) :: l) σ'')
      | none => hoistK C ops σ0 l (i + 1) (putL t o.dst (quietV C ops o t σ0)) σ k := rfl
    rw [e]
    unfold noHoist at h
    rw [Bool.and_eq_true, Bool.not_eq_true'] at h
    rw [h.1, boolC_false]
    exact hoistK_none (γ := γ) ops σ0 l (i + 1) _ σ k h.2

theorem run_drawX (id : Nat) (ops : List Oper) (a : AAct) (σ : St) (k : Exit → AAct → St → Option β) (h1 : tempsOk ops = true) (news : List (Nat × Nat × List AV × Option (Nat × Nat))) (σ' : St)
    (h2 : ∀ (k : List (Nat × Nat × List AV × Option (Nat × Nat)) → St → Res), hoistK C ops σ ops 0 a.tmps σ k = k news σ') :
    run C (.region id ops.toArray true) a k σ = chkK (runD C (masksOf ops) ops ops 0 { loud := [], reads := [], news := news } a (k .normal) σ') (allFresh σ' 0 news) := by
  unfold run
  rw [W_c]
  show Option.bind (drawC C (W C) ops.toArray.toList a σ) _ = _
  rw [List.toList_toArray]
  unfold drawC
  rw [h1, boolC_true, h2]
  unfold chkK runD
  cases allFresh σ' 0 news with
  | false => rfl
  | true =>
    rw [boolC_true, boolC_true, List.drop_zero]
    cases hd : drawOps C (W C) ops ops 0 (masksOf ops) { loud := [], reads := [], news := news } a σ' with
    | none => rfl
    | some p =>
      obtain ⟨e, a', σ''⟩ := p
      have := (trace_of (C := C) (ih := W C) (L := ops) ops 0 (masksOf ops) _ a _ e a' σ'' hd).1
      subst this; rfl
theorem run_draw0 (id : Nat) (ops : List Oper) (a : AAct) (σ : St) (k : Exit → AAct → St → Option β) (h1 : tempsOk ops = true) (h2 : noHoist ops ops 0 = true) :
    run C (.region id ops.toArray true) a k σ = runD C (masksOf ops) ops ops 0 { loud := [], reads := [], news := [] } a (k .normal) σ := by
  rw [run_drawX C id ops a σ k h1 [] σ (fun k => hoistK_none C (γ := β) ops σ ops 0 a.tmps σ k h2)]
  exact chkK_true _

/-- What is laid ahead, and the store behind it. -/
def laid (ops : List Oper) (σ0 : St) : List Oper → Nat → List AV → St → List (Nat × Nat × List AV × Option (Nat × Nat)) × St
  | [], _, _, σ => ([], σ)
  | o :: l, i, t, σ => match boolC none (layOf C.T t o) (hoistable ops i o) with
    | some (cs, d) => ((i, σ.next, cs, d) :: (laid ops σ0 l (i + 1) (putL t o.dst (newVal σ.next d)) (σ.push (.cells cs 0 false))).1, (laid ops σ0 l (i + 1) (putL t o.dst (newVal σ.next d)) (σ.push (.cells cs 0 false))).2)
    | none => laid ops σ0 l (i + 1) (putL t o.dst (quietV C ops o t σ0)) σ
theorem hoistK_laid (ops : List Oper) (σ0 : St) : ∀ (l : List Oper) (i : Nat) (t : List AV) (σ : St) (k : List (Nat × Nat × List AV × Option (Nat × Nat)) → St → Res), hoistK C ops σ0 l i t σ k = k (laid C ops σ0 l i t σ).1 (laid C ops σ0 l i t σ).2
  | [], i, t, σ, k => rfl
  | o :: l, i, t, σ, k => by
    have e : hoistK C ops σ0 (o :: l) i t σ k = match boolC none (layOf C.T t o) (hoistable ops i o) with
      | some (cs, d) => σ.pushK (.cells cs 0 false) fun σ' => hoistK C ops σ0 l (i + 1) (putL t o.dst (newVal σ.next d)) σ' (fun l σ'' => k ((i, σ.next, cs, d) :: l) σ'')
      | none => hoistK C ops σ0 l (i + 1) (putL t o.dst (quietV C ops o t σ0)) σ k := rfl
    rw [e]
    unfold laid
    cases boolC none (layOf C.T t o) (hoistable ops i o) with
    | some x =>
      obtain ⟨cs, d⟩ := x
      simp only [St.pushK_eq]
      rw [hoistK_laid ops σ0 l]
    | none => simp only; exact hoistK_laid ops σ0 l _ _ _ k
theorem run_draw (id : Nat) (ops : List Oper) (a : AAct) (σ : St) (k : Exit → AAct → St → Option β) (h1 : tempsOk ops = true) {news : List (Nat × Nat × List AV × Option (Nat × Nat))} {σ' : St} (h2 : laid C ops σ ops 0 a.tmps σ = (news, σ')) :
    run C (.region id ops.toArray true) a k σ = chkK (runD C (masksOf ops) ops ops 0 { loud := [], reads := [], news := news } a (k .normal) σ') (allFresh σ' 0 news) :=
  run_drawX C id ops a σ k h1 news σ' fun k => by rw [hoistK_laid, h2]
theorem masks_lit {ops : List Oper} (ms : List Nat) (h : masksOf ops = ms) : masksOf ops = ms := h
theorem laid_nil (ops : List Oper) (σ0 : St) (i : Nat) (t : List AV) (σ : St) : laid C ops σ0 [] i t σ = ([], σ) := rfl
theorem laid_app (ops l m : List Oper) (σ0 : St) (o : Oper) (i : Nat) (t : List AV) (σ : St) : laid C ops σ0 (List.append (o :: l) m) i t σ = laid C ops σ0 (o :: List.append l m) i t σ := rfl
theorem laid_app0 (ops m : List Oper) (σ0 : St) (i : Nat) (t : List AV) (σ : St) : laid C ops σ0 (List.append [] m) i t σ = laid C ops σ0 m i t σ := rfl
theorem laid_skip (ops l : List Oper) (σ0 : St) (d : Option Tmp) (op : Op) (ty : TypeId) (pos : String) (aft : Array Edge) (g : Option (Nat × Bool)) (i : Nat) (t : List AV) (σ : St) (h : hoistable ops i ⟨d, op, ty, pos, aft, g⟩ = false) :
    laid C ops σ0 (⟨d, op, ty, pos, aft, g⟩ :: l) i t σ = laid C ops σ0 l (i + 1) (putL t d (quietV C ops ⟨d, op, ty, pos, aft, g⟩ t σ0)) σ := by
  simp only [laid, h, boolC_false]
def laidC (x : Option (List AV × Option (Nat × Nat))) (i : Nat) (σ : St) (f : Option (Nat × Nat) → St → List (Nat × Nat × List AV × Option (Nat × Nat)) × St) (g : List (Nat × Nat × List AV × Option (Nat × Nat)) × St) : List (Nat × Nat × List AV × Option (Nat × Nat)) × St := match x with
  | some (cs, d) => ((i, σ.next, cs, d) :: (f d (σ.push (.cells cs 0 false))).1, (f d (σ.push (.cells cs 0 false))).2)
  | none => g
theorem laidC_some (cs : List AV) (d : Option (Nat × Nat)) (i : Nat) (σ : St) (f : Option (Nat × Nat) → St → List (Nat × Nat × List AV × Option (Nat × Nat)) × St) (g : List (Nat × Nat × List AV × Option (Nat × Nat)) × St) :
    laidC (some (cs, d)) i σ f g = ((i, σ.next, cs, d) :: (f d (σ.push (.cells cs 0 false))).1, (f d (σ.push (.cells cs 0 false))).2) := rfl
theorem laid_lay (ops l : List Oper) (σ0 : St) (d : Option Tmp) (op : Op) (ty : TypeId) (pos : String) (aft : Array Edge) (g : Option (Nat × Bool)) (i : Nat) (t : List AV) (σ : St) (h : hoistable ops i ⟨d, op, ty, pos, aft, g⟩ = true) :
    laid C ops σ0 (⟨d, op, ty, pos, aft, g⟩ :: l) i t σ = laidC (layOf C.T t ⟨d, op, ty, pos, aft, g⟩) i σ (fun nd σ' => laid C ops σ0 l (i + 1) (putL t d (newVal σ.next nd)) σ') (laid C ops σ0 l (i + 1) (putL t d (quietV C ops ⟨d, op, ty, pos, aft, g⟩ t σ0)) σ) := by
  simp only [laid, h, boolC_true]
  cases layOf C.T t ⟨d, op, ty, pos, aft, g⟩ with
  | none => rfl
  | some x => rfl
theorem putL_mat (n : Nat) (η : Env) (d : Tmp) (v : AV) : putL (mat n η) (some d) v = mat n ((d, v) :: η) := set_mat n η d v
theorem putL_none (t : List AV) (v : AV) : putL t none v = t := rfl
def qvO (x : Option (AV × St)) : AV := match x with
  | some (v, _) => v
  | none => .undef
theorem qvO_some (v : AV) (σ : St) : qvO (some (v, σ)) = v := rfl
theorem quietV_q (ops : List Oper) (d : Option Tmp) (op : Op) (ty : TypeId) (pos : String) (aft : Array Edge) (t : List AV) (σ : St) (h : Nat.ble (opClass op) 1 = true) : quietV C ops ⟨d, op, ty, pos, aft, none⟩ t σ = qvO (opR C op t σ) := by
  have hc : opClass op = 1 ∨ opClass op = 0 := by have := Nat.le_of_ble_eq_true h; omega
  unfold opR
  rw [step_read hc]
  unfold quietV
  rw [show wantedA ops ⟨d, op, ty, pos, aft, none⟩ t = true from rfl, boolC_true, h, boolC_true]; rfl
theorem quietV_loud (ops : List Oper) (d : Option Tmp) (op : Op) (ty : TypeId) (pos : String) (aft : Array Edge) (g : Option (Nat × Bool)) (t : List AV) (σ : St) (h : Nat.ble (opClass op) 1 = false) : quietV C ops ⟨d, op, ty, pos, aft, g⟩ t σ = .undef := by
  unfold quietV
  rw [h, boolC_false]
  cases wantedA ops ⟨d, op, ty, pos, aft, g⟩ t <;> rfl
end
end
end Go.Abs
