/-
  THE OPERATIONS ON VALUES OF A KNOWN SHAPE: rewriting laws.
-/
import Derived.Test.YthpaljelbkclbaaDoorAbsRun
namespace Go.Abs
open Go
noncomputable section

/-! ### Types whose slices are given up where they are appended to -/
def killT (K : List TypeId) (T : TT) : TT := fun t => match T t with
  | some i => some { desc := i.desc, size := i.size, bytes := i.bytes, zero := i.zero, agg := i.agg, kill := ltag K t }
  | none => none

/-! ### numbers -/
section nums
variable (T : TT) (E : List TypeId) (ty : TypeId) (k : IntKind) (a b : Int)

theorem aBin_add : aBin T E .add ty (.int k a) (.int k b) = some (.int k (wrapA k (a + b))) := by cases k <;> rfl
theorem aBin_sub : aBin T E .sub ty (.int k a) (.int k b) = some (.int k (wrapA k (a - b))) := by cases k <;> rfl
theorem aBin_mul : aBin T E .mul ty (.int k a) (.int k b) = some (.int k (wrapA k (a * b))) := by cases k <;> rfl
theorem aBin_and : aBin T E .and ty (.int k a) (.int k b) = some (.int k (wrapA k (.ofNat (Nat.land (natOf k a) (natOf k b))))) := by cases k <;> rfl
theorem aBin_or : aBin T E .or ty (.int k a) (.int k b) = some (.int k (wrapA k (.ofNat (Nat.lor (natOf k a) (natOf k b))))) := by cases k <;> rfl
theorem aBin_xor : aBin T E .xor ty (.int k a) (.int k b) = some (.int k (wrapA k (.ofNat (Nat.xor (natOf k a) (natOf k b))))) := by cases k <;> rfl
theorem aBin_andNot : aBin T E .andNot ty (.int k a) (.int k b) = some (.int k (wrapA k (.ofNat (Nat.land (natOf k a) (Nat.xor (natOf k b) (modA k - 1)))))) := by cases k <;> rfl
theorem aBin_quo : aBin T E .quo ty (.int k a) (.int k b) = if b = 0 then none else some (.int k (wrapA k (a.tdiv b))) := by
  have : aBin T E .quo ty (.int k a) (.int k b) = boolC (some (.int k (wrapA k (a.tdiv b)))) none (eqI b 0) := by cases k <;> rfl
  rw [this, eqI_eq]; by_cases h : b = 0 <;> simp [h, boolC]
theorem aBin_rem : aBin T E .rem ty (.int k a) (.int k b) = if b = 0 then none else some (.int k (a.tmod b)) := by
  have : aBin T E .rem ty (.int k a) (.int k b) = boolC (some (.int k (a.tmod b))) none (eqI b 0) := by cases k <;> rfl
  rw [this, eqI_eq]; by_cases h : b = 0 <;> simp [h, boolC]
theorem aBin_eql : aBin T E .eql ty (.int k a) (.int k b) = some (.bool (decide (a = b))) := by rw [← eqI_eq]; cases k <;> rfl
theorem not_boolC (b : Bool) : boolC true false b = !b := by cases b <;> rfl
theorem aBin_neq : aBin T E .neq ty (.int k a) (.int k b) = some (.bool (!decide (a = b))) := by rw [← eqI_eq, ← not_boolC]; cases k <;> rfl
theorem aBin_lss : aBin T E .lss ty (.int k a) (.int k b) = some (.bool (decide (a < b))) := by
  have : aBin T E .lss ty (.int k a) (.int k b) = some (.bool (boolC true false (leI b a))) := by cases k <;> rfl
  rw [this, not_boolC, leI_eq]; congr 2; by_cases h : b ≤ a
  · simp [h, show ¬ a < b by omega]
  · simp [h, show a < b by omega]
theorem aBin_leq : aBin T E .leq ty (.int k a) (.int k b) = some (.bool (decide (a ≤ b))) := by rw [← leI_eq]; cases k <;> rfl
theorem aBin_gtr : aBin T E .gtr ty (.int k a) (.int k b) = some (.bool (decide (b < a))) := by
  have : aBin T E .gtr ty (.int k a) (.int k b) = some (.bool (boolC true false (leI a b))) := by cases k <;> rfl
  rw [this, not_boolC, leI_eq]; congr 2; by_cases h : a ≤ b
  · simp [h, show ¬ b < a by omega]
  · simp [h, show b < a by omega]
theorem aBin_geq : aBin T E .geq ty (.int k a) (.int k b) = some (.bool (decide (b ≤ a))) := by rw [← leI_eq]; cases k <;> rfl
theorem aBin_shl (k' : IntKind) (b : Nat) : aBin T E .shl ty (.int k a) (.int k' (b : Int)) = some (.int k (wrapA k (a * ((2 ^ min b (bitsA k) : Nat) : Int)))) := by rw [← minN_eq]; cases k <;> rfl
theorem aBin_shr (k' : IntKind) (a b : Nat) : aBin T E .shr ty (.int k (a : Int)) (.int k' (b : Int)) = some (.int k ((a / 2 ^ min b (bitsA k) : Nat) : Int)) := by rw [← minN_eq]; cases k <;> rfl

theorem aBin_shrI (k' : IntKind) (a : Int) (b : Nat) : aBin T E .shr ty (.int k a) (.int k' (b : Int)) = some (.int k (a / ((2 ^ min b (bitsA k) : Nat) : Int))) := by
  cases a with
  | ofNat a => exact aBin_shr T E ty k k' a b
  | negSucc a =>
    have : aBin T E .shr ty (.int k (.negSucc a)) (.int k' (b : Int)) = some (.int k ((Int.negSucc a).fdiv ((2 ^ minN b (bitsA k) : Nat) : Int))) := by cases k <;> rfl
    rw [this, minN_eq, Int.fdiv_eq_ediv_of_nonneg _ (Int.natCast_nonneg _)]
theorem aUn_neg : aUn .neg (.int k a) = some (.int k (wrapA k (0 - a))) := rfl
theorem aUn_not (p : Bool) : aUn .not (.bool p) = some (.bool (!p)) := by rw [← not_boolC]; rfl
theorem aUn_xor : aUn .xor (.int k a) = some (.int k (wrapA k (.ofNat (Nat.xor (natOf k a) (modA k - 1))))) := rfl
end nums

section strs
variable (T : TT) (E : List TypeId) (ty : TypeId) (a b : List UInt8)
theorem aBin_addS : aBin T E .add ty (.str a) (.str b) = if a.length + b.length ≤ 9223372036854775807 then some (.str (a ++ b)) else none := by
  have : aBin T E .add ty (.str a) (.str b) = boolC none (some (.str (lapp a b))) (Nat.ble (llen a + llen b) 9223372036854775807) := rfl
  rw [this, nble, llen_eq, llen_eq, lapp_eq, boolC_eq]; simp only [Bool.cond_decide]
theorem aBin_eqlS : aBin T E .eql ty (.str a) (.str b) = some (.bool (decide (a = b))) := by rw [← eqB_eq]; rfl
theorem aBin_neqS : aBin T E .neq ty (.str a) (.str b) = some (.bool (!decide (a = b))) := by rw [← eqB_eq, ← not_boolC]; rfl
end strs

theorem aBin_eqlB {T : TT} {E : List TypeId} {ty : TypeId} {i : TyI} (h : T ty = some i) (hd : i.desc = .bool) (a b : Bool) : aBin T E .eql ty (.bool a) (.bool b) = some (.bool (decide (a = b))) := by
  show aBin2 T E .eql ty (.bool a) (.bool b) = _
  unfold aBin2 aEq
  rw [h]
  simp only [hd, eqBool_eq]
theorem aBin_neqB {T : TT} {E : List TypeId} {ty : TypeId} {i : TyI} (h : T ty = some i) (hd : i.desc = .bool) (a b : Bool) : aBin T E .neq ty (.bool a) (.bool b) = some (.bool (!decide (a = b))) := by
  show aBin2 T E .neq ty (.bool a) (.bool b) = _
  unfold aBin2 aEq
  rw [h]
  simp only [hd, eqBool_eq, not_boolC]

/-! ### memory -/
def ld1 (c : Option (List AV)) (off : Nat) : Option AV := match c with
  | some vs => vs[off]?
  | none => none
theorem ld1_some (vs : List AV) (off : Nat) : ld1 (some vs) off = vs[off]? := rfl
theorem load1_ld1 (σ : St) (id off : Nat) : load1 σ id off = ld1 (cellsOf σ id) off := by
  unfold load1 ld1
  split
  · rename_i vs hv
    rw [hv, ldrop_eq]
    simp only
    cases h : vs.drop off with
    | nil =>
      have := congrArg List.length h
      rw [List.length_drop, List.length_nil] at this
      rw [List.getElem?_eq_none (by omega)]
    | cons v l =>
      have : (vs.drop off)[0]? = some v := by rw [h]; rfl
      rw [List.getElem?_drop, Nat.add_zero] at this
      exact this.symm
  · rename_i hn
    rw [hn]
def ldN (c : Option (List AV)) (off n : Nat) : Option (List AV) := match c with
  | some vs => if n ≤ vs.length - off then some ((vs.drop off).take n) else none
  | none => none
theorem ldN_some (vs : List AV) (off n : Nat) : ldN (some vs) off n = if n ≤ vs.length - off then some ((vs.drop off).take n) else none := rfl
theorem loadN_ldN (σ : St) (id off n : Nat) : loadN σ id off n = ldN (cellsOf σ id) off n := by
  unfold loadN ldN
  cases cellsOf σ id with
  | none => rfl
  | some vs => simp only [takeK_eq, ldrop_eq, List.length_drop]
def aggO (x : Option (List AV)) : Option AV := match x with
  | some l => some (.agg l)
  | none => none
theorem aggO_some (l : List AV) : aggO (some l) = some (.agg l) := rfl

theorem aLoad_one {T : TT} {t : TypeId} {i : TyI} (h : T t = some i) (ha : i.agg = false) (σ : St) (id off : Nat) : aLoad T σ t (.ptr id off) = ld1 (cellsOf σ id) off := by
  rw [← load1_ld1]
  show (match T t with | some i => _ | none => none) = _
  rw [h]; simp only [ha, boolC_false]
theorem aLoad_agg {T : TT} {t : TypeId} {i : TyI} (h : T t = some i) (ha : i.agg = true) {n : Nat} (hn : i.size = n) (σ : St) (id off : Nat) : aLoad T σ t (.ptr id off) = aggO (ldN (cellsOf σ id) off n) := by
  rw [← loadN_ldN]
  show (match T t with | some i => _ | none => none) = _
  rw [h]; simp only [ha, boolC_true, hn]; rfl

/-- Cells written into an object that is known. -/
def stN (o : Option AObj) (σ : St) (id off : Nat) (l : List AV) : Option St := match o with
  | some (.cells vs fz false) => if fz ≤ off then (if off + l.length ≤ vs.length then some (σ.set id (.cells (splice vs off l) fz false)) else none) else none
  | _ => none
theorem stN_some (vs : List AV) (fz : Nat) (σ : St) (id off : Nat) (l : List AV) :
    stN (some (.cells vs fz false)) σ id off l = if fz ≤ off then (if off + l.length ≤ vs.length then some (σ.set id (.cells (splice vs off l) fz false)) else none) else none := rfl
theorem storeN_stN (σ : St) (id off : Nat) (l : List AV) : storeN σ id off l = stN (σ.get id) σ id off l := by
  unfold storeN stN
  cases σ.get id with
  | none => rfl
  | some o => cases o with
    | cells vs fz ro => cases ro with
      | true => rfl
      | false =>
        simp only [nble, spliceK_eq, St.setK_eq, boolC_eq, Bool.cond_decide]
    | _ => rfl
theorem splice_S (x : AV) (l new : List AV) (n : Nat) : splice (x :: l) (n + 1) new = x :: splice l n new := by
  unfold splice
  rw [List.take_succ_cons, show n + 1 + new.length = (n + new.length) + 1 by omega, List.drop_succ_cons]; rfl
theorem splice_0 (x y : AV) (l new : List AV) : splice (x :: l) 0 (y :: new) = y :: splice l 0 new := by
  unfold splice
  simp only [List.take_zero, List.nil_append, List.length_cons, Nat.zero_add, List.drop_succ_cons, List.cons_append]
theorem splice_nil (l : List AV) : splice l 0 [] = l := by simp [splice]

theorem one_int (k : IntKind) (n : Int) : (AV.int k n).one = true := rfl
theorem one_bool (b : Bool) : (AV.bool b).one = true := rfl
theorem one_str (s : List UInt8) : (AV.str s).one = true := rfl
theorem one_nilPtr : AV.nilPtr.one = true := rfl
theorem one_ptr (i o : Nat) : (AV.ptr i o).one = true := rfl
theorem one_nilSlice : AV.nilSlice.one = true := rfl
theorem one_slice (i o l c e : Nat) : (AV.slice i o l c e).one = true := rfl
theorem one_nilMap : AV.nilMap.one = true := rfl
theorem one_map (i : Nat) : (AV.map i).one = true := rfl
theorem one_nilFunc : AV.nilFunc.one = true := rfl
theorem one_fn (f : FuncId) (a b : List AV) : (AV.fn f a b).one = true := rfl
theorem one_yield (i : Nat) : (AV.yield i).one = true := rfl
theorem one_nilIface : AV.nilIface.one = true := rfl

theorem one_cells {v : AV} (h : v.one = true) : v.cells = [v] := by cases v <;> first | rfl | cases h
theorem aStore_one {T : TT} {t : TypeId} {i : TyI} (h : T t = some i) (hs : i.size = 1) (σ : St) (id off : Nat) {v : AV} (h1 : v.one = true) : aStore T σ t (.ptr id off) v = stN (σ.get id) σ id off [v] := by
  rw [← storeN_stN]
  have e : aStore T σ t (.ptr id off) v = match T t with
      | some i => boolC none (storeN σ id off v.cells) (Nat.beq (llen v.cells) i.size)
      | none => none := by cases v <;> first | rfl | cases h1
  rw [e, h, one_cells h1]; simp only [hs]; rfl
theorem aStore_agg {T : TT} {t : TypeId} {i : TyI} (h : T t = some i) {n : Nat} (hs : i.size = n) (σ : St) (id off : Nat) (cs : List AV) :
    aStore T σ t (.ptr id off) (.agg cs) = if cs.length = n then stN (σ.get id) σ id off cs else none := by
  rw [← storeN_stN]
  show (match T t with | some i => boolC none (storeN σ id off cs) (Nat.beq (llen cs) i.size) | none => none) = _
  rw [h]; simp only [hs, nbeq, llen_eq, boolC_eq, Bool.cond_decide]

theorem oNew_one {v : AV} (h : v.one = true) (σ : St) : oNew σ v = some (.ptr σ.next 0, σ.push (.cells [v] 0 false)) := by
  have : oNew σ v = aNew σ v.cells := by cases v <;> first | rfl | cases h
  rw [this, one_cells h]; unfold aNew; rw [St.pushK_eq]
theorem oNew_agg (cs : List AV) (σ : St) : oNew σ (.agg cs) = some (.ptr σ.next 0, σ.push (.cells cs 0 false)) := by
  show aNew σ cs = _
  unfold aNew; rw [St.pushK_eq]
theorem oAlloc_of {T : TT} {t : TypeId} {i : TyI} {z : AV} (h : T t = some i) (hz : i.zero = some z) (σ : St) : oAlloc T σ t = oNew σ z := by
  unfold oAlloc; rw [h]; simp only [hz]
theorem newMap_eq (σ : St) : newMap σ = some (.map σ.next, σ.push (.map [] 0)) := by unfold newMap; rw [St.pushK_eq]

theorem oNilCheck_ptr (σ : St) (i o : Nat) : oNilCheck σ (.ptr i o) = some (.ptr i o, σ) := rfl
theorem oNilCheck_fn (σ : St) (f : FuncId) (a b : List AV) : oNilCheck σ (.fn f a b) = some (.fn f a b, σ) := rfl
theorem oNilCheck_yield (σ : St) (l : Nat) : oNilCheck σ (.yield l) = some (.yield l, σ) := rfl
theorem oExtract_eq (σ : St) (vs : List AV) (i : Nat) : oExtract σ (.tuple vs) i = match vs[i]? with
    | some v => some (v, σ)
    | none => none := by
  show (match ldrop vs i with | v :: _ => some (v, σ) | [] => none) = _
  rw [ldrop_eq]
  cases h : vs.drop i with
  | nil =>
    have := congrArg List.length h
    rw [List.length_drop, List.length_nil] at this
    rw [List.getElem?_eq_none (by omega)]
  | cons v l =>
    have : (vs.drop i)[0]? = some v := by rw [h]; rfl
    rw [List.getElem?_drop, Nat.add_zero] at this
    rw [this]

/-! ### fields -/
theorem aFieldAddr_of {T : TT} {s : TypeId} {f : Nat} {fd : Field} {i : TyI} {n m : Nat} (h : fieldOf T s f = some fd) (hi : T fd.type = some i) (hn : i.size = n + 1) (hm : fd.offset = m) (id off : Nat) :
    aFieldAddr T s (.ptr id off) f = some (.ptr id (off + m)) := by
  show (match fieldOf T s f with | some fd => _ | none => none) = _
  rw [h]; simp only [hi, hn, hm]; rfl
theorem aField_one {T : TT} {s : TypeId} {f : Nat} {fd : Field} {i : TyI} {m : Nat} (h : fieldOf T s f = some fd) (hi : T fd.type = some i) (ha : i.agg = false) (hm : fd.offset = m) (cs : List AV) :
    aField T s (.agg cs) f = cs[m]? := by
  show (match fieldOf T s f with | some fd => _ | none => none) = _
  rw [h]; simp only [hi, hm, aPart, ha, boolC_false, ldrop_eq]
  cases h : cs.drop m with
  | nil =>
    have := congrArg List.length h
    rw [List.length_drop, List.length_nil] at this
    rw [List.getElem?_eq_none (by omega)]
  | cons v l =>
    have : (cs.drop m)[0]? = some v := by rw [h]; rfl
    rw [List.getElem?_drop, Nat.add_zero] at this
    rw [this]
theorem aField_agg {T : TT} {s : TypeId} {f : Nat} {fd : Field} {i : TyI} {m n : Nat} (h : fieldOf T s f = some fd) (hi : T fd.type = some i) (ha : i.agg = true) (hm : fd.offset = m) (hn : i.size = n) (cs : List AV) :
    aField T s (.agg cs) f = aggO (ldN (some cs) m n) := by
  show (match fieldOf T s f with | some fd => _ | none => none) = _
  rw [h]; simp only [hi, hm, aPart, ha, boolC_true, ldrop_eq, takeK_eq, ldN_some, hn, List.length_drop]
  by_cases h : n ≤ cs.length - m
  · simp only [if_pos h, aggO_some]
  · simp only [if_neg h]; rfl

/-! ### building -/
theorem aBuild_struct {T : TT} {t : TypeId} {i : TyI} {z : AV} {fs : Array Field} (h : T t = some i) (hz : i.zero = some z) (hd : i.desc = .struct fs) (hk : knownFields T fs.toList = true) (ps : List (Nat × AV)) :
    aBuild T t ps = aggO (aFill (placeOf T fs.toList) ps z.cells) := by
  unfold aBuild
  rw [h]; simp only [hz, hd, hk, boolC_true]; rfl
theorem aFill_nil (place : Nat → Option (Nat × Nat)) (cs : List AV) : aFill place [] cs = some cs := rfl
/-- One part laid. -/
theorem aFill_one {place : Nat → Option (Nat × Nat)} {i off : Nat} (hp : place i = some (off, 1)) {v : AV} (h : v.one = true) (l : List (Nat × AV)) (cs : List AV) :
    aFill place ((i, v) :: l) cs = if off + 1 ≤ cs.length then aFill place l (splice cs off [v]) else none := by
  rw [aFill_cons]
  simp only [hp]
  cases v <;> first
    | (cases h; done)
    | (show boolC none (spliceK none [_] cs off (aFill place l)) (Nat.beq (llen [_]) 1) = _; rw [spliceK_eq]; rfl)
theorem aFill_agg {place : Nat → Option (Nat × Nat)} {i off n : Nat} (hp : place i = some (off, n)) (vs : List AV) (l : List (Nat × AV)) (cs : List AV) :
    aFill place ((i, .agg vs) :: l) cs = if vs.length = n then (if off + vs.length ≤ cs.length then aFill place l (splice cs off vs) else none) else none := by
  rw [aFill_cons]
  simp only [hp]
  show boolC none (spliceK none vs cs off (aFill place l)) (Nat.beq (llen vs) n) = _
  rw [spliceK_eq, nbeq, llen_eq, boolC_eq, Bool.cond_decide]

/-! ### slices -/
/-- How many elements a slice has. -/
def slen : AV → Nat
  | .slice _ _ len _ _ => len
  | _ => 0
def isSl : AV → Bool
  | .slice _ _ _ _ _ => true
  | .nilSlice => true
  | _ => false
theorem isSl_one {v : AV} (h : isSl v = true) : v.one = true := by cases v <;> first | rfl | cases h
theorem slen_slice (i o l c e : Nat) : slen (.slice i o l c e) = l := rfl
theorem slen_nil : slen .nilSlice = 0 := rfl
theorem isSl_slice (i o l c e : Nat) : isSl (.slice i o l c e) = true := rfl
theorem isSl_nil : isSl .nilSlice = true := rfl

theorem aLen_sl {T : TT} {t e : TypeId} {i : TyI} (h : T t = some i) (hd : i.desc = .slice e) (σ : St) {v : AV} (hv : isSl v = true) : aBuiltin T σ .len #[t] [v] = some (.int .i64 (slen v), σ) := by
  show withSt σ (aLen T σ #[t] v) = _
  unfold aLen
  have : argType T #[t] 0 = some i := h
  rw [this]; simp only [hd]
  cases v <;> first | rfl | cases hv
theorem aLen_str {T : TT} {t : TypeId} {i : TyI} (h : T t = some i) (hd : i.desc = .string) (σ : St) (s : List UInt8) : aBuiltin T σ .len #[t] [.str s] = some (.int .i64 s.length, σ) := by
  show withSt σ (aLen T σ #[t] (.str s)) = _
  unfold aLen
  have : argType T #[t] 0 = some i := h
  rw [this]; simp only [hd, llen_eq]; rfl

theorem aIndexAddr_sl {T : TT} {t e : TypeId} {i j : TyI} {n : Nat} (h : T t = some i) (hd : i.desc = .slice e) (hj : T e = some j) (hn : j.size = n) (id off len cap esz : Nat) (k : IntKind) (m : Nat) :
    aIndexAddr T t (.slice id off len cap esz) (.int k (m : Int)) = if m < len then some (.ptr id (off + m * n)) else none := by
  unfold aIndexAddr
  rw [h]; simp only [hd, hj, hn]
  show (match boolC none (some m) (Nat.blt m len) with | some m => _ | none => none) = _
  rw [nblt, boolC_eq, Bool.cond_decide]
  by_cases hm : m < len
  · simp only [if_pos hm]
  · simp only [if_neg hm]
theorem aIndex_str {T : TT} {t : TypeId} {i : TyI} (h : T t = some i) (hd : i.desc = .string) (s : List UInt8) (k : IntKind) (m : Nat) :
    aIndex T t (.str s) (.int k (m : Int)) = match s[m]? with
      | some b => some (.int .u8 b.toNat)
      | none => none := by
  unfold aIndex
  rw [h]; simp only [hd]
  show (match ldrop s m with | b :: _ => _ | [] => none) = _
  rw [ldrop_eq]
  cases h : s.drop m with
  | nil =>
    have := congrArg List.length h
    rw [List.length_drop, List.length_nil] at this
    rw [List.getElem?_eq_none (by omega)]
  | cons v l =>
    have : (s.drop m)[0]? = some v := by rw [h]; rfl
    rw [List.getElem?_drop, Nat.add_zero] at this
    rw [this]

/-- THE SLICE v READS AS THESE ELEMENTS, each of so many cells. -/
def SlR (σ : St) (v : AV) (esz : Nat) (xs : List (List AV)) : Prop :=
  (∀ x ∈ xs, x.length = esz) ∧ match v with
  | .nilSlice => xs = []
  | .slice id off len cap e => e = esz ∧ len = xs.length ∧ len ≤ cap ∧ (xs = [] ∨ ∃ vs, cellsOf σ id = some vs ∧ off + len * esz ≤ vs.length ∧ (vs.drop off).take (len * esz) = xs.flatten)
  | _ => False

theorem SlR.isSl {σ : St} {v : AV} {esz : Nat} {xs : List (List AV)} (h : SlR σ v esz xs) : isSl v = true := by
  obtain ⟨_, h⟩ := h
  cases v <;> first | rfl | (cases h; done)
theorem SlR.one {σ : St} {v : AV} {esz : Nat} {xs : List (List AV)} (h : SlR σ v esz xs) : v.one = true := isSl_one h.isSl
theorem SlR.slen {σ : St} {v : AV} {esz : Nat} {xs : List (List AV)} (h : SlR σ v esz xs) : slen v = xs.length := by
  obtain ⟨_, h⟩ := h
  cases v with
  | nilSlice => subst h; rfl
  | slice id off len cap e => exact h.2.1
  | _ => cases h
theorem SlR.nil (σ : St) (esz : Nat) : SlR σ .nilSlice esz [] := ⟨by simp, rfl⟩

theorem flatten_drop {α : Type} (e : Nat) : ∀ (xs : List (List α)) (i : Nat), (∀ x ∈ xs, x.length = e) → xs.flatten.drop (i * e) = (xs.drop i).flatten
  | [], i, h => by simp
  | x :: xs, 0, h => by simp
  | x :: xs, i + 1, h => by
    rw [List.flatten_cons, List.drop_succ_cons, Nat.succ_mul, Nat.add_comm, ← List.drop_drop, List.drop_left' (h x (by simp))]
    exact flatten_drop e xs i fun y hy => h y (by simp [hy])
theorem flatten_len {α : Type} (e : Nat) : ∀ (xs : List (List α)), (∀ x ∈ xs, x.length = e) → xs.flatten.length = xs.length * e
  | [], h => by simp
  | x :: xs, h => by
    rw [List.flatten_cons, List.length_append, List.length_cons, Nat.succ_mul, flatten_len e xs fun y hy => h y (by simp [hy]), h x (by simp), Nat.add_comm]
theorem flatten_take {α : Type} (e : Nat) : ∀ (xs : List (List α)) (i : Nat), (∀ x ∈ xs, x.length = e) → xs.flatten.take (i * e) = (xs.take i).flatten
  | [], i, h => by simp
  | x :: xs, 0, h => by simp
  | x :: xs, i + 1, h => by
    rw [List.take_succ_cons, List.flatten_cons, List.flatten_cons, Nat.succ_mul, Nat.add_comm, List.take_append, h x (by simp), List.take_of_length_le (by rw [h x (by simp)]; omega)]
    congr 1
    rw [Nat.add_sub_cancel_left]
    exact flatten_take e xs i fun y hy => h y (by simp [hy])

/-- An element that is there: the slice is one, and the element's cells. -/
theorem SlR.get {σ : St} {v : AV} {esz : Nat} {xs : List (List AV)} (h : SlR σ v esz xs) {i : Nat} {x : List AV} (hx : xs[i]? = some x) :
    ∃ id off cap, v = .slice id off xs.length cap esz ∧ ∃ vs, cellsOf σ id = some vs ∧ off + xs.length * esz ≤ vs.length ∧ (vs.drop (off + i * esz)).take esz = x ∧ x.length = esz := by
  obtain ⟨hl, h⟩ := h
  have hi := (List.getElem?_eq_some_iff.1 hx).1
  cases v with
  | nilSlice => subst h; simp at hx
  | slice id off len cap e =>
    obtain ⟨rfl, rfl, hc, h⟩ := h
    rcases h with rfl | ⟨vs, hv, hb, hf⟩
    · simp at hx
    refine ⟨id, off, cap, rfl, vs, hv, hb, ?_, hl _ (List.mem_of_getElem? hx)⟩
    have h1 : (List.drop (i * e) ((vs.drop off).take (xs.length * e))).take e = (List.drop (i * e) xs.flatten).take e := by rw [hf]
    rw [flatten_drop e xs i hl, List.drop_take, List.drop_drop, List.take_take] at h1
    have : i * e + e ≤ xs.length * e := by rw [← Nat.succ_mul]; exact Nat.mul_le_mul_right _ hi
    rw [Nat.min_eq_left (by omega)] at h1
    rw [h1, List.drop_eq_getElem_cons hi, List.flatten_cons]
    have hxe : xs[i] = x := by
      have := List.getElem?_eq_getElem hi
      rw [hx] at this; exact (Option.some.inj this).symm
    rw [hxe, List.take_left' (hl _ (List.mem_of_getElem? hx))]
  | _ => cases h

/-! ### Tables -/
def tyOf (T : TT) (t : TypeId) : TyI := match T t with
  | some i => i
  | none => { desc := .bool, size := 0, bytes := 0, zero := none, agg := false, kill := false }
def fdOf (T : TT) (t : TypeId) (f : Nat) : Field := match fieldOf T t f with
  | some f => f
  | none => default
def zrOf (T : TT) (t : TypeId) : AV := match (tyOf T t).zero with
  | some z => z
  | none => .undef

def bodyOf (f : Func) : Code := match f.body with
  | some c => c
  | none => .skip
def hasBody (f : Func) : Bool := match f.body with
  | some _ => true
  | none => false
theorem W_entry (C : Cfg) {f : FuncId} {fn : Func} {n : Nat} {args : List AV} {η : Env} (hS : C.S f = none) (hF : C.F f = some fn) (hb : hasBody fn = true) (hn : fn.ntmps = n) (he : enum 0 args = η) (hl : Nat.ble args.length n = true) (σ : St) :
    (W C).f f args σ = run C (bodyOf fn) ⟨mat n η, [], false⟩ (leaveK C fn) σ := by
  subst hn he
  cases hbb : fn.body with
  | none => unfold hasBody at hb; rw [hbb] at hb; cases hb
  | some c =>
    have : bodyOf fn = c := by unfold bodyOf; rw [hbb]
    rw [this]
    exact W_run C hS hF hbb (Nat.le_of_ble_eq_true hl) σ

end
end Go.Abs
