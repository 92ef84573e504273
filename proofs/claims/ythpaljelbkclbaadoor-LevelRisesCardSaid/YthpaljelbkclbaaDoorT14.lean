/-
  Part of a proof: see the last text of this claim.
-/
import Derived.Test.YthpaljelbkclbaaDoorAbsEnd
import Derived.KernelRfl
import Derived.Test.YthpaljelbkclbaaDoorProg
open Go Go.Abs Go.Proofs
set_option linter.unusedSimpArgs false
set_option linter.unusedVariables false
set_option linter.unusedVariables false
namespace R14
noncomputable section
def sumIndexByte : Sum1 := fun args σ => match args with
  | [.str s, .int .u8 c] => some (.int .i64 (idx (fun b => decide (b = c.toNat.toUInt8)) s), σ)
  | _ => none
/-- strings.Join -/
def sumJoin : Sum1 := fun args σ => match args with
  | [.slice id off len _ 1, .str sep] => match loadN σ id off len with
    | some l => match strsOf l with
      | some xs => bif Nat.ble len 1000000 && Nat.ble (Lib.join xs sep).length 1000000 then some (.str (Lib.join xs sep), σ) else none
      | none => none
    | none => none
  | _ => none
def sums (f : FuncId) : Option Sum1 := if Nat.beq f 100 then some sumIndexByte else if Nat.beq f 29 then some sumJoin else none
def TB : BT (Option TyI) := typesOf Tryd.prog.types.toList
def FB : BT Func := BT.ofList 20 Tryd.prog.funcs.toList
def cfg : Cfg := { P := Tryd.prog, T := killT [3] fun t => bjoin (TB.get t), F := FB.get, E := [], S := sums }
theorem T_3 : cfg.T 3 = some (tyOf cfg.T 3) := by kernel_rfl  -- int
theorem T_4 : cfg.T 4 = some (tyOf cfg.T 4) := by kernel_rfl  -- bool
theorem T_5 : cfg.T 5 = some (tyOf cfg.T 5) := by kernel_rfl  -- uint8
theorem T_9 : cfg.T 9 = some (tyOf cfg.T 9) := by kernel_rfl  -- string
theorem T_23 : cfg.T 23 = some (tyOf cfg.T 23) := by kernel_rfl  -- []int
theorem T_25 : cfg.T 25 = some (tyOf cfg.T 25) := by kernel_rfl  -- level.Config
theorem T_29 : cfg.T 29 = some (tyOf cfg.T 29) := by kernel_rfl  -- uint64
theorem T_31 : cfg.T 31 = some (tyOf cfg.T 31) := by kernel_rfl  -- api.Entry
theorem T_56 : cfg.T 56 = some (tyOf cfg.T 56) := by kernel_rfl  -- []string
theorem T_68 : cfg.T 68 = some (tyOf cfg.T 68) := by kernel_rfl  -- entry.field
theorem T_75 : cfg.T 75 = some (tyOf cfg.T 75) := by kernel_rfl  -- *strings.Builder
theorem T_76 : cfg.T 76 = some (tyOf cfg.T 76) := by kernel_rfl  -- []uint8
theorem T_78 : cfg.T 78 = some (tyOf cfg.T 78) := by kernel_rfl  -- strings.Builder
theorem T_94 : cfg.T 94 = some (tyOf cfg.T 94) := by kernel_rfl  -- []entry.field
theorem T_114 : cfg.T 114 = some (tyOf cfg.T 114) := by kernel_rfl  -- [24]uint8
theorem T_121 : cfg.T 121 = some (tyOf cfg.T 121) := by kernel_rfl  -- slices.xorshift
theorem T_129 : cfg.T 129 = some (tyOf cfg.T 129) := by kernel_rfl  -- [20]uint64
theorem T_130 : cfg.T 130 = some (tyOf cfg.T 130) := by kernel_rfl  -- [65]uint8
theorem T_136 : cfg.T 136 = some (tyOf cfg.T 136) := by kernel_rfl  -- [32]uint8
theorem T_137 : cfg.T 137 = some (tyOf cfg.T 137) := by kernel_rfl  -- [64]uint8
theorem ld_3 (σ : St) (i o : Nat) : aLoad cfg.T σ 3 (.ptr i o) = load1 σ i o := by kernel_rfl
theorem ld_4 (σ : St) (i o : Nat) : aLoad cfg.T σ 4 (.ptr i o) = load1 σ i o := by kernel_rfl
theorem ld_5 (σ : St) (i o : Nat) : aLoad cfg.T σ 5 (.ptr i o) = load1 σ i o := by kernel_rfl
theorem ld_9 (σ : St) (i o : Nat) : aLoad cfg.T σ 9 (.ptr i o) = load1 σ i o := by kernel_rfl
theorem ld_23 (σ : St) (i o : Nat) : aLoad cfg.T σ 23 (.ptr i o) = load1 σ i o := by kernel_rfl
theorem ld_25 (σ : St) (i o : Nat) : aLoad cfg.T σ 25 (.ptr i o) = aggO (loadN σ i o 4) := by kernel_rfl
theorem ld_29 (σ : St) (i o : Nat) : aLoad cfg.T σ 29 (.ptr i o) = load1 σ i o := by kernel_rfl
theorem ld_31 (σ : St) (i o : Nat) : aLoad cfg.T σ 31 (.ptr i o) = aggO (loadN σ i o 11) := by kernel_rfl
theorem ld_68 (σ : St) (i o : Nat) : aLoad cfg.T σ 68 (.ptr i o) = aggO (loadN σ i o 3) := by kernel_rfl
theorem ld_75 (σ : St) (i o : Nat) : aLoad cfg.T σ 75 (.ptr i o) = load1 σ i o := by kernel_rfl
theorem ld_76 (σ : St) (i o : Nat) : aLoad cfg.T σ 76 (.ptr i o) = load1 σ i o := by kernel_rfl
theorem ld_121 (σ : St) (i o : Nat) : aLoad cfg.T σ 121 (.ptr i o) = load1 σ i o := by kernel_rfl
theorem st_3 (σ : St) (i o : Nat) {v : AV} (h : v.one = true) : aStore cfg.T σ 3 (.ptr i o) v = stN (σ.get i) σ i o [v] := aStore_one T_3 (by kernel_rfl) σ i o h
theorem st_4 (σ : St) (i o : Nat) {v : AV} (h : v.one = true) : aStore cfg.T σ 4 (.ptr i o) v = stN (σ.get i) σ i o [v] := aStore_one T_4 (by kernel_rfl) σ i o h
theorem st_5 (σ : St) (i o : Nat) {v : AV} (h : v.one = true) : aStore cfg.T σ 5 (.ptr i o) v = stN (σ.get i) σ i o [v] := aStore_one T_5 (by kernel_rfl) σ i o h
theorem st_23 (σ : St) (i o : Nat) {v : AV} (h : v.one = true) : aStore cfg.T σ 23 (.ptr i o) v = stN (σ.get i) σ i o [v] := aStore_one T_23 (by kernel_rfl) σ i o h
theorem st_25 (σ : St) (i o : Nat) (cs : List AV) : aStore cfg.T σ 25 (.ptr i o) (.agg cs) = if cs.length = 4 then stN (σ.get i) σ i o cs else none := aStore_agg T_25 (by kernel_rfl) σ i o cs
theorem st_31 (σ : St) (i o : Nat) (cs : List AV) : aStore cfg.T σ 31 (.ptr i o) (.agg cs) = if cs.length = 11 then stN (σ.get i) σ i o cs else none := aStore_agg T_31 (by kernel_rfl) σ i o cs
theorem st_75 (σ : St) (i o : Nat) {v : AV} (h : v.one = true) : aStore cfg.T σ 75 (.ptr i o) v = stN (σ.get i) σ i o [v] := aStore_one T_75 (by kernel_rfl) σ i o h
theorem st_76 (σ : St) (i o : Nat) {v : AV} (h : v.one = true) : aStore cfg.T σ 76 (.ptr i o) v = stN (σ.get i) σ i o [v] := aStore_one T_76 (by kernel_rfl) σ i o h
theorem st_121 (σ : St) (i o : Nat) {v : AV} (h : v.one = true) : aStore cfg.T σ 121 (.ptr i o) v = stN (σ.get i) σ i o [v] := aStore_one T_121 (by kernel_rfl) σ i o h
theorem st_129 (σ : St) (i o : Nat) (cs : List AV) : aStore cfg.T σ 129 (.ptr i o) (.agg cs) = if cs.length = 20 then stN (σ.get i) σ i o cs else none := aStore_agg T_129 (by kernel_rfl) σ i o cs
theorem st_136 (σ : St) (i o : Nat) (cs : List AV) : aStore cfg.T σ 136 (.ptr i o) (.agg cs) = if cs.length = 32 then stN (σ.get i) σ i o cs else none := aStore_agg T_136 (by kernel_rfl) σ i o cs
theorem st_137 (σ : St) (i o : Nat) (cs : List AV) : aStore cfg.T σ 137 (.ptr i o) (.agg cs) = if cs.length = 64 then stN (σ.get i) σ i o cs else none := aStore_agg T_137 (by kernel_rfl) σ i o cs
theorem fa_25_0 (i o : Nat) : aFieldAddr cfg.T 25 (.ptr i o) 0 = some (.ptr i (o + 0)) := by kernel_rfl
theorem fa_25_1 (i o : Nat) : aFieldAddr cfg.T 25 (.ptr i o) 1 = some (.ptr i (o + 1)) := by kernel_rfl
theorem fa_25_2 (i o : Nat) : aFieldAddr cfg.T 25 (.ptr i o) 2 = some (.ptr i (o + 2)) := by kernel_rfl
theorem fa_25_3 (i o : Nat) : aFieldAddr cfg.T 25 (.ptr i o) 3 = some (.ptr i (o + 3)) := by kernel_rfl
theorem fa_31_0 (i o : Nat) : aFieldAddr cfg.T 31 (.ptr i o) 0 = some (.ptr i (o + 0)) := by kernel_rfl
theorem fa_31_1 (i o : Nat) : aFieldAddr cfg.T 31 (.ptr i o) 1 = some (.ptr i (o + 1)) := by kernel_rfl
theorem fa_31_2 (i o : Nat) : aFieldAddr cfg.T 31 (.ptr i o) 2 = some (.ptr i (o + 2)) := by kernel_rfl
theorem fa_31_3 (i o : Nat) : aFieldAddr cfg.T 31 (.ptr i o) 3 = some (.ptr i (o + 3)) := by kernel_rfl
theorem fa_31_4 (i o : Nat) : aFieldAddr cfg.T 31 (.ptr i o) 4 = some (.ptr i (o + 4)) := by kernel_rfl
theorem fa_31_5 (i o : Nat) : aFieldAddr cfg.T 31 (.ptr i o) 5 = some (.ptr i (o + 5)) := by kernel_rfl
theorem fa_31_6 (i o : Nat) : aFieldAddr cfg.T 31 (.ptr i o) 6 = some (.ptr i (o + 6)) := by kernel_rfl
theorem fa_31_7 (i o : Nat) : aFieldAddr cfg.T 31 (.ptr i o) 7 = some (.ptr i (o + 7)) := by kernel_rfl
theorem fa_31_8 (i o : Nat) : aFieldAddr cfg.T 31 (.ptr i o) 8 = some (.ptr i (o + 8)) := by kernel_rfl
theorem fa_31_9 (i o : Nat) : aFieldAddr cfg.T 31 (.ptr i o) 9 = some (.ptr i (o + 9)) := by kernel_rfl
theorem fa_31_10 (i o : Nat) : aFieldAddr cfg.T 31 (.ptr i o) 10 = some (.ptr i (o + 10)) := by kernel_rfl
theorem fa_68_0 (i o : Nat) : aFieldAddr cfg.T 68 (.ptr i o) 0 = some (.ptr i (o + 0)) := by kernel_rfl
theorem fa_68_1 (i o : Nat) : aFieldAddr cfg.T 68 (.ptr i o) 1 = some (.ptr i (o + 1)) := by kernel_rfl
theorem fa_68_2 (i o : Nat) : aFieldAddr cfg.T 68 (.ptr i o) 2 = some (.ptr i (o + 2)) := by kernel_rfl
theorem fa_78_0 (i o : Nat) : aFieldAddr cfg.T 78 (.ptr i o) 0 = some (.ptr i (o + 0)) := by kernel_rfl
theorem fa_78_1 (i o : Nat) : aFieldAddr cfg.T 78 (.ptr i o) 1 = some (.ptr i (o + 1)) := by kernel_rfl
theorem al_3 (σ : St) : oAlloc cfg.T σ 3 = some (.ptr σ.next 0, σ.push (.cells [.int .i64 0] 0 false)) := (oAlloc_of T_3 (z := .int .i64 0) (by kernel_rfl) σ).trans (oNew_one rfl σ)
theorem al_25 (σ : St) : oAlloc cfg.T σ 25 = some (.ptr σ.next 0, σ.push (.cells [.nilSlice, .nilSlice, .int .i64 0, .bool false] 0 false)) := (oAlloc_of T_25 (z := .agg [.nilSlice, .nilSlice, .int .i64 0, .bool false]) (by kernel_rfl) σ).trans (oNew_agg _ σ)
theorem al_31 (σ : St) : oAlloc cfg.T σ 31 = some (.ptr σ.next 0, σ.push (.cells [.int .u64 0, .int .u64 0, .int .i64 0, .int .u64 0, .int .u64 0, .int .u64 0, .int .u64 0, .int .i64 0, .int .i64 0, .str [], .str []] 0 false)) := (oAlloc_of T_31 (z := .agg [.int .u64 0, .int .u64 0, .int .i64 0, .int .u64 0, .int .u64 0, .int .u64 0, .int .u64 0, .int .i64 0, .int .i64 0, .str [], .str []]) (by kernel_rfl) σ).trans (oNew_agg _ σ)
theorem al_78 (σ : St) : oAlloc cfg.T σ 78 = some (.ptr σ.next 0, σ.push (.cells [.nilPtr, .nilSlice] 0 false)) := (oAlloc_of T_78 (z := .agg [.nilPtr, .nilSlice]) (by kernel_rfl) σ).trans (oNew_agg _ σ)
theorem al_114 (σ : St) : oAlloc cfg.T σ 114 = some (.ptr σ.next 0, σ.push (.cells [.int .u8 0, .int .u8 0, .int .u8 0, .int .u8 0, .int .u8 0, .int .u8 0, .int .u8 0, .int .u8 0, .int .u8 0, .int .u8 0, .int .u8 0, .int .u8 0, .int .u8 0, .int .u8 0, .int .u8 0, .int .u8 0, .int .u8 0, .int .u8 0, .int .u8 0, .int .u8 0, .int .u8 0, .int .u8 0, .int .u8 0, .int .u8 0] 0 false)) := (oAlloc_of T_114 (z := .agg [.int .u8 0, .int .u8 0, .int .u8 0, .int .u8 0, .int .u8 0, .int .u8 0, .int .u8 0, .int .u8 0, .int .u8 0, .int .u8 0, .int .u8 0, .int .u8 0, .int .u8 0, .int .u8 0, .int .u8 0, .int .u8 0, .int .u8 0, .int .u8 0, .int .u8 0, .int .u8 0, .int .u8 0, .int .u8 0, .int .u8 0, .int .u8 0]) (by kernel_rfl) σ).trans (oNew_agg _ σ)
theorem al_121 (σ : St) : oAlloc cfg.T σ 121 = some (.ptr σ.next 0, σ.push (.cells [.int .u64 0] 0 false)) := (oAlloc_of T_121 (z := .int .u64 0) (by kernel_rfl) σ).trans (oNew_one rfl σ)
theorem al_130 (σ : St) : oAlloc cfg.T σ 130 = some (.ptr σ.next 0, σ.push (.cells [.int .u8 0, .int .u8 0, .int .u8 0, .int .u8 0, .int .u8 0, .int .u8 0, .int .u8 0, .int .u8 0, .int .u8 0, .int .u8 0, .int .u8 0, .int .u8 0, .int .u8 0, .int .u8 0, .int .u8 0, .int .u8 0, .int .u8 0, .int .u8 0, .int .u8 0, .int .u8 0, .int .u8 0, .int .u8 0, .int .u8 0, .int .u8 0, .int .u8 0, .int .u8 0, .int .u8 0, .int .u8 0, .int .u8 0, .int .u8 0, .int .u8 0, .int .u8 0, .int .u8 0, .int .u8 0, .int .u8 0, .int .u8 0, .int .u8 0, .int .u8 0, .int .u8 0, .int .u8 0, .int .u8 0, .int .u8 0, .int .u8 0, .int .u8 0, .int .u8 0, .int .u8 0, .int .u8 0, .int .u8 0, .int .u8 0, .int .u8 0, .int .u8 0, .int .u8 0, .int .u8 0, .int .u8 0, .int .u8 0, .int .u8 0, .int .u8 0, .int .u8 0, .int .u8 0, .int .u8 0, .int .u8 0, .int .u8 0, .int .u8 0, .int .u8 0, .int .u8 0] 0 false)) := (oAlloc_of T_130 (z := .agg [.int .u8 0, .int .u8 0, .int .u8 0, .int .u8 0, .int .u8 0, .int .u8 0, .int .u8 0, .int .u8 0, .int .u8 0, .int .u8 0, .int .u8 0, .int .u8 0, .int .u8 0, .int .u8 0, .int .u8 0, .int .u8 0, .int .u8 0, .int .u8 0, .int .u8 0, .int .u8 0, .int .u8 0, .int .u8 0, .int .u8 0, .int .u8 0, .int .u8 0, .int .u8 0, .int .u8 0, .int .u8 0, .int .u8 0, .int .u8 0, .int .u8 0, .int .u8 0, .int .u8 0, .int .u8 0, .int .u8 0, .int .u8 0, .int .u8 0, .int .u8 0, .int .u8 0, .int .u8 0, .int .u8 0, .int .u8 0, .int .u8 0, .int .u8 0, .int .u8 0, .int .u8 0, .int .u8 0, .int .u8 0, .int .u8 0, .int .u8 0, .int .u8 0, .int .u8 0, .int .u8 0, .int .u8 0, .int .u8 0, .int .u8 0, .int .u8 0, .int .u8 0, .int .u8 0, .int .u8 0, .int .u8 0, .int .u8 0, .int .u8 0, .int .u8 0, .int .u8 0]) (by kernel_rfl) σ).trans (oNew_agg _ σ)
theorem bu_25 (ps : List (Nat × AV)) : aBuild cfg.T 25 ps = aggO (aFill (placeOf cfg.T (fieldsOf cfg.T 25)) ps [.nilSlice, .nilSlice, .int .i64 0, .bool false]) := aBuild_at (fs := (fieldsOf cfg.T 25).toArray) T_25 (by kernel_rfl) (by kernel_rfl) (by kernel_rfl) (by kernel_rfl) ps
theorem pl_25_0 : placeOf cfg.T (fieldsOf cfg.T 25) 0 = some (0, 1) := by kernel_rfl
theorem pl_25_1 : placeOf cfg.T (fieldsOf cfg.T 25) 1 = some (1, 1) := by kernel_rfl
theorem pl_25_2 : placeOf cfg.T (fieldsOf cfg.T 25) 2 = some (2, 1) := by kernel_rfl
theorem pl_25_3 : placeOf cfg.T (fieldsOf cfg.T 25) 3 = some (3, 1) := by kernel_rfl
theorem bu_31 (ps : List (Nat × AV)) : aBuild cfg.T 31 ps = aggO (aFill (placeOf cfg.T (fieldsOf cfg.T 31)) ps [.int .u64 0, .int .u64 0, .int .i64 0, .int .u64 0, .int .u64 0, .int .u64 0, .int .u64 0, .int .i64 0, .int .i64 0, .str [], .str []]) := aBuild_at (fs := (fieldsOf cfg.T 31).toArray) T_31 (by kernel_rfl) (by kernel_rfl) (by kernel_rfl) (by kernel_rfl) ps
theorem pl_31_0 : placeOf cfg.T (fieldsOf cfg.T 31) 0 = some (0, 1) := by kernel_rfl
theorem pl_31_1 : placeOf cfg.T (fieldsOf cfg.T 31) 1 = some (1, 1) := by kernel_rfl
theorem pl_31_2 : placeOf cfg.T (fieldsOf cfg.T 31) 2 = some (2, 1) := by kernel_rfl
theorem pl_31_3 : placeOf cfg.T (fieldsOf cfg.T 31) 3 = some (3, 1) := by kernel_rfl
theorem pl_31_4 : placeOf cfg.T (fieldsOf cfg.T 31) 4 = some (4, 1) := by kernel_rfl
theorem pl_31_5 : placeOf cfg.T (fieldsOf cfg.T 31) 5 = some (5, 1) := by kernel_rfl
theorem pl_31_6 : placeOf cfg.T (fieldsOf cfg.T 31) 6 = some (6, 1) := by kernel_rfl
theorem pl_31_7 : placeOf cfg.T (fieldsOf cfg.T 31) 7 = some (7, 1) := by kernel_rfl
theorem pl_31_8 : placeOf cfg.T (fieldsOf cfg.T 31) 8 = some (8, 1) := by kernel_rfl
theorem pl_31_9 : placeOf cfg.T (fieldsOf cfg.T 31) 9 = some (9, 1) := by kernel_rfl
theorem pl_31_10 : placeOf cfg.T (fieldsOf cfg.T 31) 10 = some (10, 1) := by kernel_rfl
theorem bu_68 (ps : List (Nat × AV)) : aBuild cfg.T 68 ps = aggO (aFill (placeOf cfg.T (fieldsOf cfg.T 68)) ps [.str [], .bool false, .bool false]) := aBuild_at (fs := (fieldsOf cfg.T 68).toArray) T_68 (by kernel_rfl) (by kernel_rfl) (by kernel_rfl) (by kernel_rfl) ps
theorem pl_68_0 : placeOf cfg.T (fieldsOf cfg.T 68) 0 = some (0, 1) := by kernel_rfl
theorem pl_68_1 : placeOf cfg.T (fieldsOf cfg.T 68) 1 = some (1, 1) := by kernel_rfl
theorem pl_68_2 : placeOf cfg.T (fieldsOf cfg.T 68) 2 = some (2, 1) := by kernel_rfl
theorem bs_23_0 (σ : St) (ps : List (Nat × AV)) : aBuildSlice cfg.T σ 23 0 ps = sliceO σ 0 1 (aFill (plS 1) ps []) := aBuildSlice_at (T := cfg.T) (e := 3) (i := tyOf cfg.T 23) (j := tyOf cfg.T 3) (z := zrOf cfg.T 3) (by kernel_rfl) (by kernel_rfl) (by kernel_rfl) (by kernel_rfl) (by kernel_rfl) (by kernel_rfl) (by kernel_rfl) σ ps
theorem bs_23_1 (σ : St) (ps : List (Nat × AV)) : aBuildSlice cfg.T σ 23 1 ps = sliceO σ 1 1 (aFill (plS 1) ps [.int .i64 0]) := aBuildSlice_at (T := cfg.T) (e := 3) (i := tyOf cfg.T 23) (j := tyOf cfg.T 3) (z := zrOf cfg.T 3) (by kernel_rfl) (by kernel_rfl) (by kernel_rfl) (by kernel_rfl) (by kernel_rfl) (by kernel_rfl) (by kernel_rfl) σ ps
theorem bs_23_3 (σ : St) (ps : List (Nat × AV)) : aBuildSlice cfg.T σ 23 3 ps = sliceO σ 3 1 (aFill (plS 1) ps [.int .i64 0, .int .i64 0, .int .i64 0]) := aBuildSlice_at (T := cfg.T) (e := 3) (i := tyOf cfg.T 23) (j := tyOf cfg.T 3) (z := zrOf cfg.T 3) (by kernel_rfl) (by kernel_rfl) (by kernel_rfl) (by kernel_rfl) (by kernel_rfl) (by kernel_rfl) (by kernel_rfl) σ ps
theorem bs_56_1 (σ : St) (ps : List (Nat × AV)) : aBuildSlice cfg.T σ 56 1 ps = sliceO σ 1 1 (aFill (plS 1) ps [.str []]) := aBuildSlice_at (T := cfg.T) (e := 9) (i := tyOf cfg.T 56) (j := tyOf cfg.T 9) (z := zrOf cfg.T 9) (by kernel_rfl) (by kernel_rfl) (by kernel_rfl) (by kernel_rfl) (by kernel_rfl) (by kernel_rfl) (by kernel_rfl) σ ps
theorem bs_94_7 (σ : St) (ps : List (Nat × AV)) : aBuildSlice cfg.T σ 94 7 ps = sliceO σ 7 3 (aFill (plS 3) ps [.str [], .bool false, .bool false, .str [], .bool false, .bool false, .str [], .bool false, .bool false, .str [], .bool false, .bool false, .str [], .bool false, .bool false, .str [], .bool false, .bool false, .str [], .bool false, .bool false]) := aBuildSlice_at (T := cfg.T) (e := 68) (i := tyOf cfg.T 94) (j := tyOf cfg.T 68) (z := zrOf cfg.T 68) (by kernel_rfl) (by kernel_rfl) (by kernel_rfl) (by kernel_rfl) (by kernel_rfl) (by kernel_rfl) (by kernel_rfl) σ ps
theorem la_3 (t : List AV) (d : Option Tmp) (ty : TypeId) (pos : String) (aft : Array Edge) : layOf cfg.T t ⟨d, .alloc 3, ty, pos, aft, none⟩ = some ([.int .i64 0], none) := by kernel_rfl
theorem la_25 (t : List AV) (d : Option Tmp) (ty : TypeId) (pos : String) (aft : Array Edge) : layOf cfg.T t ⟨d, .alloc 25, ty, pos, aft, none⟩ = some ([.nilSlice, .nilSlice, .int .i64 0, .bool false], none) := by kernel_rfl
theorem la_31 (t : List AV) (d : Option Tmp) (ty : TypeId) (pos : String) (aft : Array Edge) : layOf cfg.T t ⟨d, .alloc 31, ty, pos, aft, none⟩ = some ([.int .u64 0, .int .u64 0, .int .i64 0, .int .u64 0, .int .u64 0, .int .u64 0, .int .u64 0, .int .i64 0, .int .i64 0, .str [], .str []], none) := by kernel_rfl
theorem la_78 (t : List AV) (d : Option Tmp) (ty : TypeId) (pos : String) (aft : Array Edge) : layOf cfg.T t ⟨d, .alloc 78, ty, pos, aft, none⟩ = some ([.nilPtr, .nilSlice], none) := by kernel_rfl
theorem la_114 (t : List AV) (d : Option Tmp) (ty : TypeId) (pos : String) (aft : Array Edge) : layOf cfg.T t ⟨d, .alloc 114, ty, pos, aft, none⟩ = some ([.int .u8 0, .int .u8 0, .int .u8 0, .int .u8 0, .int .u8 0, .int .u8 0, .int .u8 0, .int .u8 0, .int .u8 0, .int .u8 0, .int .u8 0, .int .u8 0, .int .u8 0, .int .u8 0, .int .u8 0, .int .u8 0, .int .u8 0, .int .u8 0, .int .u8 0, .int .u8 0, .int .u8 0, .int .u8 0, .int .u8 0, .int .u8 0], none) := by kernel_rfl
theorem la_121 (t : List AV) (d : Option Tmp) (ty : TypeId) (pos : String) (aft : Array Edge) : layOf cfg.T t ⟨d, .alloc 121, ty, pos, aft, none⟩ = some ([.int .u64 0], none) := by kernel_rfl
theorem la_130 (t : List AV) (d : Option Tmp) (ty : TypeId) (pos : String) (aft : Array Edge) : layOf cfg.T t ⟨d, .alloc 130, ty, pos, aft, none⟩ = some ([.int .u8 0, .int .u8 0, .int .u8 0, .int .u8 0, .int .u8 0, .int .u8 0, .int .u8 0, .int .u8 0, .int .u8 0, .int .u8 0, .int .u8 0, .int .u8 0, .int .u8 0, .int .u8 0, .int .u8 0, .int .u8 0, .int .u8 0, .int .u8 0, .int .u8 0, .int .u8 0, .int .u8 0, .int .u8 0, .int .u8 0, .int .u8 0, .int .u8 0, .int .u8 0, .int .u8 0, .int .u8 0, .int .u8 0, .int .u8 0, .int .u8 0, .int .u8 0, .int .u8 0, .int .u8 0, .int .u8 0, .int .u8 0, .int .u8 0, .int .u8 0, .int .u8 0, .int .u8 0, .int .u8 0, .int .u8 0, .int .u8 0, .int .u8 0, .int .u8 0, .int .u8 0, .int .u8 0, .int .u8 0, .int .u8 0, .int .u8 0, .int .u8 0, .int .u8 0, .int .u8 0, .int .u8 0, .int .u8 0, .int .u8 0, .int .u8 0, .int .u8 0, .int .u8 0, .int .u8 0, .int .u8 0, .int .u8 0, .int .u8 0, .int .u8 0, .int .u8 0], none) := by kernel_rfl
theorem sc_23_0 (ps : List (Nat × AV)) : laySC cfg.T 23 0 ps = slC 0 1 (aFill (plS 1) ps []) := laySC_at (T := cfg.T) (e := 3) (i := tyOf cfg.T 23) (j := tyOf cfg.T 3) (z := zrOf cfg.T 3) (by kernel_rfl) (by kernel_rfl) (by kernel_rfl) (by kernel_rfl) (by kernel_rfl) (by kernel_rfl) (by kernel_rfl) ps
theorem sc_23_1 (ps : List (Nat × AV)) : laySC cfg.T 23 1 ps = slC 1 1 (aFill (plS 1) ps [.int .i64 0]) := laySC_at (T := cfg.T) (e := 3) (i := tyOf cfg.T 23) (j := tyOf cfg.T 3) (z := zrOf cfg.T 3) (by kernel_rfl) (by kernel_rfl) (by kernel_rfl) (by kernel_rfl) (by kernel_rfl) (by kernel_rfl) (by kernel_rfl) ps
theorem sc_23_3 (ps : List (Nat × AV)) : laySC cfg.T 23 3 ps = slC 3 1 (aFill (plS 1) ps [.int .i64 0, .int .i64 0, .int .i64 0]) := laySC_at (T := cfg.T) (e := 3) (i := tyOf cfg.T 23) (j := tyOf cfg.T 3) (z := zrOf cfg.T 3) (by kernel_rfl) (by kernel_rfl) (by kernel_rfl) (by kernel_rfl) (by kernel_rfl) (by kernel_rfl) (by kernel_rfl) ps
theorem sc_56_1 (ps : List (Nat × AV)) : laySC cfg.T 56 1 ps = slC 1 1 (aFill (plS 1) ps [.str []]) := laySC_at (T := cfg.T) (e := 9) (i := tyOf cfg.T 56) (j := tyOf cfg.T 9) (z := zrOf cfg.T 9) (by kernel_rfl) (by kernel_rfl) (by kernel_rfl) (by kernel_rfl) (by kernel_rfl) (by kernel_rfl) (by kernel_rfl) ps
theorem sc_94_7 (ps : List (Nat × AV)) : laySC cfg.T 94 7 ps = slC 7 3 (aFill (plS 3) ps [.str [], .bool false, .bool false, .str [], .bool false, .bool false, .str [], .bool false, .bool false, .str [], .bool false, .bool false, .str [], .bool false, .bool false, .str [], .bool false, .bool false, .str [], .bool false, .bool false]) := laySC_at (T := cfg.T) (e := 68) (i := tyOf cfg.T 94) (j := tyOf cfg.T 68) (z := zrOf cfg.T 68) (by kernel_rfl) (by kernel_rfl) (by kernel_rfl) (by kernel_rfl) (by kernel_rfl) (by kernel_rfl) (by kernel_rfl) ps
theorem cv_2_29 (σ : St) (k : IntKind) (n : Int) : aConvert cfg.T σ 2 29 (.int k n) = some (.int .u64 (wrapA .u64 n), σ) := aConvert_int (T := cfg.T) (i := tyOf cfg.T 2) (j := tyOf cfg.T 29) (by kernel_rfl) (by kernel_rfl) (by kernel_rfl) σ k n
theorem cv_3_29 (σ : St) (k : IntKind) (n : Int) : aConvert cfg.T σ 3 29 (.int k n) = some (.int .u64 (wrapA .u64 n), σ) := aConvert_int (T := cfg.T) (i := tyOf cfg.T 3) (j := tyOf cfg.T 29) (by kernel_rfl) (by kernel_rfl) (by kernel_rfl) σ k n
theorem cv_3_61 (σ : St) (k : IntKind) (n : Int) : aConvert cfg.T σ 3 61 (.int k n) = some (.int .u64 (wrapA .u64 n), σ) := aConvert_int (T := cfg.T) (i := tyOf cfg.T 3) (j := tyOf cfg.T 61) (by kernel_rfl) (by kernel_rfl) (by kernel_rfl) σ k n
theorem cv_3_121 (σ : St) (k : IntKind) (n : Int) : aConvert cfg.T σ 3 121 (.int k n) = some (.int .u64 (wrapA .u64 n), σ) := aConvert_int (T := cfg.T) (i := tyOf cfg.T 3) (j := tyOf cfg.T 121) (by kernel_rfl) (by kernel_rfl) (by kernel_rfl) σ k n
theorem cv_5_3 (σ : St) (k : IntKind) (n : Int) : aConvert cfg.T σ 5 3 (.int k n) = some (.int .i64 (wrapA .i64 n), σ) := aConvert_int (T := cfg.T) (i := tyOf cfg.T 5) (j := tyOf cfg.T 3) (by kernel_rfl) (by kernel_rfl) (by kernel_rfl) σ k n
theorem cv_5_88 (σ : St) (k : IntKind) (n : Int) : aConvert cfg.T σ 5 88 (.int k n) = some (.int .u32 (wrapA .u32 n), σ) := aConvert_int (T := cfg.T) (i := tyOf cfg.T 5) (j := tyOf cfg.T 88) (by kernel_rfl) (by kernel_rfl) (by kernel_rfl) σ k n
theorem cv_29_5 (σ : St) (k : IntKind) (n : Int) : aConvert cfg.T σ 29 5 (.int k n) = some (.int .u8 (wrapA .u8 n), σ) := aConvert_int (T := cfg.T) (i := tyOf cfg.T 29) (j := tyOf cfg.T 5) (by kernel_rfl) (by kernel_rfl) (by kernel_rfl) σ k n
theorem cv_29_88 (σ : St) (k : IntKind) (n : Int) : aConvert cfg.T σ 29 88 (.int k n) = some (.int .u32 (wrapA .u32 n), σ) := aConvert_int (T := cfg.T) (i := tyOf cfg.T 29) (j := tyOf cfg.T 88) (by kernel_rfl) (by kernel_rfl) (by kernel_rfl) σ k n
theorem cv_61_3 (σ : St) (k : IntKind) (n : Int) : aConvert cfg.T σ 61 3 (.int k n) = some (.int .i64 (wrapA .i64 n), σ) := aConvert_int (T := cfg.T) (i := tyOf cfg.T 61) (j := tyOf cfg.T 3) (by kernel_rfl) (by kernel_rfl) (by kernel_rfl) σ k n
theorem cv_61_88 (σ : St) (k : IntKind) (n : Int) : aConvert cfg.T σ 61 88 (.int k n) = some (.int .u32 (wrapA .u32 n), σ) := aConvert_int (T := cfg.T) (i := tyOf cfg.T 61) (j := tyOf cfg.T 88) (by kernel_rfl) (by kernel_rfl) (by kernel_rfl) σ k n
theorem cv_88_5 (σ : St) (k : IntKind) (n : Int) : aConvert cfg.T σ 88 5 (.int k n) = some (.int .u8 (wrapA .u8 n), σ) := aConvert_int (T := cfg.T) (i := tyOf cfg.T 88) (j := tyOf cfg.T 5) (by kernel_rfl) (by kernel_rfl) (by kernel_rfl) σ k n
theorem cv_88_29 (σ : St) (k : IntKind) (n : Int) : aConvert cfg.T σ 88 29 (.int k n) = some (.int .u64 (wrapA .u64 n), σ) := aConvert_int (T := cfg.T) (i := tyOf cfg.T 88) (j := tyOf cfg.T 29) (by kernel_rfl) (by kernel_rfl) (by kernel_rfl) σ k n
theorem cv_88_61 (σ : St) (k : IntKind) (n : Int) : aConvert cfg.T σ 88 61 (.int k n) = some (.int .u64 (wrapA .u64 n), σ) := aConvert_int (T := cfg.T) (i := tyOf cfg.T 88) (j := tyOf cfg.T 61) (by kernel_rfl) (by kernel_rfl) (by kernel_rfl) σ k n
theorem eb_4 (a b : Bool) : aBin cfg.T cfg.E .eql 4 (.bool a) (.bool b) = some (.bool (decide (a = b))) := aBin_eqlB (T := cfg.T) (i := tyOf cfg.T 4) (by kernel_rfl) (by kernel_rfl) a b
theorem en_23 {v : AV} (h : isSl v = true) : aBin cfg.T cfg.E .eql 23 v .nilSlice = some (.bool (isNilS v)) := eql_nilS (T := cfg.T) (e := 3) (i := tyOf cfg.T 23) (by kernel_rfl) (by kernel_rfl) h
theorem ap_23_23 {σ : St} {s x : AV} {xs ys : List (List AV)} (hs : SlR σ s 1 xs) (ha : App σ s) (hx : SlR σ x 1 ys) (hb : xs.length + ys.length ≤ 17179869184) : ∃ v σ', aBuiltin cfg.T σ .append #[23, 23] [s, x] = some (v, σ') ∧ SlR σ' v 1 (xs ++ ys) ∧ App σ' v ∧ Ext (sid s) [] σ σ' ∧ ((v = s ∧ σ' = σ) ∨ ∃ n, v = .slice σ.next 0 n n 1) ∧ σ'.next ≤ σ.next + 1 := append_any (T := cfg.T) (bytes := 8) (e := 3) (i := tyOf cfg.T 23) (j := tyOf cfg.T 3) (i' := tyOf cfg.T 23) (z := zrOf cfg.T 3) (by kernel_rfl) (by kernel_rfl) (by kernel_rfl) (by kernel_rfl) (by kernel_rfl) (by kernel_rfl) (by kernel_rfl) (by kernel_rfl) (by kernel_rfl) (by decide) hs ha hx (by omega) (by omega)
theorem ap_56_56 {σ : St} {s x : AV} {xs ys : List (List AV)} (hs : SlR σ s 1 xs) (ha : App σ s) (hx : SlR σ x 1 ys) (hb : xs.length + ys.length ≤ 17179869184) : ∃ v σ', aBuiltin cfg.T σ .append #[56, 56] [s, x] = some (v, σ') ∧ SlR σ' v 1 (xs ++ ys) ∧ App σ' v ∧ Ext [] (sid s) σ σ' ∧ ((v = s ∧ σ' = σ) ∨ ∃ n, v = .slice σ.next 0 n n 1) ∧ σ'.next ≤ σ.next + 1 := append_keep (T := cfg.T) (bytes := 16) (e := 9) (i := tyOf cfg.T 56) (j := tyOf cfg.T 9) (i' := tyOf cfg.T 56) (z := zrOf cfg.T 9) (by kernel_rfl) (by kernel_rfl) (by kernel_rfl) (by kernel_rfl) (by kernel_rfl) (by kernel_rfl) (by kernel_rfl) (by kernel_rfl) (by kernel_rfl) (by kernel_rfl) (by decide) hs ha hx (by omega) (by omega)
theorem ap_76_9 {σ : St} {s x : AV} {xs ys : List (List AV)} (hs : SlR σ s 1 xs) (ha : App σ s) (hx : SlR σ x 1 ys) (hb : xs.length + ys.length ≤ 17179869184) : ∃ v σ', aBuiltin cfg.T σ .append #[76, 9] [s, x] = some (v, σ') ∧ SlR σ' v 1 (xs ++ ys) ∧ App σ' v ∧ Ext [] (sid s) σ σ' ∧ ((v = s ∧ σ' = σ) ∨ ∃ n, v = .slice σ.next 0 n n 1) ∧ σ'.next ≤ σ.next + 1 := append_keep (T := cfg.T) (bytes := 1) (e := 5) (i := tyOf cfg.T 76) (j := tyOf cfg.T 5) (i' := tyOf cfg.T 9) (z := zrOf cfg.T 5) (by kernel_rfl) (by kernel_rfl) (by kernel_rfl) (by kernel_rfl) (by kernel_rfl) (by kernel_rfl) (by kernel_rfl) (by kernel_rfl) (by kernel_rfl) (by kernel_rfl) (by decide) hs ha hx (by omega) (by omega)
theorem ap_76_76 {σ : St} {s x : AV} {xs ys : List (List AV)} (hs : SlR σ s 1 xs) (ha : App σ s) (hx : SlR σ x 1 ys) (hb : xs.length + ys.length ≤ 17179869184) : ∃ v σ', aBuiltin cfg.T σ .append #[76, 76] [s, x] = some (v, σ') ∧ SlR σ' v 1 (xs ++ ys) ∧ App σ' v ∧ Ext [] (sid s) σ σ' ∧ ((v = s ∧ σ' = σ) ∨ ∃ n, v = .slice σ.next 0 n n 1) ∧ σ'.next ≤ σ.next + 1 := append_keep (T := cfg.T) (bytes := 1) (e := 5) (i := tyOf cfg.T 76) (j := tyOf cfg.T 5) (i' := tyOf cfg.T 76) (z := zrOf cfg.T 5) (by kernel_rfl) (by kernel_rfl) (by kernel_rfl) (by kernel_rfl) (by kernel_rfl) (by kernel_rfl) (by kernel_rfl) (by kernel_rfl) (by kernel_rfl) (by kernel_rfl) (by decide) hs ha hx (by omega) (by omega)
theorem sl_23 {σ : St} {v : AV} {xs : List (List AV)} (hx : SlR σ v 1 xs) {lo hi : Option AV} {a b : Nat} (hlo : (lo = none ∧ a = 0) ∨ ∃ k, lo = some (.int k (a : Int))) (hhi : (hi = none ∧ b = xs.length) ∨ ∃ k, hi = some (.int k (b : Int))) (hab : a ≤ b) (hb : b ≤ xs.length) : ∃ v', (∀ σ' : St, aSlice cfg.T σ' 23 v lo hi = some v') ∧ SlR σ v' 1 ((xs.take b).drop a) ∧ (∀ n ∈ sid v', n ∈ sid v) := aSlice_sl (T := cfg.T) (e := 3) (i := tyOf cfg.T 23) (j := tyOf cfg.T 3) (by kernel_rfl) (by kernel_rfl) (by kernel_rfl) (by kernel_rfl) hx hlo hhi hab hb
theorem sl_56 {σ : St} {v : AV} {xs : List (List AV)} (hx : SlR σ v 1 xs) {lo hi : Option AV} {a b : Nat} (hlo : (lo = none ∧ a = 0) ∨ ∃ k, lo = some (.int k (a : Int))) (hhi : (hi = none ∧ b = xs.length) ∨ ∃ k, hi = some (.int k (b : Int))) (hab : a ≤ b) (hb : b ≤ xs.length) : ∃ v', (∀ σ' : St, aSlice cfg.T σ' 56 v lo hi = some v') ∧ SlR σ v' 1 ((xs.take b).drop a) ∧ (∀ n ∈ sid v', n ∈ sid v) := aSlice_sl (T := cfg.T) (e := 9) (i := tyOf cfg.T 56) (j := tyOf cfg.T 9) (by kernel_rfl) (by kernel_rfl) (by kernel_rfl) (by kernel_rfl) hx hlo hhi hab hb
theorem sl_76 {σ : St} {v : AV} {xs : List (List AV)} (hx : SlR σ v 1 xs) {lo hi : Option AV} {a b : Nat} (hlo : (lo = none ∧ a = 0) ∨ ∃ k, lo = some (.int k (a : Int))) (hhi : (hi = none ∧ b = xs.length) ∨ ∃ k, hi = some (.int k (b : Int))) (hab : a ≤ b) (hb : b ≤ xs.length) : ∃ v', (∀ σ' : St, aSlice cfg.T σ' 76 v lo hi = some v') ∧ SlR σ v' 1 ((xs.take b).drop a) ∧ (∀ n ∈ sid v', n ∈ sid v) := aSlice_sl (T := cfg.T) (e := 5) (i := tyOf cfg.T 76) (j := tyOf cfg.T 5) (by kernel_rfl) (by kernel_rfl) (by kernel_rfl) (by kernel_rfl) hx hlo hhi hab hb
theorem mu_52 (σ : St) (r : Nat) (k : IntKind) (n : Int) (v : AV) : aMapUpdate cfg.T σ 52 (.map r) (.int k n) v = upM (σ.get r) σ r (.int k n) v := aMapUpdate_int (T := cfg.T) (kt := 3) (et := 49) (i := tyOf cfg.T 52) (j := tyOf cfg.T 3) (ik := .i64) (by kernel_rfl) (by kernel_rfl) (by kernel_rfl) (by kernel_rfl) σ r k n v
theorem mu_93 (σ : St) (r : Nat) (k : IntKind) (n : Int) (v : AV) : aMapUpdate cfg.T σ 93 (.map r) (.int k n) v = upM (σ.get r) σ r (.int k n) v := aMapUpdate_int (T := cfg.T) (kt := 3) (et := 9) (i := tyOf cfg.T 93) (j := tyOf cfg.T 3) (ik := .i64) (by kernel_rfl) (by kernel_rfl) (by kernel_rfl) (by kernel_rfl) σ r k n v
theorem lk_52 {σ : St} {r : Nat} {k : IntKind} {es : List (Int × AV)} {b c : Nat} (hg : σ.get r = some (.map (mkEs k es b) c)) (n : Int) (ok : Bool) : aLookup cfg.T σ 52 (.map r) (.int k n) ok = some (lkM ok (.nilFunc) (assoc es n)) := aLookup_int (T := cfg.T) (kt := 3) (et := 49) (i := tyOf cfg.T 52) (j := tyOf cfg.T 3) (ik := .i64) (e := tyOf cfg.T 49) (by kernel_rfl) (by kernel_rfl) (by kernel_rfl) (by kernel_rfl) (by kernel_rfl) (by kernel_rfl) hg n ok
theorem lk_93 {σ : St} {r : Nat} {k : IntKind} {es : List (Int × AV)} {b c : Nat} (hg : σ.get r = some (.map (mkEs k es b) c)) (n : Int) (ok : Bool) : aLookup cfg.T σ 93 (.map r) (.int k n) ok = some (lkM ok (.str []) (assoc es n)) := aLookup_int (T := cfg.T) (kt := 3) (et := 9) (i := tyOf cfg.T 93) (j := tyOf cfg.T 3) (ik := .i64) (e := tyOf cfg.T 9) (by kernel_rfl) (by kernel_rfl) (by kernel_rfl) (by kernel_rfl) (by kernel_rfl) (by kernel_rfl) hg n ok
theorem ln_9 (σ : St) (s : List UInt8) : aBuiltin cfg.T σ .len #[9] [.str s] = some (.int .i64 s.length, σ) := aLen_str (T := cfg.T) (i := tyOf cfg.T 9) (by kernel_rfl) (by kernel_rfl) σ s
theorem ln_23 (σ : St) {v : AV} (h : isSl v = true) : aBuiltin cfg.T σ .len #[23] [v] = some (.int .i64 (slen v), σ) := aLen_sl (T := cfg.T) (e := 3) (i := tyOf cfg.T 23) (by kernel_rfl) (by kernel_rfl) σ h
theorem ln_56 (σ : St) {v : AV} (h : isSl v = true) : aBuiltin cfg.T σ .len #[56] [v] = some (.int .i64 (slen v), σ) := aLen_sl (T := cfg.T) (e := 9) (i := tyOf cfg.T 56) (by kernel_rfl) (by kernel_rfl) σ h
theorem ln_76 (σ : St) {v : AV} (h : isSl v = true) : aBuiltin cfg.T σ .len #[76] [v] = some (.int .i64 (slen v), σ) := aLen_sl (T := cfg.T) (e := 5) (i := tyOf cfg.T 76) (by kernel_rfl) (by kernel_rfl) σ h
theorem ln_94 (σ : St) {v : AV} (h : isSl v = true) : aBuiltin cfg.T σ .len #[94] [v] = some (.int .i64 (slen v), σ) := aLen_sl (T := cfg.T) (e := 68) (i := tyOf cfg.T 94) (by kernel_rfl) (by kernel_rfl) σ h
theorem ia_23 (id off len cap esz : Nat) (k : IntKind) (m : Nat) : aIndexAddr cfg.T 23 (.slice id off len cap esz) (.int k (m : Int)) = if m < len then some (.ptr id (off + m * 1)) else none := aIndexAddr_sl (T := cfg.T) (e := 3) (i := tyOf cfg.T 23) (j := tyOf cfg.T 3) (by kernel_rfl) (by kernel_rfl) (by kernel_rfl) (by kernel_rfl) id off len cap esz k m
theorem ia_56 (id off len cap esz : Nat) (k : IntKind) (m : Nat) : aIndexAddr cfg.T 56 (.slice id off len cap esz) (.int k (m : Int)) = if m < len then some (.ptr id (off + m * 1)) else none := aIndexAddr_sl (T := cfg.T) (e := 9) (i := tyOf cfg.T 56) (j := tyOf cfg.T 9) (by kernel_rfl) (by kernel_rfl) (by kernel_rfl) (by kernel_rfl) id off len cap esz k m
theorem ia_76 (id off len cap esz : Nat) (k : IntKind) (m : Nat) : aIndexAddr cfg.T 76 (.slice id off len cap esz) (.int k (m : Int)) = if m < len then some (.ptr id (off + m * 1)) else none := aIndexAddr_sl (T := cfg.T) (e := 5) (i := tyOf cfg.T 76) (j := tyOf cfg.T 5) (by kernel_rfl) (by kernel_rfl) (by kernel_rfl) (by kernel_rfl) id off len cap esz k m
theorem ia_94 (id off len cap esz : Nat) (k : IntKind) (m : Nat) : aIndexAddr cfg.T 94 (.slice id off len cap esz) (.int k (m : Int)) = if m < len then some (.ptr id (off + m * 3)) else none := aIndexAddr_sl (T := cfg.T) (e := 68) (i := tyOf cfg.T 94) (j := tyOf cfg.T 68) (by kernel_rfl) (by kernel_rfl) (by kernel_rfl) (by kernel_rfl) id off len cap esz k m
/-- gosem.cut.init -/
theorem E_2 (σ : St) : (W cfg).f 2 [] σ = run cfg (bodyOf Tryd.f2) ⟨mat 1 [], [], false⟩ (leaveK cfg Tryd.f2) σ := W_entry cfg (fn := Tryd.f2) (by kernel_rfl) (by kernel_rfl) (by kernel_rfl) (by kernel_rfl) rfl rfl σ
theorem R_2 : Tryd.f2.results.toList = [] := by kernel_rfl
/-- pintle/pintlelaw14.LevelRises -/
theorem E_3 (a0 a1 : AV) (σ : St) : (W cfg).f 3 [a0, a1] σ = run cfg (bodyOf Tryd.f3) ⟨mat 122 [(0, a0), (1, a1)], [], false⟩ (leaveK cfg Tryd.f3) σ := W_entry cfg (fn := Tryd.f3) (by kernel_rfl) (by kernel_rfl) (by kernel_rfl) (by kernel_rfl) rfl rfl σ
theorem R_3 : Tryd.f3.results.toList = [.tmp 4] := by kernel_rfl
/-- pintle/pintlelaw14.LevelMembers -/
theorem E_4 (a0 a1 : AV) (σ : St) : (W cfg).f 4 [a0, a1] σ = run cfg (bodyOf Tryd.f4) ⟨mat 109 [(0, a0), (1, a1)], [], false⟩ (leaveK cfg Tryd.f4) σ := W_entry cfg (fn := Tryd.f4) (by kernel_rfl) (by kernel_rfl) (by kernel_rfl) (by kernel_rfl) rfl rfl σ
theorem R_4 : Tryd.f4.results.toList = [.tmp 4] := by kernel_rfl
/-- pintle/pintlelaw14.examples -/
theorem E_5 (σ : St) : (W cfg).f 5 [] σ = run cfg (bodyOf Tryd.f5) ⟨mat 61 [], [], false⟩ (leaveK cfg Tryd.f5) σ := W_entry cfg (fn := Tryd.f5) (by kernel_rfl) (by kernel_rfl) (by kernel_rfl) (by kernel_rfl) rfl rfl σ
theorem R_5 : Tryd.f5.results.toList = [.tmp 0] := by kernel_rfl
/-- pintle/level.New -/
theorem E_6 (a0 : AV) (σ : St) : (W cfg).f 6 [a0] σ = run cfg (bodyOf Tryd.f6) ⟨mat 21 [(0, a0)], [], false⟩ (leaveK cfg Tryd.f6) σ := W_entry cfg (fn := Tryd.f6) (by kernel_rfl) (by kernel_rfl) (by kernel_rfl) (by kernel_rfl) rfl rfl σ
theorem R_6 : Tryd.f6.results.toList = [.cell 2 25, .tmp 3] := by kernel_rfl
/-- pintle/pintlelaw14.some -/
theorem E_7 (a0 : AV) (σ : St) : (W cfg).f 7 [a0] σ = run cfg (bodyOf Tryd.f7) ⟨mat 25 [(0, a0)], [], false⟩ (leaveK cfg Tryd.f7) σ := W_entry cfg (fn := Tryd.f7) (by kernel_rfl) (by kernel_rfl) (by kernel_rfl) (by kernel_rfl) rfl rfl σ
theorem R_7 : Tryd.f7.results.toList = [.tmp 2] := by kernel_rfl
/-- pintle/level.Apply -/
theorem E_8 (a0 a1 : AV) (σ : St) : (W cfg).f 8 [a0, a1] σ = run cfg (bodyOf Tryd.f8) ⟨mat 45 [(0, a0), (1, a1)], [], false⟩ (leaveK cfg Tryd.f8) σ := W_entry cfg (fn := Tryd.f8) (by kernel_rfl) (by kernel_rfl) (by kernel_rfl) (by kernel_rfl) rfl rfl σ
theorem R_8 : Tryd.f8.results.toList = [.cell 4 25, .tmp 5] := by kernel_rfl
/-- pintle/level.May -/
theorem E_9 (a0 a1 : AV) (σ : St) : (W cfg).f 9 [a0, a1] σ = run cfg (bodyOf Tryd.f9) ⟨mat 9 [(0, a0), (1, a1)], [], false⟩ (leaveK cfg Tryd.f9) σ := W_entry cfg (fn := Tryd.f9) (by kernel_rfl) (by kernel_rfl) (by kernel_rfl) (by kernel_rfl) rfl rfl σ
theorem R_9 : Tryd.f9.results.toList = [.tmp 4] := by kernel_rfl
/-- pintle/level.Has -/
theorem E_10 (a0 a1 : AV) (σ : St) : (W cfg).f 10 [a0, a1] σ = run cfg (bodyOf Tryd.f10) ⟨mat 9 [(0, a0), (1, a1)], [], false⟩ (leaveK cfg Tryd.f10) σ := W_entry cfg (fn := Tryd.f10) (by kernel_rfl) (by kernel_rfl) (by kernel_rfl) (by kernel_rfl) rfl rfl σ
theorem R_10 : Tryd.f10.results.toList = [.tmp 4] := by kernel_rfl
/-- pintle/level.Text -/
theorem E_11 (a0 : AV) (σ : St) : (W cfg).f 11 [a0] σ = run cfg (bodyOf Tryd.f11) ⟨mat 47 [(0, a0)], [], false⟩ (leaveK cfg Tryd.f11) σ := W_entry cfg (fn := Tryd.f11) (by kernel_rfl) (by kernel_rfl) (by kernel_rfl) (by kernel_rfl) rfl rfl σ
theorem R_11 : Tryd.f11.results.toList = [.tmp 2] := by kernel_rfl
/-- pintle/level.Quorum -/
theorem E_12 (a0 : AV) (σ : St) : (W cfg).f 12 [a0] σ = run cfg (bodyOf Tryd.f12) ⟨mat 8 [(0, a0)], [], false⟩ (leaveK cfg Tryd.f12) σ := W_entry cfg (fn := Tryd.f12) (by kernel_rfl) (by kernel_rfl) (by kernel_rfl) (by kernel_rfl) rfl rfl σ
theorem R_12 : Tryd.f12.results.toList = [.tmp 2] := by kernel_rfl
/-- slices.Compact[[]int,int] -/
theorem E_13 (a0 : AV) (σ : St) : (W cfg).f 13 [a0] σ = run cfg (bodyOf Tryd.f13) ⟨mat 61 [(0, a0)], [], false⟩ (leaveK cfg Tryd.f13) σ := W_entry cfg (fn := Tryd.f13) (by kernel_rfl) (by kernel_rfl) (by kernel_rfl) (by kernel_rfl) rfl rfl σ
theorem R_13 : Tryd.f13.results.toList = [.tmp 2] := by kernel_rfl
/-- slices.Sorted[int] -/
theorem E_14 (a0 : AV) (σ : St) : (W cfg).f 14 [a0] σ = run cfg (bodyOf Tryd.f14) ⟨mat 9 [(0, a0)], [], false⟩ (leaveK cfg Tryd.f14) σ := W_entry cfg (fn := Tryd.f14) (by kernel_rfl) (by kernel_rfl) (by kernel_rfl) (by kernel_rfl) rfl rfl σ
theorem R_14 : Tryd.f14.results.toList = [.tmp 2] := by kernel_rfl
/-- slices.Values[[]int,int] -/
theorem E_15 (a0 : AV) (σ : St) : (W cfg).f 15 [a0] σ = run cfg (bodyOf Tryd.f15) ⟨mat 4 [(0, a0)], [], false⟩ (leaveK cfg Tryd.f15) σ := W_entry cfg (fn := Tryd.f15) (by kernel_rfl) (by kernel_rfl) (by kernel_rfl) (by kernel_rfl) rfl rfl σ
theorem R_15 : Tryd.f15.results.toList = [.tmp 2] := by kernel_rfl
/-- slices.Repeat[[]int,int] -/
theorem E_16 (a0 a1 : AV) (σ : St) : (W cfg).f 16 [a0, a1] σ = run cfg (bodyOf Tryd.f16) ⟨mat 48 [(0, a0), (1, a1)], [], false⟩ (leaveK cfg Tryd.f16) σ := W_entry cfg (fn := Tryd.f16) (by kernel_rfl) (by kernel_rfl) (by kernel_rfl) (by kernel_rfl) rfl rfl σ
theorem R_16 : Tryd.f16.results.toList = [.tmp 4] := by kernel_rfl
/-- pintle/level.Right -/
theorem E_17 (a0 : AV) (σ : St) : (W cfg).f 17 [a0] σ = run cfg (bodyOf Tryd.f17) ⟨mat 61 [(0, a0)], [], false⟩ (leaveK cfg Tryd.f17) σ := W_entry cfg (fn := Tryd.f17) (by kernel_rfl) (by kernel_rfl) (by kernel_rfl) (by kernel_rfl) rfl rfl σ
theorem R_17 : Tryd.f17.results.toList = [.tmp 2] := by kernel_rfl
/-- pintle/entry.Right -/
theorem E_18 (a0 : AV) (σ : St) : (W cfg).f 18 [a0] σ = run cfg (bodyOf Tryd.f18) ⟨mat 88 [(0, a0)], [], false⟩ (leaveK cfg Tryd.f18) σ := W_entry cfg (fn := Tryd.f18) (by kernel_rfl) (by kernel_rfl) (by kernel_rfl) (by kernel_rfl) rfl rfl σ
theorem R_18 : Tryd.f18.results.toList = [.tmp 2] := by kernel_rfl
/-- (pintle/level.Config).clone -/
theorem E_19 (a0 : AV) (σ : St) : (W cfg).f 19 [a0] σ = run cfg (bodyOf Tryd.f19) ⟨mat 12 [(0, a0)], [], false⟩ (leaveK cfg Tryd.f19) σ := W_entry cfg (fn := Tryd.f19) (by kernel_rfl) (by kernel_rfl) (by kernel_rfl) (by kernel_rfl) rfl rfl σ
theorem R_19 : Tryd.f19.results.toList = [.cell 2 25] := by kernel_rfl
/-- (*pintle/level.Config).add -/
theorem E_20 (a0 a1 : AV) (σ : St) : (W cfg).f 20 [a0, a1] σ = run cfg (bodyOf Tryd.f20) ⟨mat 47 [(0, a0), (1, a1)], [], false⟩ (leaveK cfg Tryd.f20) σ := W_entry cfg (fn := Tryd.f20) (by kernel_rfl) (by kernel_rfl) (by kernel_rfl) (by kernel_rfl) rfl rfl σ
theorem R_20 : Tryd.f20.results.toList = [.tmp 4] := by kernel_rfl
/-- (*pintle/level.Config).remove -/
theorem E_21 (a0 a1 : AV) (σ : St) : (W cfg).f 21 [a0, a1] σ = run cfg (bodyOf Tryd.f21) ⟨mat 49 [(0, a0), (1, a1)], [], false⟩ (leaveK cfg Tryd.f21) σ := W_entry cfg (fn := Tryd.f21) (by kernel_rfl) (by kernel_rfl) (by kernel_rfl) (by kernel_rfl) rfl rfl σ
theorem R_21 : Tryd.f21.results.toList = [.tmp 4] := by kernel_rfl
/-- (*pintle/level.Config).register -/
theorem E_22 (a0 a1 : AV) (σ : St) : (W cfg).f 22 [a0, a1] σ = run cfg (bodyOf Tryd.f22) ⟨mat 36 [(0, a0), (1, a1)], [], false⟩ (leaveK cfg Tryd.f22) σ := W_entry cfg (fn := Tryd.f22) (by kernel_rfl) (by kernel_rfl) (by kernel_rfl) (by kernel_rfl) rfl rfl σ
theorem R_22 : Tryd.f22.results.toList = [.tmp 4] := by kernel_rfl
/-- (*pintle/level.Config).upgrade -/
theorem E_23 (a0 a1 : AV) (σ : St) : (W cfg).f 23 [a0, a1] σ = run cfg (bodyOf Tryd.f23) ⟨mat 20 [(0, a0), (1, a1)], [], false⟩ (leaveK cfg Tryd.f23) σ := W_entry cfg (fn := Tryd.f23) (by kernel_rfl) (by kernel_rfl) (by kernel_rfl) (by kernel_rfl) rfl rfl σ
theorem R_23 : Tryd.f23.results.toList = [.tmp 4] := by kernel_rfl
/-- (*pintle/level.Config).lower -/
theorem E_24 (a0 a1 : AV) (σ : St) : (W cfg).f 24 [a0, a1] σ = run cfg (bodyOf Tryd.f24) ⟨mat 19 [(0, a0), (1, a1)], [], false⟩ (leaveK cfg Tryd.f24) σ := W_entry cfg (fn := Tryd.f24) (by kernel_rfl) (by kernel_rfl) (by kernel_rfl) (by kernel_rfl) rfl rfl σ
theorem R_24 : Tryd.f24.results.toList = [.tmp 4] := by kernel_rfl
/-- (*pintle/level.Config).finalise -/
theorem E_25 (a0 a1 : AV) (σ : St) : (W cfg).f 25 [a0, a1] σ = run cfg (bodyOf Tryd.f25) ⟨mat 19 [(0, a0), (1, a1)], [], false⟩ (leaveK cfg Tryd.f25) σ := W_entry cfg (fn := Tryd.f25) (by kernel_rfl) (by kernel_rfl) (by kernel_rfl) (by kernel_rfl) rfl rfl σ
theorem R_25 : Tryd.f25.results.toList = [.tmp 4] := by kernel_rfl
/-- pintle/level.in -/
theorem E_26 (a0 a1 a2 : AV) (σ : St) : (W cfg).f 26 [a0, a1, a2] σ = run cfg (bodyOf Tryd.f26) ⟨mat 15 [(0, a0), (1, a1), (2, a2)], [], false⟩ (leaveK cfg Tryd.f26) σ := W_entry cfg (fn := Tryd.f26) (by kernel_rfl) (by kernel_rfl) (by kernel_rfl) (by kernel_rfl) rfl rfl σ
theorem R_26 : Tryd.f26.results.toList = [.tmp 6] := by kernel_rfl
/-- slices.Contains[[]int,int] -/
theorem E_27 (a0 a1 : AV) (σ : St) : (W cfg).f 27 [a0, a1] σ = run cfg (bodyOf Tryd.f27) ⟨mat 9 [(0, a0), (1, a1)], [], false⟩ (leaveK cfg Tryd.f27) σ := W_entry cfg (fn := Tryd.f27) (by kernel_rfl) (by kernel_rfl) (by kernel_rfl) (by kernel_rfl) rfl rfl σ
theorem R_27 : Tryd.f27.results.toList = [.tmp 4] := by kernel_rfl
/-- strconv.Itoa -/
theorem E_28 (a0 : AV) (σ : St) : (W cfg).f 28 [a0] σ = run cfg (bodyOf Tryd.f28) ⟨mat 5 [(0, a0)], [], false⟩ (leaveK cfg Tryd.f28) σ := W_entry cfg (fn := Tryd.f28) (by kernel_rfl) (by kernel_rfl) (by kernel_rfl) (by kernel_rfl) rfl rfl σ
theorem R_28 : Tryd.f28.results.toList = [.tmp 2] := by kernel_rfl
/-- strings.Join -/
theorem R_29 : Tryd.f29.results.toList = [.tmp 4] := by kernel_rfl
/-- slices.Collect[int] -/
theorem E_30 (a0 : AV) (σ : St) : (W cfg).f 30 [a0] σ = run cfg (bodyOf Tryd.f30) ⟨mat 5 [(0, a0)], [], false⟩ (leaveK cfg Tryd.f30) σ := W_entry cfg (fn := Tryd.f30) (by kernel_rfl) (by kernel_rfl) (by kernel_rfl) (by kernel_rfl) rfl rfl σ
theorem R_30 : Tryd.f30.results.toList = [.tmp 2] := by kernel_rfl
/-- slices.Sort[[]int,int] -/
theorem E_31 (a0 : AV) (σ : St) : (W cfg).f 31 [a0] σ = run cfg (bodyOf Tryd.f31) ⟨mat 11 [(0, a0)], [], false⟩ (leaveK cfg Tryd.f31) σ := W_entry cfg (fn := Tryd.f31) (by kernel_rfl) (by kernel_rfl) (by kernel_rfl) (by kernel_rfl) rfl rfl σ
theorem R_31 : Tryd.f31.results.toList = [] := by kernel_rfl
/-- slices.Values[[]int,int]$1 -/
theorem E_32 (a0 a1 : AV) (σ : St) : (W cfg).f 32 [a0, a1] σ = run cfg (bodyOf Tryd.f32) ⟨mat 16 [(0, a0), (1, a1)], [], false⟩ (leaveK cfg Tryd.f32) σ := W_entry cfg (fn := Tryd.f32) (by kernel_rfl) (by kernel_rfl) (by kernel_rfl) (by kernel_rfl) rfl rfl σ
theorem R_32 : Tryd.f32.results.toList = [] := by kernel_rfl
/-- math/bits.Mul -/
theorem E_33 (a0 a1 : AV) (σ : St) : (W cfg).f 33 [a0, a1] σ = run cfg (bodyOf Tryd.f33) ⟨mat 30 [(0, a0), (1, a1)], [], false⟩ (leaveK cfg Tryd.f33) σ := W_entry cfg (fn := Tryd.f33) (by kernel_rfl) (by kernel_rfl) (by kernel_rfl) (by kernel_rfl) rfl rfl σ
theorem R_33 : Tryd.f33.results.toList = [.tmp 4, .tmp 5] := by kernel_rfl
/-- pintle/entry.Fields -/
theorem E_34 (a0 : AV) (σ : St) : (W cfg).f 34 [a0] σ = run cfg (bodyOf Tryd.f34) ⟨mat 17 [(0, a0)], [], false⟩ (leaveK cfg Tryd.f34) σ := W_entry cfg (fn := Tryd.f34) (by kernel_rfl) (by kernel_rfl) (by kernel_rfl) (by kernel_rfl) rfl rfl σ
theorem R_34 : Tryd.f34.results.toList = [.tmp 2, .tmp 3] := by kernel_rfl
/-- pintle/entry.fit -/
theorem E_35 (a0 a1 : AV) (σ : St) : (W cfg).f 35 [a0, a1] σ = run cfg (bodyOf Tryd.f35) ⟨mat 9 [(0, a0), (1, a1)], [], false⟩ (leaveK cfg Tryd.f35) σ := W_entry cfg (fn := Tryd.f35) (by kernel_rfl) (by kernel_rfl) (by kernel_rfl) (by kernel_rfl) rfl rfl σ
theorem R_35 : Tryd.f35.results.toList = [.tmp 4] := by kernel_rfl
/-- pintle/entry.small -/
theorem E_36 (a0 : AV) (σ : St) : (W cfg).f 36 [a0] σ = run cfg (bodyOf Tryd.f36) ⟨mat 6 [(0, a0)], [], false⟩ (leaveK cfg Tryd.f36) σ := W_entry cfg (fn := Tryd.f36) (by kernel_rfl) (by kernel_rfl) (by kernel_rfl) (by kernel_rfl) rfl rfl σ
theorem R_36 : Tryd.f36.results.toList = [.tmp 2] := by kernel_rfl
/-- pintle/entry.node -/
theorem E_37 (a0 : AV) (σ : St) : (W cfg).f 37 [a0] σ = run cfg (bodyOf Tryd.f37) ⟨mat 9 [(0, a0)], [], false⟩ (leaveK cfg Tryd.f37) σ := W_entry cfg (fn := Tryd.f37) (by kernel_rfl) (by kernel_rfl) (by kernel_rfl) (by kernel_rfl) rfl rfl σ
theorem R_37 : Tryd.f37.results.toList = [.tmp 2] := by kernel_rfl
/-- slices.Clone[[]int,int] -/
theorem E_38 (a0 : AV) (σ : St) : (W cfg).f 38 [a0] σ = run cfg (bodyOf Tryd.f38) ⟨mat 8 [(0, a0)], [], false⟩ (leaveK cfg Tryd.f38) σ := W_entry cfg (fn := Tryd.f38) (by kernel_rfl) (by kernel_rfl) (by kernel_rfl) (by kernel_rfl) rfl rfl σ
theorem R_38 : Tryd.f38.results.toList = [.tmp 2] := by kernel_rfl
/-- slices.BinarySearch[[]int,int] -/
theorem E_39 (a0 a1 : AV) (σ : St) : (W cfg).f 39 [a0, a1] σ = run cfg (bodyOf Tryd.f39) ⟨mat 54 [(0, a0), (1, a1)], [], false⟩ (leaveK cfg Tryd.f39) σ := W_entry cfg (fn := Tryd.f39) (by kernel_rfl) (by kernel_rfl) (by kernel_rfl) (by kernel_rfl) rfl rfl σ
theorem R_39 : Tryd.f39.results.toList = [.tmp 4, .tmp 5] := by kernel_rfl
/-- slices.Insert[[]int,int] -/
theorem E_40 (a0 a1 a2 : AV) (σ : St) : (W cfg).f 40 [a0, a1, a2] σ = run cfg (bodyOf Tryd.f40) ⟨mat 95 [(0, a0), (1, a1), (2, a2)], [], false⟩ (leaveK cfg Tryd.f40) σ := W_entry cfg (fn := Tryd.f40) (by kernel_rfl) (by kernel_rfl) (by kernel_rfl) (by kernel_rfl) rfl rfl σ
theorem R_40 : Tryd.f40.results.toList = [.tmp 6] := by kernel_rfl
/-- slices.Delete[[]int,int] -/
theorem E_41 (a0 a1 a2 : AV) (σ : St) : (W cfg).f 41 [a0, a1, a2] σ = run cfg (bodyOf Tryd.f41) ⟨mat 33 [(0, a0), (1, a1), (2, a2)], [], false⟩ (leaveK cfg Tryd.f41) σ := W_entry cfg (fn := Tryd.f41) (by kernel_rfl) (by kernel_rfl) (by kernel_rfl) (by kernel_rfl) rfl rfl σ
theorem R_41 : Tryd.f41.results.toList = [.tmp 6] := by kernel_rfl
/-- slices.Index[[]int,int] -/
theorem E_42 (a0 a1 : AV) (σ : St) : (W cfg).f 42 [a0, a1] σ = run cfg (bodyOf Tryd.f42) ⟨mat 19 [(0, a0), (1, a1)], [], false⟩ (leaveK cfg Tryd.f42) σ := W_entry cfg (fn := Tryd.f42) (by kernel_rfl) (by kernel_rfl) (by kernel_rfl) (by kernel_rfl) rfl rfl σ
theorem R_42 : Tryd.f42.results.toList = [.tmp 4] := by kernel_rfl
/-- internal/strconv.Itoa -/
theorem E_43 (a0 : AV) (σ : St) : (W cfg).f 43 [a0] σ = run cfg (bodyOf Tryd.f43) ⟨mat 5 [(0, a0)], [], false⟩ (leaveK cfg Tryd.f43) σ := W_entry cfg (fn := Tryd.f43) (by kernel_rfl) (by kernel_rfl) (by kernel_rfl) (by kernel_rfl) rfl rfl σ
theorem R_43 : Tryd.f43.results.toList = [.tmp 2] := by kernel_rfl
/-- (*strings.Builder).Grow -/
theorem E_44 (a0 a1 : AV) (σ : St) : (W cfg).f 44 [a0, a1] σ = run cfg (bodyOf Tryd.f44) ⟨mat 25 [(0, a0), (1, a1)], [], false⟩ (leaveK cfg Tryd.f44) σ := W_entry cfg (fn := Tryd.f44) (by kernel_rfl) (by kernel_rfl) (by kernel_rfl) (by kernel_rfl) rfl rfl σ
theorem R_44 : Tryd.f44.results.toList = [] := by kernel_rfl
/-- (*strings.Builder).WriteString -/
theorem E_45 (a0 a1 : AV) (σ : St) : (W cfg).f 45 [a0, a1] σ = run cfg (bodyOf Tryd.f45) ⟨mat 19 [(0, a0), (1, a1)], [], false⟩ (leaveK cfg Tryd.f45) σ := W_entry cfg (fn := Tryd.f45) (by kernel_rfl) (by kernel_rfl) (by kernel_rfl) (by kernel_rfl) rfl rfl σ
theorem R_45 : Tryd.f45.results.toList = [.tmp 4, .tmp 5] := by kernel_rfl
/-- (*strings.Builder).String -/
theorem E_46 (a0 : AV) (σ : St) : (W cfg).f 46 [a0] σ = run cfg (bodyOf Tryd.f46) ⟨mat 14 [(0, a0)], [], false⟩ (leaveK cfg Tryd.f46) σ := W_entry cfg (fn := Tryd.f46) (by kernel_rfl) (by kernel_rfl) (by kernel_rfl) (by kernel_rfl) rfl rfl σ
theorem R_46 : Tryd.f46.results.toList = [.tmp 2] := by kernel_rfl
/-- slices.AppendSeq[[]int,int] -/
theorem E_47 (a0 a1 : AV) (σ : St) : (W cfg).f 47 [a0, a1] σ = run cfg (bodyOf Tryd.f47) ⟨mat 13 [(0, a0), (1, a1)], [], false⟩ (leaveK cfg Tryd.f47) σ := W_entry cfg (fn := Tryd.f47) (by kernel_rfl) (by kernel_rfl) (by kernel_rfl) (by kernel_rfl) rfl rfl σ
theorem R_47 : Tryd.f47.results.toList = [.tmp 4] := by kernel_rfl
/-- slices.pdqsortOrdered[int] -/
theorem E_48 (a0 a1 a2 a3 : AV) (σ : St) : (W cfg).f 48 [a0, a1, a2, a3] σ = run cfg (bodyOf Tryd.f48) ⟨mat 134 [(0, a0), (1, a1), (2, a2), (3, a3)], [], false⟩ (leaveK cfg Tryd.f48) σ := W_entry cfg (fn := Tryd.f48) (by kernel_rfl) (by kernel_rfl) (by kernel_rfl) (by kernel_rfl) rfl rfl σ
theorem R_48 : Tryd.f48.results.toList = [] := by kernel_rfl
/-- math/bits.Len -/
theorem E_49 (a0 : AV) (σ : St) : (W cfg).f 49 [a0] σ = run cfg (bodyOf Tryd.f49) ⟨mat 8 [(0, a0)], [], false⟩ (leaveK cfg Tryd.f49) σ := W_entry cfg (fn := Tryd.f49) (by kernel_rfl) (by kernel_rfl) (by kernel_rfl) (by kernel_rfl) rfl rfl σ
theorem R_49 : Tryd.f49.results.toList = [.tmp 2] := by kernel_rfl
/-- math/bits.Mul32 -/
theorem E_50 (a0 a1 : AV) (σ : St) : (W cfg).f 50 [a0, a1] σ = run cfg (bodyOf Tryd.f50) ⟨mat 17 [(0, a0), (1, a1)], [], false⟩ (leaveK cfg Tryd.f50) σ := W_entry cfg (fn := Tryd.f50) (by kernel_rfl) (by kernel_rfl) (by kernel_rfl) (by kernel_rfl) rfl rfl σ
theorem R_50 : Tryd.f50.results.toList = [.tmp 4, .tmp 5] := by kernel_rfl
/-- math/bits.Mul64 -/
theorem E_51 (a0 a1 : AV) (σ : St) : (W cfg).f 51 [a0, a1] σ = run cfg (bodyOf Tryd.f51) ⟨mat 51 [(0, a0), (1, a1)], [], false⟩ (leaveK cfg Tryd.f51) σ := W_entry cfg (fn := Tryd.f51) (by kernel_rfl) (by kernel_rfl) (by kernel_rfl) (by kernel_rfl) rfl rfl σ
theorem R_51 : Tryd.f51.results.toList = [.tmp 4, .tmp 5] := by kernel_rfl
/-- slices.ContainsFunc[[]pintle/entry.field,pintle/entry.field] -/
theorem E_52 (a0 a1 : AV) (σ : St) : (W cfg).f 52 [a0, a1] σ = run cfg (bodyOf Tryd.f52) ⟨mat 9 [(0, a0), (1, a1)], [], false⟩ (leaveK cfg Tryd.f52) σ := W_entry cfg (fn := Tryd.f52) (by kernel_rfl) (by kernel_rfl) (by kernel_rfl) (by kernel_rfl) rfl rfl σ
theorem R_52 : Tryd.f52.results.toList = [.tmp 4] := by kernel_rfl
/-- pintle/entry.fit$1 -/
theorem E_53 (a0 a1 : AV) (σ : St) : (W cfg).f 53 [a0, a1] σ = run cfg (bodyOf Tryd.f53) ⟨mat 13 [(0, a0), (1, a1)], [], false⟩ (leaveK cfg Tryd.f53) σ := W_entry cfg (fn := Tryd.f53) (by kernel_rfl) (by kernel_rfl) (by kernel_rfl) (by kernel_rfl) rfl rfl σ
theorem R_53 : Tryd.f53.results.toList = [.tmp 3] := by kernel_rfl
/-- strings.Contains -/
theorem E_54 (a0 a1 : AV) (σ : St) : (W cfg).f 54 [a0, a1] σ = run cfg (bodyOf Tryd.f54) ⟨mat 9 [(0, a0), (1, a1)], [], false⟩ (leaveK cfg Tryd.f54) σ := W_entry cfg (fn := Tryd.f54) (by kernel_rfl) (by kernel_rfl) (by kernel_rfl) (by kernel_rfl) rfl rfl σ
theorem R_54 : Tryd.f54.results.toList = [.tmp 4] := by kernel_rfl
/-- cmp.Less[int] -/
theorem E_55 (a0 a1 : AV) (σ : St) : (W cfg).f 55 [a0, a1] σ = run cfg (bodyOf Tryd.f55) ⟨mat 17 [(0, a0), (1, a1)], [], false⟩ (leaveK cfg Tryd.f55) σ := W_entry cfg (fn := Tryd.f55) (by kernel_rfl) (by kernel_rfl) (by kernel_rfl) (by kernel_rfl) rfl rfl σ
theorem R_55 : Tryd.f55.results.toList = [.tmp 4] := by kernel_rfl
/-- slices.isNaN[int] -/
theorem E_56 (a0 : AV) (σ : St) : (W cfg).f 56 [a0] σ = run cfg (bodyOf Tryd.f56) ⟨mat 6 [(0, a0)], [], false⟩ (leaveK cfg Tryd.f56) σ := W_entry cfg (fn := Tryd.f56) (by kernel_rfl) (by kernel_rfl) (by kernel_rfl) (by kernel_rfl) rfl rfl σ
theorem R_56 : Tryd.f56.results.toList = [.tmp 2] := by kernel_rfl
/-- slices.rotateRight[int] -/
theorem E_58 (a0 a1 : AV) (σ : St) : (W cfg).f 58 [a0, a1] σ = run cfg (bodyOf Tryd.f58) ⟨mat 10 [(0, a0), (1, a1)], [], false⟩ (leaveK cfg Tryd.f58) σ := W_entry cfg (fn := Tryd.f58) (by kernel_rfl) (by kernel_rfl) (by kernel_rfl) (by kernel_rfl) rfl rfl σ
theorem R_58 : Tryd.f58.results.toList = [] := by kernel_rfl
/-- internal/strconv.FormatInt -/
theorem E_59 (a0 a1 : AV) (σ : St) : (W cfg).f 59 [a0, a1] σ = run cfg (bodyOf Tryd.f59) ⟨mat 54 [(0, a0), (1, a1)], [], false⟩ (leaveK cfg Tryd.f59) σ := W_entry cfg (fn := Tryd.f59) (by kernel_rfl) (by kernel_rfl) (by kernel_rfl) (by kernel_rfl) rfl rfl σ
theorem R_59 : Tryd.f59.results.toList = [.tmp 4] := by kernel_rfl
/-- (*strings.Builder).copyCheck -/
theorem E_60 (a0 : AV) (σ : St) : (W cfg).f 60 [a0] σ = run cfg (bodyOf Tryd.f60) ⟨mat 20 [(0, a0)], [], false⟩ (leaveK cfg Tryd.f60) σ := W_entry cfg (fn := Tryd.f60) (by kernel_rfl) (by kernel_rfl) (by kernel_rfl) (by kernel_rfl) rfl rfl σ
theorem R_60 : Tryd.f60.results.toList = [] := by kernel_rfl
/-- (*strings.Builder).grow -/
theorem E_61 (a0 a1 : AV) (σ : St) : (W cfg).f 61 [a0, a1] σ = run cfg (bodyOf Tryd.f61) ⟨mat 30 [(0, a0), (1, a1)], [], false⟩ (leaveK cfg Tryd.f61) σ := W_entry cfg (fn := Tryd.f61) (by kernel_rfl) (by kernel_rfl) (by kernel_rfl) (by kernel_rfl) rfl rfl σ
theorem R_61 : Tryd.f61.results.toList = [] := by kernel_rfl
/-- slices.insertionSortOrdered[int] -/
theorem E_62 (a0 a1 a2 : AV) (σ : St) : (W cfg).f 62 [a0, a1, a2] σ = run cfg (bodyOf Tryd.f62) ⟨mat 49 [(0, a0), (1, a1), (2, a2)], [], false⟩ (leaveK cfg Tryd.f62) σ := W_entry cfg (fn := Tryd.f62) (by kernel_rfl) (by kernel_rfl) (by kernel_rfl) (by kernel_rfl) rfl rfl σ
theorem R_62 : Tryd.f62.results.toList = [] := by kernel_rfl
/-- slices.heapSortOrdered[int] -/
theorem E_63 (a0 a1 a2 : AV) (σ : St) : (W cfg).f 63 [a0, a1, a2] σ = run cfg (bodyOf Tryd.f63) ⟨mat 56 [(0, a0), (1, a1), (2, a2)], [], false⟩ (leaveK cfg Tryd.f63) σ := W_entry cfg (fn := Tryd.f63) (by kernel_rfl) (by kernel_rfl) (by kernel_rfl) (by kernel_rfl) rfl rfl σ
theorem R_63 : Tryd.f63.results.toList = [] := by kernel_rfl
/-- slices.breakPatternsOrdered[int] -/
theorem E_64 (a0 a1 a2 : AV) (σ : St) : (W cfg).f 64 [a0, a1, a2] σ = run cfg (bodyOf Tryd.f64) ⟨mat 65 [(0, a0), (1, a1), (2, a2)], [], false⟩ (leaveK cfg Tryd.f64) σ := W_entry cfg (fn := Tryd.f64) (by kernel_rfl) (by kernel_rfl) (by kernel_rfl) (by kernel_rfl) rfl rfl σ
theorem R_64 : Tryd.f64.results.toList = [] := by kernel_rfl
/-- slices.choosePivotOrdered[int] -/
theorem E_65 (a0 a1 a2 : AV) (σ : St) : (W cfg).f 65 [a0, a1, a2] σ = run cfg (bodyOf Tryd.f65) ⟨mat 57 [(0, a0), (1, a1), (2, a2)], [], false⟩ (leaveK cfg Tryd.f65) σ := W_entry cfg (fn := Tryd.f65) (by kernel_rfl) (by kernel_rfl) (by kernel_rfl) (by kernel_rfl) rfl rfl σ
theorem R_65 : Tryd.f65.results.toList = [.tmp 6, .tmp 7] := by kernel_rfl
/-- slices.reverseRangeOrdered[int] -/
theorem E_66 (a0 a1 a2 : AV) (σ : St) : (W cfg).f 66 [a0, a1, a2] σ = run cfg (bodyOf Tryd.f66) ⟨mat 32 [(0, a0), (1, a1), (2, a2)], [], false⟩ (leaveK cfg Tryd.f66) σ := W_entry cfg (fn := Tryd.f66) (by kernel_rfl) (by kernel_rfl) (by kernel_rfl) (by kernel_rfl) rfl rfl σ
theorem R_66 : Tryd.f66.results.toList = [] := by kernel_rfl
/-- slices.partialInsertionSortOrdered[int] -/
theorem E_67 (a0 a1 a2 : AV) (σ : St) : (W cfg).f 67 [a0, a1, a2] σ = run cfg (bodyOf Tryd.f67) ⟨mat 133 [(0, a0), (1, a1), (2, a2)], [], false⟩ (leaveK cfg Tryd.f67) σ := W_entry cfg (fn := Tryd.f67) (by kernel_rfl) (by kernel_rfl) (by kernel_rfl) (by kernel_rfl) rfl rfl σ
theorem R_67 : Tryd.f67.results.toList = [.tmp 6] := by kernel_rfl
/-- slices.partitionEqualOrdered[int] -/
theorem E_68 (a0 a1 a2 a3 : AV) (σ : St) : (W cfg).f 68 [a0, a1, a2, a3] σ = run cfg (bodyOf Tryd.f68) ⟨mat 84 [(0, a0), (1, a1), (2, a2), (3, a3)], [], false⟩ (leaveK cfg Tryd.f68) σ := W_entry cfg (fn := Tryd.f68) (by kernel_rfl) (by kernel_rfl) (by kernel_rfl) (by kernel_rfl) rfl rfl σ
theorem R_68 : Tryd.f68.results.toList = [.tmp 8] := by kernel_rfl
/-- slices.partitionOrdered[int] -/
theorem E_69 (a0 a1 a2 a3 : AV) (σ : St) : (W cfg).f 69 [a0, a1, a2, a3] σ = run cfg (bodyOf Tryd.f69) ⟨mat 168 [(0, a0), (1, a1), (2, a2), (3, a3)], [], false⟩ (leaveK cfg Tryd.f69) σ := W_entry cfg (fn := Tryd.f69) (by kernel_rfl) (by kernel_rfl) (by kernel_rfl) (by kernel_rfl) rfl rfl σ
theorem R_69 : Tryd.f69.results.toList = [.tmp 8, .tmp 9] := by kernel_rfl
/-- math/bits.Len32 -/
theorem E_70 (a0 : AV) (σ : St) : (W cfg).f 70 [a0] σ = run cfg (bodyOf Tryd.f70) ⟨mat 19 [(0, a0)], [], false⟩ (leaveK cfg Tryd.f70) σ := W_entry cfg (fn := Tryd.f70) (by kernel_rfl) (by kernel_rfl) (by kernel_rfl) (by kernel_rfl) rfl rfl σ
theorem R_70 : Tryd.f70.results.toList = [.tmp 2] := by kernel_rfl
/-- math/bits.Len64 -/
theorem E_71 (a0 : AV) (σ : St) : (W cfg).f 71 [a0] σ = run cfg (bodyOf Tryd.f71) ⟨mat 25 [(0, a0)], [], false⟩ (leaveK cfg Tryd.f71) σ := W_entry cfg (fn := Tryd.f71) (by kernel_rfl) (by kernel_rfl) (by kernel_rfl) (by kernel_rfl) rfl rfl σ
theorem R_71 : Tryd.f71.results.toList = [.tmp 2] := by kernel_rfl
/-- slices.IndexFunc[[]pintle/entry.field,pintle/entry.field] -/
theorem E_72 (a0 a1 : AV) (σ : St) : (W cfg).f 72 [a0, a1] σ = run cfg (bodyOf Tryd.f72) ⟨mat 19 [(0, a0), (1, a1)], [], false⟩ (leaveK cfg Tryd.f72) σ := W_entry cfg (fn := Tryd.f72) (by kernel_rfl) (by kernel_rfl) (by kernel_rfl) (by kernel_rfl) rfl rfl σ
theorem R_72 : Tryd.f72.results.toList = [.tmp 4] := by kernel_rfl
/-- strings.Index -/
theorem E_73 (a0 a1 : AV) (σ : St) : (W cfg).f 73 [a0, a1] σ = run cfg (bodyOf Tryd.f73) ⟨mat 8 [(0, a0), (1, a1)], [], false⟩ (leaveK cfg Tryd.f73) σ := W_entry cfg (fn := Tryd.f73) (by kernel_rfl) (by kernel_rfl) (by kernel_rfl) (by kernel_rfl) rfl rfl σ
theorem R_73 : Tryd.f73.results.toList = [.tmp 4] := by kernel_rfl
/-- cmp.isNaN[int] -/
theorem E_74 (a0 : AV) (σ : St) : (W cfg).f 74 [a0] σ = run cfg (bodyOf Tryd.f74) ⟨mat 6 [(0, a0)], [], false⟩ (leaveK cfg Tryd.f74) σ := W_entry cfg (fn := Tryd.f74) (by kernel_rfl) (by kernel_rfl) (by kernel_rfl) (by kernel_rfl) rfl rfl σ
theorem R_74 : Tryd.f74.results.toList = [.tmp 2] := by kernel_rfl
/-- slices.rotateLeft[int] -/
theorem E_75 (a0 a1 : AV) (σ : St) : (W cfg).f 75 [a0, a1] σ = run cfg (bodyOf Tryd.f75) ⟨mat 14 [(0, a0), (1, a1)], [], false⟩ (leaveK cfg Tryd.f75) σ := W_entry cfg (fn := Tryd.f75) (by kernel_rfl) (by kernel_rfl) (by kernel_rfl) (by kernel_rfl) rfl rfl σ
theorem R_75 : Tryd.f75.results.toList = [] := by kernel_rfl
/-- internal/strconv.small -/
theorem E_76 (a0 : AV) (σ : St) : (W cfg).f 76 [a0] σ = run cfg (bodyOf Tryd.f76) ⟨mat 15 [(0, a0)], [], false⟩ (leaveK cfg Tryd.f76) σ := W_entry cfg (fn := Tryd.f76) (by kernel_rfl) (by kernel_rfl) (by kernel_rfl) (by kernel_rfl) rfl rfl σ
theorem R_76 : Tryd.f76.results.toList = [.tmp 2] := by kernel_rfl
/-- internal/strconv.numDigits -/
theorem E_77 (a0 : AV) (σ : St) : (W cfg).f 77 [a0] σ = run cfg (bodyOf Tryd.f77) ⟨mat 15 [(0, a0)], [], false⟩ (leaveK cfg Tryd.f77) σ := W_entry cfg (fn := Tryd.f77) (by kernel_rfl) (by kernel_rfl) (by kernel_rfl) (by kernel_rfl) rfl rfl σ
theorem R_77 : Tryd.f77.results.toList = [.tmp 2] := by kernel_rfl
/-- internal/strconv.formatBase10 -/
theorem E_78 (a0 a1 : AV) (σ : St) : (W cfg).f 78 [a0, a1] σ = run cfg (bodyOf Tryd.f78) ⟨mat 167 [(0, a0), (1, a1)], [], false⟩ (leaveK cfg Tryd.f78) σ := W_entry cfg (fn := Tryd.f78) (by kernel_rfl) (by kernel_rfl) (by kernel_rfl) (by kernel_rfl) rfl rfl σ
theorem R_78 : Tryd.f78.results.toList = [] := by kernel_rfl
/-- internal/strconv.formatBits -/
theorem E_79 (a0 a1 a2 a3 a4 : AV) (σ : St) : (W cfg).f 79 [a0, a1, a2, a3, a4] σ = run cfg (bodyOf Tryd.f79) ⟨mat 102 [(0, a0), (1, a1), (2, a2), (3, a3), (4, a4)], [], false⟩ (leaveK cfg Tryd.f79) σ := W_entry cfg (fn := Tryd.f79) (by kernel_rfl) (by kernel_rfl) (by kernel_rfl) (by kernel_rfl) rfl rfl σ
theorem R_79 : Tryd.f79.results.toList = [.tmp 10, .tmp 11] := by kernel_rfl
/-- slices.siftDownOrdered[int] -/
theorem E_82 (a0 a1 a2 a3 : AV) (σ : St) : (W cfg).f 82 [a0, a1, a2, a3] σ = run cfg (bodyOf Tryd.f82) ⟨mat 76 [(0, a0), (1, a1), (2, a2), (3, a3)], [], false⟩ (leaveK cfg Tryd.f82) σ := W_entry cfg (fn := Tryd.f82) (by kernel_rfl) (by kernel_rfl) (by kernel_rfl) (by kernel_rfl) rfl rfl σ
theorem R_82 : Tryd.f82.results.toList = [] := by kernel_rfl
/-- slices.nextPowerOfTwo -/
theorem E_83 (a0 : AV) (σ : St) : (W cfg).f 83 [a0] σ = run cfg (bodyOf Tryd.f83) ⟨mat 7 [(0, a0)], [], false⟩ (leaveK cfg Tryd.f83) σ := W_entry cfg (fn := Tryd.f83) (by kernel_rfl) (by kernel_rfl) (by kernel_rfl) (by kernel_rfl) rfl rfl σ
theorem R_83 : Tryd.f83.results.toList = [.tmp 2] := by kernel_rfl
/-- (*slices.xorshift).Next -/
theorem E_84 (a0 : AV) (σ : St) : (W cfg).f 84 [a0] σ = run cfg (bodyOf Tryd.f84) ⟨mat 33 [(0, a0)], [], false⟩ (leaveK cfg Tryd.f84) σ := W_entry cfg (fn := Tryd.f84) (by kernel_rfl) (by kernel_rfl) (by kernel_rfl) (by kernel_rfl) rfl rfl σ
theorem R_84 : Tryd.f84.results.toList = [.tmp 2] := by kernel_rfl
/-- slices.medianAdjacentOrdered[int] -/
theorem E_85 (a0 a1 a2 : AV) (σ : St) : (W cfg).f 85 [a0, a1, a2] σ = run cfg (bodyOf Tryd.f85) ⟨mat 15 [(0, a0), (1, a1), (2, a2)], [], false⟩ (leaveK cfg Tryd.f85) σ := W_entry cfg (fn := Tryd.f85) (by kernel_rfl) (by kernel_rfl) (by kernel_rfl) (by kernel_rfl) rfl rfl σ
theorem R_85 : Tryd.f85.results.toList = [.tmp 6] := by kernel_rfl
/-- slices.medianOrdered[int] -/
theorem E_86 (a0 a1 a2 a3 a4 : AV) (σ : St) : (W cfg).f 86 [a0, a1, a2, a3, a4] σ = run cfg (bodyOf Tryd.f86) ⟨mat 36 [(0, a0), (1, a1), (2, a2), (3, a3), (4, a4)], [], false⟩ (leaveK cfg Tryd.f86) σ := W_entry cfg (fn := Tryd.f86) (by kernel_rfl) (by kernel_rfl) (by kernel_rfl) (by kernel_rfl) rfl rfl σ
theorem R_86 : Tryd.f86.results.toList = [.tmp 10] := by kernel_rfl
/-- internal/stringslite.Index -/
theorem E_87 (a0 a1 : AV) (σ : St) : (W cfg).f 87 [a0, a1] σ = run cfg (bodyOf Tryd.f87) ⟨mat 143 [(0, a0), (1, a1)], [], false⟩ (leaveK cfg Tryd.f87) σ := W_entry cfg (fn := Tryd.f87) (by kernel_rfl) (by kernel_rfl) (by kernel_rfl) (by kernel_rfl) rfl rfl σ
theorem R_87 : Tryd.f87.results.toList = [.tmp 4] := by kernel_rfl
/-- slices.Reverse[[]int,int] -/
theorem E_88 (a0 : AV) (σ : St) : (W cfg).f 88 [a0] σ = run cfg (bodyOf Tryd.f88) ⟨mat 28 [(0, a0)], [], false⟩ (leaveK cfg Tryd.f88) σ := W_entry cfg (fn := Tryd.f88) (by kernel_rfl) (by kernel_rfl) (by kernel_rfl) (by kernel_rfl) rfl rfl σ
theorem R_88 : Tryd.f88.results.toList = [] := by kernel_rfl
/-- internal/strconv.log10Pow2 -/
theorem E_89 (a0 : AV) (σ : St) : (W cfg).f 89 [a0] σ = run cfg (bodyOf Tryd.f89) ⟨mat 6 [(0, a0)], [], false⟩ (leaveK cfg Tryd.f89) σ := W_entry cfg (fn := Tryd.f89) (by kernel_rfl) (by kernel_rfl) (by kernel_rfl) (by kernel_rfl) rfl rfl σ
theorem R_89 : Tryd.f89.results.toList = [.tmp 2] := by kernel_rfl
/-- internal/strconv.bool2[int] -/
theorem E_90 (a0 : AV) (σ : St) : (W cfg).f 90 [a0] σ = run cfg (bodyOf Tryd.f90) ⟨mat 4 [(0, a0)], [], false⟩ (leaveK cfg Tryd.f90) σ := W_entry cfg (fn := Tryd.f90) (by kernel_rfl) (by kernel_rfl) (by kernel_rfl) (by kernel_rfl) rfl rfl σ
theorem R_90 : Tryd.f90.results.toList = [.tmp 2] := by kernel_rfl
/-- internal/strconv.isPowerOfTwo -/
theorem E_91 (a0 : AV) (σ : St) : (W cfg).f 91 [a0] σ = run cfg (bodyOf Tryd.f91) ⟨mat 8 [(0, a0)], [], false⟩ (leaveK cfg Tryd.f91) σ := W_entry cfg (fn := Tryd.f91) (by kernel_rfl) (by kernel_rfl) (by kernel_rfl) (by kernel_rfl) rfl rfl σ
theorem R_91 : Tryd.f91.results.toList = [.tmp 2] := by kernel_rfl
/-- math/bits.TrailingZeros -/
theorem E_92 (a0 : AV) (σ : St) : (W cfg).f 92 [a0] σ = run cfg (bodyOf Tryd.f92) ⟨mat 8 [(0, a0)], [], false⟩ (leaveK cfg Tryd.f92) σ := W_entry cfg (fn := Tryd.f92) (by kernel_rfl) (by kernel_rfl) (by kernel_rfl) (by kernel_rfl) rfl rfl σ
theorem R_92 : Tryd.f92.results.toList = [.tmp 2] := by kernel_rfl
/-- slices.order2Ordered[int] -/
theorem E_93 (a0 a1 a2 a3 : AV) (σ : St) : (W cfg).f 93 [a0, a1, a2, a3] σ = run cfg (bodyOf Tryd.f93) ⟨mat 28 [(0, a0), (1, a1), (2, a2), (3, a3)], [], false⟩ (leaveK cfg Tryd.f93) σ := W_entry cfg (fn := Tryd.f93) (by kernel_rfl) (by kernel_rfl) (by kernel_rfl) (by kernel_rfl) rfl rfl σ
theorem R_93 : Tryd.f93.results.toList = [.tmp 8, .tmp 9] := by kernel_rfl
/-- internal/stringslite.IndexByte -/
theorem E_94 (a0 a1 : AV) (σ : St) : (W cfg).f 94 [a0, a1] σ = run cfg (bodyOf Tryd.f94) ⟨mat 8 [(0, a0), (1, a1)], [], false⟩ (leaveK cfg Tryd.f94) σ := W_entry cfg (fn := Tryd.f94) (by kernel_rfl) (by kernel_rfl) (by kernel_rfl) (by kernel_rfl) rfl rfl σ
theorem R_94 : Tryd.f94.results.toList = [.tmp 4] := by kernel_rfl
/-- internal/bytealg.Cutover -/
theorem E_96 (a0 : AV) (σ : St) : (W cfg).f 96 [a0] σ = run cfg (bodyOf Tryd.f96) ⟨mat 6 [(0, a0)], [], false⟩ (leaveK cfg Tryd.f96) σ := W_entry cfg (fn := Tryd.f96) (by kernel_rfl) (by kernel_rfl) (by kernel_rfl) (by kernel_rfl) rfl rfl σ
theorem R_96 : Tryd.f96.results.toList = [.tmp 2] := by kernel_rfl
/-- internal/bytealg.IndexRabinKarp[string] -/
theorem E_97 (a0 a1 : AV) (σ : St) : (W cfg).f 97 [a0, a1] σ = run cfg (bodyOf Tryd.f97) ⟨mat 81 [(0, a0), (1, a1)], [], false⟩ (leaveK cfg Tryd.f97) σ := W_entry cfg (fn := Tryd.f97) (by kernel_rfl) (by kernel_rfl) (by kernel_rfl) (by kernel_rfl) rfl rfl σ
theorem R_97 : Tryd.f97.results.toList = [.tmp 4] := by kernel_rfl
/-- math/bits.TrailingZeros32 -/
theorem E_98 (a0 : AV) (σ : St) : (W cfg).f 98 [a0] σ = run cfg (bodyOf Tryd.f98) ⟨mat 14 [(0, a0)], [], false⟩ (leaveK cfg Tryd.f98) σ := W_entry cfg (fn := Tryd.f98) (by kernel_rfl) (by kernel_rfl) (by kernel_rfl) (by kernel_rfl) rfl rfl σ
theorem R_98 : Tryd.f98.results.toList = [.tmp 2] := by kernel_rfl
/-- math/bits.TrailingZeros64 -/
theorem E_99 (a0 : AV) (σ : St) : (W cfg).f 99 [a0] σ = run cfg (bodyOf Tryd.f99) ⟨mat 14 [(0, a0)], [], false⟩ (leaveK cfg Tryd.f99) σ := W_entry cfg (fn := Tryd.f99) (by kernel_rfl) (by kernel_rfl) (by kernel_rfl) (by kernel_rfl) rfl rfl σ
theorem R_99 : Tryd.f99.results.toList = [.tmp 2] := by kernel_rfl
/-- internal/bytealg.hashStr[string] -/
theorem E_101 (a0 : AV) (σ : St) : (W cfg).f 101 [a0] σ = run cfg (bodyOf Tryd.f101) ⟨mat 39 [(0, a0)], [], false⟩ (leaveK cfg Tryd.f101) σ := W_entry cfg (fn := Tryd.f101) (by kernel_rfl) (by kernel_rfl) (by kernel_rfl) (by kernel_rfl) rfl rfl σ
theorem R_101 : Tryd.f101.results.toList = [.tmp 2, .tmp 3] := by kernel_rfl
/-- gosem.cut.vars -/
theorem E_124 (σ : St) : (W cfg).f 124 [] σ = run cfg (bodyOf Tryd.f124) ⟨mat 3 [], [], false⟩ (leaveK cfg Tryd.f124) σ := W_entry cfg (fn := Tryd.f124) (by kernel_rfl) (by kernel_rfl) (by kernel_rfl) (by kernel_rfl) rfl rfl σ
theorem R_124 : Tryd.f124.results.toList = [] := by kernel_rfl
attribute [go_sem] ld_3 ld_4 ld_5 ld_9 ld_23 ld_25 ld_29 ld_31 ld_68 ld_75 ld_76 ld_121
attribute [go_sem] st_3 st_4 st_5 st_23 st_25 st_31 st_75 st_76 st_121 st_129 st_136 st_137
attribute [go_sem] fa_25_0 fa_25_1 fa_25_2 fa_25_3 fa_31_0 fa_31_1 fa_31_2 fa_31_3 fa_31_4 fa_31_5 fa_31_6 fa_31_7
attribute [go_sem] fa_31_8 fa_31_9 fa_31_10 fa_68_0 fa_68_1 fa_68_2 fa_78_0 fa_78_1 al_3 al_25 al_31 al_78
attribute [go_sem] al_114 al_121 al_130 bu_25 pl_25_0 pl_25_1 pl_25_2 pl_25_3 bu_31 pl_31_0 pl_31_1 pl_31_2
attribute [go_sem] pl_31_3 pl_31_4 pl_31_5 pl_31_6 pl_31_7 pl_31_8 pl_31_9 pl_31_10 bu_68 pl_68_0 pl_68_1 pl_68_2
attribute [go_sem] bs_23_0 bs_23_1 bs_23_3 bs_56_1 bs_94_7 la_3 la_25 la_31 la_78 la_114 la_121 la_130
attribute [go_sem] sc_23_0 sc_23_1 sc_23_3 sc_56_1 sc_94_7 cv_2_29 cv_3_29 cv_3_61 cv_3_121 cv_5_3 cv_5_88 cv_29_5
attribute [go_sem] cv_29_88 cv_61_3 cv_61_88 cv_88_5 cv_88_29 cv_88_61 eb_4 en_23 mu_52 mu_93 ln_9 ln_23
attribute [go_sem] ln_56 ln_76 ln_94 ia_23 ia_56 ia_76 ia_94 R_2 R_3 R_4 R_5 R_6
attribute [go_sem] R_7 R_8 R_9 R_10 R_11 R_12 R_13 R_14 R_15 R_16 R_17 R_18
attribute [go_sem] R_19 R_20 R_21 R_22 R_23 R_24 R_25 R_26 R_27 R_28 R_29 R_30
attribute [go_sem] R_31 R_32 R_33 R_34 R_35 R_36 R_37 R_38 R_39 R_40 R_41 R_42
attribute [go_sem] R_43 R_44 R_45 R_46 R_47 R_48 R_49 R_50 R_51 R_52 R_53 R_54
attribute [go_sem] R_55 R_56 R_58 R_59 R_60 R_61 R_62 R_63 R_64 R_65 R_66 R_67
attribute [go_sem] R_68 R_69 R_70 R_71 R_72 R_73 R_74 R_75 R_76 R_77 R_78 R_79
attribute [go_sem] R_82 R_83 R_84 R_85 R_86 R_87 R_88 R_89 R_90 R_91 R_92 R_93
attribute [go_sem] R_94 R_96 R_97 R_98 R_99 R_101 R_124
end
end R14
