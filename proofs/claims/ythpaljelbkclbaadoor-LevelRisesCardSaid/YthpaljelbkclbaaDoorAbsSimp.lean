/-
  THE REWRITING LAWS AS ONE SET ('go_sem').
-/
import Derived.Test.YthpaljelbkclbaaDoorAbsDrw
namespace Go.Abs
open Go
attribute [go_sem ↓] run_skip run_ret run_exit run_label run_seq run_block run_cond run_cond_true run_cond_false run_region runO_nil runO_app runO_app0 runO_plain runO_bare runO_guard runO_guardB
attribute [go_sem ↓] thenK_normal thenK_ret thenK_exit blockK_normal blockK_ret blockK_exit leaveK_ret leaveK_normal aResults_mat
attribute [go_sem ↓] opR_move opR_assign opR_pick opR_alloc opR_box opR_build opR_buildSlice opR_load opR_store opR_nilCheck opR_binOp opR_unOp opR_convert opR_makeFunc opR_makeMap opR_makeMap1 opR_makeSlice
  opR_slice opR_slice3 opR_fieldAddr opR_field opR_indexAddr opR_index opR_callV opR_callB opR_lookup opR_mapUpdate opR_insert opR_extract
attribute [go_sem ↓] runD_nil runD_app runD_app0 runD_plain runD_bare runD_guard runD_guardB afterD_some afterD_none put_some put_none
attribute [go_sem] clsK_0 clsK_1 clsK_3 chkK_true newK_some newK_none newEnt_nil newEnt_cons sameD_none sameD_some layIs_layB layB_some slC_some evP_some layOf_bs laidC_some putL_mat putL_none qvO_some quietV_q quietV_loud newVal_none newVal_some
  cls_move cls_assign cls_pick cls_alloc cls_box cls_build cls_buildSlice cls_load cls_store cls_nilCheck cls_binOp cls_unOp cls_convert cls_makeFunc cls_makeMap cls_makeSlice cls_slice cls_fieldAddr cls_field cls_indexAddr
  cls_index cls_lookup cls_mapUpdate cls_insert cls_extract cls_callV cls_len cls_cap cls_min cls_max cls_append cls_copy cls_clear
  beq_self readEarly_nil readEarly_anc readEarly_chk readLate_nil readLate_anc readLate_chk allLoudIn_nil allLoudIn_cons allFresh_nil allFresh_cons stC_some stillIs_load stillIs_lookup stillIs_convert stillIs_slice stillIs_len
  sOne_int sOne_bool sOne_str sOne_ptr sOne_sl sOne_map sOne_yield sAV_int sAV_bool sAV_str sAV_ptr sAV_sl sAV_map sAV_agg sAV_tuple sAV_nilPtr sAV_nilMap sAV_nilFunc sOnes_nil sOnes_cons isFresh_frO frO_cells
  Bool.true_and Bool.and_true Bool.and_self
attribute [go_sem ↓] ev1_def
attribute [go_sem] bnd_some bnd_none condV_true condV_false gd_true gd_false dstAt_zero dstAt_succ dstAt_app dstAt_app0 List.toList_toArray isB_true isB_false isB_undef yes_some evT_tmp evT_int evT_bool evT_str evT_nilPtr evT_nilSlice evT_nilMap evT_nilFunc evT_nilIface evT_agg evT_func
  ofVals_nil ofVals_cons ofVal1_int ofVal1_bool ofVal1_str ofVal1_nilSlice ofVal1_nilPtr ofVal1_nilMap ofVal1_nilFunc ofVal1_nilIface evs_nil evs_cons evParts_nil evParts_cons optEv_none optEv_some' withSt_some withUndef_some
  lk_cons lk_nil callV_fn resVars_nil resVars_cons resVar_tmp resVar_cell tup_nil tup_one tup_two
  aBin_add aBin_sub aBin_mul aBin_and aBin_or aBin_xor aBin_andNot aBin_quo aBin_rem aBin_eql aBin_neq aBin_lss aBin_leq aBin_gtr aBin_geq aUn_neg aUn_not aUn_xor aBin_addS aBin_eqlS aBin_neqS
  ld1_some ldN_some load1_ld1 loadN_ldN aggO_some stN_some splice_S splice_0 splice_nil
  one_int one_bool one_str one_nilPtr one_ptr one_nilSlice one_slice one_nilMap one_map one_nilFunc one_fn one_yield one_nilIface
  oNew_one oNew_agg newMap_eq oNilCheck_ptr oNilCheck_fn oNilCheck_yield oExtract_eq
  slen_slice slen_nil isSl_slice isSl_nil St.next_push St.next_set
  St.get_push_eq St.get_push_ne St.get_set_eq St.get_set_ne cellsOf_push_eq cellsOf_push_ne cellsOf_set_eq cellsOf_set_ne St.set_set St.set_push St.set_push_lt
attribute [go_sem] List.getElem?_cons_zero List.getElem?_cons_succ List.drop_succ_cons List.take_succ_cons List.drop_zero List.take_zero List.length_cons List.length_nil List.cons_append List.nil_append List.append_nil
  Nat.zero_add Nat.add_zero decide_true decide_false Bool.not_true Bool.not_false eq_self Bool.true_eq_false Bool.false_eq_true cond_true cond_false ite_true ite_false beq_self_eq_true
end Go.Abs
