/- Part of a proof: the law PlansMade gives true for every list of integers and leaves its argument as it was; there are no conditions beyond those that the given row states. -/
import Derived.Test.YtcalcoakjagklaaDoorWp
import Derived.Test.YtcalcoakjagklaaDoorProg
import Derived.KernelRfl
import Derived.Test.YtcalcoakjagklaaDoorSa
import Derived.Shelf.Strings.SlTrimAscii
import Derived.Shelf.Small.Strs
import Derived.Shelf.Strings.Search3
set_option linter.unusedVariables false
set_option linter.unusedSimpArgs false
/-! The functions of this program are those of AWp. -/
namespace Go.Eng
open Go Go.Proofs

noncomputable def cfg : Cfg := {
  P := Tryd.prog
  f_bllaw1_PlansMade := 3
  f_bllaw1_farmed := 17
  f_blmake_Below := 50
  f_blref1_ChangeFault := 10
  f_blref1_EarliestOf := 13
  f_blref1_EarliestOf_1 := 32
  f_blref1_EarliestOf_1_1 := 40
  f_blref1_EndsBy := 33
  f_blref1_FarmFault := 9
  f_blref1_GreedyOf := 14
  f_blref1_JobsFault := 26
  f_blref1_Key := 51
  f_blref1_LateBy := 48
  f_blref1_LeastLateOf := 19
  f_blref1_LeastLateOf_1 := 47
  f_blref1_PrintersFault := 25
  f_blref1_SpanFault := 27
  f_blref1_endsOn := 43
  f_blref1_in := 52
  f_blref1_total := 36
  f_blref1_truth := 59
  f_cmp_Compare_int := 35
  f_cmp_Or_api_Errno := 8
  f_cmp_Or_int := 34
  f_cmp_isNaN_int := 57
  f_farm_CheckJobs := 54
  f_farm_CheckPlan := 68
  f_farm_CheckPrinters := 53
  f_farm_Earliest := 11
  f_farm_Ends := 44
  f_farm_Greedy := 12
  f_farm_LeastLate := 18
  f_farm_LeastLate_1 := 46
  f_farm_clock_do := 31
  f_farm_ends := 61
  f_farm_fault := 28
  f_farm_isChange := 29
  f_farm_orders := 45
  f_farm_orders_1 := 62
  f_farm_planned := 60
  f_internal_bytealg_Cutover := 87
  f_internal_bytealg_IndexByteString := 92
  f_internal_bytealg_IndexRabinKarp_string := 88
  f_internal_bytealg_IndexString := 86
  f_internal_stringslite_Index := 79
  f_internal_stringslite_IndexByte := 84
  f_kit_IsKey := 66
  f_kit_Outside := 55
  f_p_blmake_Stream_ChangeTime := 6
  f_p_blmake_Stream_Flip := 7
  f_p_blmake_Stream_JobList := 5
  f_p_blmake_Stream_Next := 22
  f_p_blmake_Stream_Odd := 24
  f_p_blmake_Stream_Pick := 23
  f_p_blmake_Stream_PrinterList := 4
  f_p_blmake_Stream_Range := 20
  f_p_blmake_Stream_Some := 21
  f_p_farm_planner_better := 56
  f_p_farm_planner_better_1 := 67
  f_p_farm_planner_try := 30
  f_p_strings_asciiSet_contains := 80
  f_slices_Clone_sl_int_int := 42
  f_slices_Clone_sl_sl_int_sl_int := 41
  f_slices_CompareFunc_sl_sl_int_sl_sl_int_sl_int_sl_int := 37
  f_slices_Compare_sl_int_int := 38
  f_slices_ContainsFunc_sl_sl_int_sl_int := 39
  f_slices_Contains_sl_bool_bool := 78
  f_slices_Contains_sl_int_int := 49
  f_slices_EqualFunc_sl_sl_int_sl_sl_int_sl_int_sl_int := 15
  f_slices_Equal_sl_int_int := 16
  f_slices_IndexFunc_sl_sl_int_sl_int := 58
  f_slices_Index_sl_bool_bool := 85
  f_slices_Index_sl_int_int := 63
  f_strings_Contains := 64
  f_strings_Index := 69
  f_strings_IndexByte := 77
  f_strings_Trim := 65
  f_strings_trimLeftASCII := 73
  f_strings_trimLeftByte := 70
  f_strings_trimRightASCII := 74
  f_strings_trimRightByte := 71
  t_api_Job := 58
  t_api_Printer := 47
  t_blmake_Stream := 25
  t_bool := 4
  t_farm_clock := 70
  t_farm_planner := 67
  t_func_588 := 1
  t_func_sl_int_285 := 84
  t_func_sl_sl_int_int_165 := 73
  t_int := 3
  t_sl_api_Errno := 60
  t_sl_api_Job := 28
  t_sl_api_Printer := 26
  t_sl_bool := 65
  t_sl_farm_clock := 71
  t_sl_int := 22
  t_sl_sl_int := 36
  t_sl_string := 51
  t_string := 9
  t_strings_asciiSet := 101 }

theorem cfg_mixed : Tryd.prog.follows .mixedOrders = true := by kernel_rfl

theorem eq_bllaw1_PlansMade (a0 w : _) (R : Value → World → Prop) (h : wp_bllaw1_PlansMade cfg a0 w R) : Ret cfg.P cfg.f_bllaw1_PlansMade #[a0] w R :=
  ret_of_fn cfg_mixed Tryd.f3 (.s (.r .seq none) (.s (.r .seq none) (.s (.r .seq none) (.s (.s (.r .seq none) (.cj [4, 5] (.r .seq none) .z)) (.s (.r .seq none) (.s (.r .seq none) (.s (.r .seq none) (.s (.r .seq none) (.s (.r .seq none) (.s (.s (.r .seq none) (.cj [14, 15, 16, 17] (.s (.r .seq none) (.r .seq none)) .z)) (.s (.s (.r .seq (some [107])) (.c (.s (.r .seq none) .z) .z)) (.s (.s (.r .seq none) (.c (.s (.r .seq none) .z) .z)) (.s (.r .seq none) (.s (.r .seq none) (.s (.s (.r .seq none) (.c (.s (.r .seq (some [2])) .z) .z)) (.s (.r .seq none) (.s (.r .seq (some [2])) .z))))))))))))))))) Tryd.func3 (by kernel_rfl) (by kernel_rfl) h (by kernel_rfl)

theorem eq_p_blmake_Stream_PrinterList (a0 a1 w : _) (R : Value → World → Prop) (h : wp_p_blmake_Stream_PrinterList cfg a0 a1 w R) : Ret cfg.P cfg.f_p_blmake_Stream_PrinterList #[a0, a1] w R :=
  ret_of_fn cfg_mixed Tryd.f4 (.s (.r .seq none) (.s (.r .seq none) (.s (.s (.r .seq none) (.i (.l [5, 15] (.s (.r .seq none) (.s (.c .z .z) (.s (.i (.s (.r .seq none) (.r .seq none))) (.r .seq none))))))) (.s (.s (.r .seq none) (.cj [] (.s (.r .seq none) (.r (.held 16) (some []))) .z)) (.s (.s (.r .seq none) (.cj [5] (.r .seq none) .z)) (.s (.r .seq none) .z)))))) Tryd.func4 (by kernel_rfl) (by kernel_rfl) h (by kernel_rfl)

theorem eq_p_blmake_Stream_JobList (a0 a1 w : _) (R : Value → World → Prop) (h : wp_p_blmake_Stream_JobList cfg a0 a1 w R) : Ret cfg.P cfg.f_p_blmake_Stream_JobList #[a0, a1] w R :=
  ret_of_fn cfg_mixed Tryd.f5 (.s (.r .seq none) (.s (.r .seq none) (.s (.s (.r .seq none) (.i (.l [5, 15] (.s (.r .seq none) (.s (.c .z .z) (.s (.i (.s (.r .seq none) (.r .seq none))) (.r .seq none))))))) (.s (.s (.r .seq (some [40])) (.cj [] (.s (.r .seq none) (.r (.held 19) (some []))) .z)) (.s (.r .seq none) .z))))) Tryd.func5 (by kernel_rfl) (by kernel_rfl) h (by kernel_rfl)

theorem eq_p_blmake_Stream_ChangeTime (a0 w : _) (R : Value → World → Prop) (h : wp_p_blmake_Stream_ChangeTime cfg a0 w R) : Ret cfg.P cfg.f_p_blmake_Stream_ChangeTime #[a0] w R :=
  ret_of_fn cfg_mixed Tryd.f6 (.s (.r .seq none) (.s (.r .seq none) .z)) Tryd.func6 (by kernel_rfl) (by kernel_rfl) h (by kernel_rfl)

theorem eq_p_blmake_Stream_Flip (a0 a1 w : _) (R : Value → World → Prop) (h : wp_p_blmake_Stream_Flip cfg a0 a1 w R) : Ret cfg.P cfg.f_p_blmake_Stream_Flip #[a0, a1] w R :=
  ret_of_fn cfg_mixed Tryd.f7 (.s (.r .seq none) (.s (.r .seq none) .z)) Tryd.func7 (by kernel_rfl) (by kernel_rfl) h (by kernel_rfl)

theorem eq_cmp_Or_api_Errno (a0 w : _) (R : Value → World → Prop) (h : wp_cmp_Or_api_Errno cfg a0 w R) : Ret cfg.P cfg.f_cmp_Or_api_Errno #[a0] w R :=
  ret_of_fn cfg_mixed Tryd.f8 (.s (.r .seq none) (.s (.r .seq none) (.s (.s (.r .seq none) (.i (.l [8] (.s (.r .seq none) (.s (.c .z .z) (.s (.i (.s (.r .seq none) (.s (.r .seq none) (.c (.s (.r .seq none) .z) .z)))) (.r .seq none))))))) (.s (.r .seq none) .z)))) Tryd.func8 (by kernel_rfl) (by kernel_rfl) h (by kernel_rfl)

theorem eq_blref1_FarmFault (a0 a1 w : _) (R : Value → World → Prop) (h : wp_blref1_FarmFault cfg a0 a1 w R) : Ret cfg.P cfg.f_blref1_FarmFault #[a0, a1] w R :=
  ret_of_fn cfg_mixed Tryd.f9 (.s (.r .seq none) (.s (.r .seq none) .z)) Tryd.func9 (by kernel_rfl) (by kernel_rfl) h (by kernel_rfl)

theorem eq_blref1_ChangeFault (a0 w : _) (R : Value → World → Prop) (h : wp_blref1_ChangeFault cfg a0 w R) : Ret cfg.P cfg.f_blref1_ChangeFault #[a0] w R :=
  ret_of_fn cfg_mixed Tryd.f10 (.s (.r .seq none) (.s (.r .seq none) .z)) Tryd.func10 (by kernel_rfl) (by kernel_rfl) h (by kernel_rfl)

theorem eq_farm_Earliest (a0 a1 a2 w : _) (R : Value → World → Prop) (h : wp_farm_Earliest cfg a0 a1 a2 w R) : Ret cfg.P cfg.f_farm_Earliest #[a0, a1, a2] w R :=
  ret_of_fn cfg_mixed Tryd.f11 (.s (.r .seq none) (.s (.s (.r .seq none) (.s (.r .seq none) (.c (.s (.r .seq none) .z) .z))) (.s (.s (.r .seq none) (.c (.s (.r .seq none) .z) .z)) (.s (.s (.r .seq (some [27])) (.c (.s (.r .seq none) .z) .z)) (.s (.r (.held 8) (some [10])) (.s (.r .seq none) (.s (.r (.quiet 11) none) .z))))))) Tryd.func11 (by kernel_rfl) (by kernel_rfl) h (by kernel_rfl)

theorem eq_farm_Greedy (a0 a1 a2 w : _) (R : Value → World → Prop) (h : wp_farm_Greedy cfg a0 a1 a2 w R) : Ret cfg.P cfg.f_farm_Greedy #[a0, a1, a2] w R :=
  ret_of_fn cfg_mixed Tryd.f12 (.s (.r .seq none) (.s (.s (.r .seq none) (.s (.r .seq none) (.c (.s (.r .seq none) .z) .z))) (.s (.s (.r .seq none) (.c (.s (.r .seq none) .z) .z)) (.s (.r .seq none) (.s (.r .seq none) (.s (.s (.r .seq none) (.i (.l [11, 34] (.s (.r .seq none) (.s (.c .z .z) (.s (.i (.s (.r .seq none) (.r .seq none))) (.r .seq none))))))) (.s (.r .seq none) (.s (.s (.r .seq none) (.i (.l [14, 47] (.s (.r .seq none) (.s (.c .z .z) (.s (.i (.s (.r .seq none) (.s (.r .seq none) (.s (.s (.r .seq none) (.i (.l [17, 54] (.s (.r .seq none) (.s (.c .z .z) (.s (.b [17] (.s (.r .seq none) (.s (.r (.held 14) none) (.cj [17] (.r .seq none) .z)))) (.r .seq none))))))) (.s (.r (.quiet 8) none) (.s (.r .seq none) (.r .seq none))))))) (.r .seq none))))))) (.s (.r .seq none) .z))))))))) Tryd.func12 (by kernel_rfl) (by kernel_rfl) h (by kernel_rfl)

theorem eq_blref1_EarliestOf (a0 a1 a2 w : _) (R : Value → World → Prop) (h : wp_blref1_EarliestOf cfg a0 a1 a2 w R) : Ret cfg.P cfg.f_blref1_EarliestOf #[a0, a1, a2] w R :=
  ret_of_fn cfg_mixed Tryd.f13 (.s (.r .seq none) (.s (.r .seq none) (.s (.r .seq none) (.s (.r .seq none) (.s (.r .seq none) (.s (.r (.held 4) none) (.s (.r (.quiet 4) none) .z))))))) Tryd.func13 (by kernel_rfl) (by kernel_rfl) h (by kernel_rfl)

theorem eq_blref1_GreedyOf (a0 a1 a2 w : _) (R : Value → World → Prop) (h : wp_blref1_GreedyOf cfg a0 a1 a2 w R) : Ret cfg.P cfg.f_blref1_GreedyOf #[a0, a1, a2] w R :=
  ret_of_fn cfg_mixed Tryd.f14 (.s (.r .seq none) (.s (.r .seq none) (.s (.s (.r .seq none) (.i (.l [22] (.s (.r .seq none) (.s (.c .z .z) (.s (.i (.s (.r .seq none) (.s (.r .seq none) (.s (.s (.r .seq none) (.i (.l [10, 11, 27] (.s (.r .seq none) (.s (.c .z .z) (.s (.b [10, 11] (.s (.r .seq none) (.s (.r (.held 15) (some [13])) (.s (.r .seq none) (.s (.r .seq (some [57])) (.cj [10, 11] (.r .seq none) .z)))))) (.r .seq none))))))) (.r .seq none))))) (.r .seq none))))))) (.s (.r .seq none) (.s (.r .seq none) .z))))) Tryd.func14 (by kernel_rfl) (by kernel_rfl) h (by kernel_rfl)

theorem eq_slices_EqualFunc_sl_sl_int_sl_sl_int_sl_int_sl_int (a0 a1 a2 w : _) (R : Value → World → Prop) (h : wp_slices_EqualFunc_sl_sl_int_sl_sl_int_sl_int_sl_int cfg a0 a1 a2 w R) : Ret cfg.P cfg.f_slices_EqualFunc_sl_sl_int_sl_sl_int_sl_int_sl_int #[a0, a1, a2] w R :=
  ret_of_fn cfg_mixed Tryd.f15 (.s (.r .seq none) (.s (.s (.r .seq none) (.c (.s (.r .seq none) .z) .z)) (.s (.s (.r .seq none) (.i (.l [17] (.s (.r .seq none) (.s (.c .z .z) (.s (.i (.s (.r .seq none) (.s (.r .seq none) (.s (.r .seq none) (.c (.s (.r .seq none) .z) .z))))) (.r .seq none))))))) (.s (.r .seq none) .z)))) Tryd.func15 (by kernel_rfl) (by kernel_rfl) h (by kernel_rfl)

theorem eq_slices_Equal_sl_int_int (a0 a1 w : _) (R : Value → World → Prop) (h : wp_slices_Equal_sl_int_int cfg a0 a1 w R) : Ret cfg.P cfg.f_slices_Equal_sl_int_int #[a0, a1] w R :=
  ret_of_fn cfg_mixed Tryd.f16 (.s (.r .seq none) (.s (.s (.r .seq none) (.c (.s (.r .seq none) .z) .z)) (.s (.s (.r .seq none) (.i (.l [13] (.s (.r .seq none) (.s (.c .z .z) (.s (.i (.s (.r .seq none) (.s (.r (.quiet 9) none) (.c (.s (.r .seq none) .z) .z)))) (.r .seq none))))))) (.s (.r .seq none) .z)))) Tryd.func16 (by kernel_rfl) (by kernel_rfl) h (by kernel_rfl)

theorem eq_bllaw1_farmed ( w : _) (R : Value → World → Prop) (h : wp_bllaw1_farmed cfg  w R) : Ret cfg.P cfg.f_bllaw1_farmed #[] w R :=
  ret_of_fn cfg_mixed Tryd.f17 (.s (.r .seq none) (.s (.r .seq none) (.s (.r .seq (some [0])) .z))) Tryd.func17 (by kernel_rfl) (by kernel_rfl) h (by kernel_rfl)

theorem eq_farm_LeastLate (a0 a1 a2 w : _) (R : Value → World → Prop) (h : wp_farm_LeastLate cfg a0 a1 a2 w R) : Ret cfg.P cfg.f_farm_LeastLate #[a0, a1, a2] w R :=
  ret_of_fn cfg_mixed Tryd.f18 (.s (.r .seq none) (.s (.s (.r .seq none) (.s (.r .seq none) (.c (.s (.r .seq none) .z) .z))) (.s (.s (.r .seq none) (.c (.s (.r .seq none) .z) .z)) (.s (.s (.r .seq none) (.c (.s (.r .seq none) .z) .z)) (.s (.r .seq none) (.s (.r .seq none) (.s (.r .seq none) (.s (.r (.quiet 5) none) .z)))))))) Tryd.func18 (by kernel_rfl) (by kernel_rfl) h (by kernel_rfl)

theorem eq_blref1_LeastLateOf (a0 a1 a2 w : _) (R : Value → World → Prop) (h : wp_blref1_LeastLateOf cfg a0 a1 a2 w R) : Ret cfg.P cfg.f_blref1_LeastLateOf #[a0, a1, a2] w R :=
  ret_of_fn cfg_mixed Tryd.f19 (.s (.r .seq none) (.s (.r .seq none) (.s (.r .seq none) (.s (.r .seq none) (.s (.r .seq none) (.s (.r .seq none) (.s (.r (.quiet 4) none) .z))))))) Tryd.func19 (by kernel_rfl) (by kernel_rfl) h (by kernel_rfl)

theorem eq_p_blmake_Stream_Range (a0 a1 a2 w : _) (R : Value → World → Prop) (h : wp_p_blmake_Stream_Range cfg a0 a1 a2 w R) : Ret cfg.P cfg.f_p_blmake_Stream_Range #[a0, a1, a2] w R :=
  ret_of_fn cfg_mixed Tryd.f20 (.s (.r .seq none) (.s (.s (.r .seq none) (.c (.s (.r .seq none) .z) .z)) (.s (.r .seq none) .z))) Tryd.func20 (by kernel_rfl) (by kernel_rfl) h (by kernel_rfl)

theorem eq_p_blmake_Stream_Some (a0 a1 w : _) (R : Value → World → Prop) (h : wp_p_blmake_Stream_Some cfg a0 a1 w R) : Ret cfg.P cfg.f_p_blmake_Stream_Some #[a0, a1] w R :=
  ret_of_fn cfg_mixed Tryd.f21 (.s (.r .seq none) (.s (.r .seq none) .z)) Tryd.func21 (by kernel_rfl) (by kernel_rfl) h (by kernel_rfl)

theorem eq_p_blmake_Stream_Next (a0 a1 w : _) (R : Value → World → Prop) (h : wp_p_blmake_Stream_Next cfg a0 a1 w R) : Ret cfg.P cfg.f_p_blmake_Stream_Next #[a0, a1] w R :=
  ret_of_fn cfg_mixed Tryd.f22 (.s (.r .seq none) (.s (.r .seq none) (.s (.s (.r .seq none) (.c (.s (.r .seq none) .z) .z)) (.s (.r (.quiet 12) none) (.s (.r (.quiet 12) none) (.s (.r .seq none) .z)))))) Tryd.func22 (by kernel_rfl) (by kernel_rfl) h (by kernel_rfl)

theorem eq_p_blmake_Stream_Pick (a0 a1 w : _) (R : Value → World → Prop) (h : wp_p_blmake_Stream_Pick cfg a0 a1 w R) : Ret cfg.P cfg.f_p_blmake_Stream_Pick #[a0, a1] w R :=
  ret_of_fn cfg_mixed Tryd.f23 (.s (.r .seq none) (.s (.r .seq none) .z)) Tryd.func23 (by kernel_rfl) (by kernel_rfl) h (by kernel_rfl)

theorem eq_p_blmake_Stream_Odd (a0 a1 a2 w : _) (R : Value → World → Prop) (h : wp_p_blmake_Stream_Odd cfg a0 a1 a2 w R) : Ret cfg.P cfg.f_p_blmake_Stream_Odd #[a0, a1, a2] w R :=
  ret_of_fn cfg_mixed Tryd.f24 (.s (.r .seq none) (.s (.s (.r .seq none) (.c (.s (.r .seq none) .z) .z)) (.s (.r .seq none) .z))) Tryd.func24 (by kernel_rfl) (by kernel_rfl) h (by kernel_rfl)

theorem eq_blref1_PrintersFault (a0 w : _) (R : Value → World → Prop) (h : wp_blref1_PrintersFault cfg a0 w R) : Ret cfg.P cfg.f_blref1_PrintersFault #[a0] w R :=
  ret_of_fn cfg_mixed Tryd.f25 (.s (.r .seq none) (.s (.i (.s (.r .seq none) (.c (.s (.r .seq none) .z) (.s (.r .seq none) (.c (.s (.r .seq none) .z) .z))))) (.s (.s (.r .seq none) (.i (.l [15] (.s (.r .seq none) (.s (.c .z .z) (.s (.i (.s (.r .seq none) (.i (.s (.r .seq (some [20])) (.c (.s (.r .seq none) .z) (.s (.r (.quiet 14) (some [31])) (.c (.s (.r .seq none) .z) .z))))))) (.r .seq none))))))) (.s (.r .seq none) .z)))) Tryd.func25 (by kernel_rfl) (by kernel_rfl) h (by kernel_rfl)

theorem eq_blref1_JobsFault (a0 w : _) (R : Value → World → Prop) (h : wp_blref1_JobsFault cfg a0 w R) : Ret cfg.P cfg.f_blref1_JobsFault #[a0] w R :=
  ret_of_fn cfg_mixed Tryd.f26 (.s (.r .seq none) (.s (.s (.r .seq none) (.c (.s (.r .seq none) .z) .z)) (.s (.s (.r .seq none) (.i (.l [10] (.s (.r .seq none) (.s (.c .z .z) (.s (.i (.s (.r .seq none) (.i (.s (.r .seq (some [15])) (.c (.s (.r .seq none) .z) (.s (.r .seq (some [26])) (.c (.s (.r .seq none) .z) (.s (.r (.quiet 14) (some [37])) (.c (.s (.r .seq none) .z) .z))))))))) (.r .seq none))))))) (.s (.r .seq none) .z)))) Tryd.func26 (by kernel_rfl) (by kernel_rfl) h (by kernel_rfl)

theorem eq_blref1_SpanFault (a0 a1 a2 w : _) (R : Value → World → Prop) (h : wp_blref1_SpanFault cfg a0 a1 a2 w R) : Ret cfg.P cfg.f_blref1_SpanFault #[a0, a1, a2] w R :=
  ret_of_fn cfg_mixed Tryd.f27 (.s (.r .seq none) (.s (.s (.r .seq none) (.c (.s (.r .seq none) .z) .z)) (.s (.r .seq none) .z))) Tryd.func27 (by kernel_rfl) (by kernel_rfl) h (by kernel_rfl)

theorem eq_farm_fault (a0 a1 w : _) (R : Value → World → Prop) (h : wp_farm_fault cfg a0 a1 w R) : Ret cfg.P cfg.f_farm_fault #[a0, a1] w R :=
  ret_of_fn cfg_mixed Tryd.f28 (.s (.r .seq none) (.s (.s (.r .seq none) (.s (.r .seq none) (.c (.s (.r .seq none) .z) .z))) (.s (.r .seq none) .z))) Tryd.func28 (by kernel_rfl) (by kernel_rfl) h (by kernel_rfl)

theorem eq_farm_isChange (a0 w : _) (R : Value → World → Prop) (h : wp_farm_isChange cfg a0 w R) : Ret cfg.P cfg.f_farm_isChange #[a0] w R :=
  ret_of_fn cfg_mixed Tryd.f29 (.s (.r .seq none) (.s (.r .seq none) .z)) Tryd.func29 (by kernel_rfl) (by kernel_rfl) h (by kernel_rfl)

theorem eq_p_farm_planner_try (a0 a1 a2 a3 a4 a5 w : _) (R : Value → World → Prop) (h : wp_p_farm_planner_try cfg a0 a1 a2 a3 a4 a5 w R) : Ret cfg.P cfg.f_p_farm_planner_try #[a0, a1, a2, a3, a4, a5] w R :=
  ret_of_fn cfg_mixed Tryd.f30 (.s (.r .seq none) (.s (.s (.r .seq (some [29])) (.c .z .z)) (.s (.s (.r .seq none) (.c (.s (.s (.r .seq none) (.cj [] (.s (.r .seq none) (.s (.r .seq none) (.i (.l [52] (.s (.r .seq none) (.s (.c .z .z) (.s (.i (.s (.r .seq none) (.r (.held 8) none))) (.r .seq none)))))))) .z)) .z) .z)) (.s (.s (.r .seq none) (.i (.l [73] (.s (.r .seq none) (.s (.c .z .z) (.s (.b [] (.s (.r .seq none) (.s (.s (.r .seq none) (.c .z .z)) (.s (.r (.held 8) (some [16])) (.s (.r .seq none) (.s (.r (.held 15) none) (.s (.r .seq none) (.s (.r (.quiet 23) none) (.r .seq none))))))))) (.r .seq none))))))) (.s (.r .seq none) (.cj [] (.r .seq none) .z)))))) Tryd.func30 (by kernel_rfl) (by kernel_rfl) h (by kernel_rfl)

theorem eq_farm_clock_do (a0 a1 a2 w : _) (R : Value → World → Prop) (h : wp_farm_clock_do cfg a0 a1 a2 w R) : Ret cfg.P cfg.f_farm_clock_do #[a0, a1, a2] w R :=
  ret_of_fn cfg_mixed Tryd.f31 (.s (.r .seq none) (.s (.s (.r .seq none) (.cj [] (.r .seq none) .z)) (.s (.r .seq none) .z))) Tryd.func31 (by kernel_rfl) (by kernel_rfl) h (by kernel_rfl)

theorem eq_blref1_EarliestOf_1 (a0 a1 a2 a3 a4 a5 a6 a7 a8 w : _) (R : Value → World → Prop) (h : wp_blref1_EarliestOf_1 cfg a0 a1 a2 a3 a4 a5 a6 a7 a8 w R) : Ret cfg.P cfg.f_blref1_EarliestOf_1 #[a0, a1, a2, a3, a4, a5, a6, a7, a8] w R :=
  ret_of_fn cfg_mixed Tryd.f32 (.s (.s (.r .seq none) (.c (.s (.r .seq none) (.s (.s (.r (.held 17) (some [46])) (.cj [] (.r .seq none) .z)) .z)) .z)) (.s (.r .seq none) (.i (.l [53] (.s (.r .seq none) (.s (.c .z .z) (.s (.i (.s (.r .seq none) (.s (.r .seq none) (.i (.l [58] (.s (.r .seq none) (.s (.c .z .z) (.s (.b [] (.s (.r .seq none) (.s (.r .seq (some [73])) (.cj [] (.s (.r .seq none) (.s (.r .seq none) (.r (.quiet 6) none))) .z)))) (.r .seq none))))))))) (.r .seq none)))))))) Tryd.func32 (by kernel_rfl) (by kernel_rfl) h (by kernel_rfl)

theorem eq_blref1_EndsBy (a0 a1 a2 a3 w : _) (R : Value → World → Prop) (h : wp_blref1_EndsBy cfg a0 a1 a2 a3 w R) : Ret cfg.P cfg.f_blref1_EndsBy #[a0, a1, a2, a3] w R :=
  ret_of_fn cfg_mixed Tryd.f33 (.s (.r .seq none) (.s (.r .seq none) (.s (.r .seq none) (.s (.s (.r .seq none) (.i (.l [11, 21] (.s (.r .seq none) (.s (.c .z .z) (.s (.i (.s (.r .seq none) (.s (.r .seq none) (.i (.l [11, 35] (.s (.r .seq none) (.s (.c .z .z) (.s (.i (.s (.r .seq none) (.s (.r .seq none) (.r .seq none)))) (.r .seq none))))))))) (.r .seq none))))))) (.s (.r .seq none) .z))))) Tryd.func33 (by kernel_rfl) (by kernel_rfl) h (by kernel_rfl)

theorem eq_cmp_Or_int (a0 w : _) (R : Value → World → Prop) (h : wp_cmp_Or_int cfg a0 w R) : Ret cfg.P cfg.f_cmp_Or_int #[a0] w R :=
  ret_of_fn cfg_mixed Tryd.f34 (.s (.r .seq none) (.s (.r .seq none) (.s (.s (.r .seq none) (.i (.l [8] (.s (.r .seq none) (.s (.c .z .z) (.s (.i (.s (.r .seq none) (.s (.r .seq none) (.c (.s (.r .seq none) .z) .z)))) (.r .seq none))))))) (.s (.r .seq none) .z)))) Tryd.func34 (by kernel_rfl) (by kernel_rfl) h (by kernel_rfl)

theorem eq_cmp_Compare_int (a0 a1 w : _) (R : Value → World → Prop) (h : wp_cmp_Compare_int cfg a0 a1 w R) : Ret cfg.P cfg.f_cmp_Compare_int #[a0, a1] w R :=
  ret_of_fn cfg_mixed Tryd.f35 (.s (.r .seq none) (.s (.r .seq none) (.s (.r .seq none) (.s (.s (.r .seq none) (.c (.s (.s (.r .seq none) (.c (.s (.r .seq none) .z) .z)) (.s (.r .seq none) .z)) .z)) (.s (.s (.r .seq none) (.c (.s (.r .seq none) .z) .z)) (.s (.s (.r .seq none) (.c (.s (.r .seq none) .z) .z)) (.s (.s (.r .seq none) (.c (.s (.r .seq none) .z) .z)) (.s (.r .seq none) .z)))))))) Tryd.func35 (by kernel_rfl) (by kernel_rfl) h (by kernel_rfl)

theorem eq_blref1_total (a0 w : _) (R : Value → World → Prop) (h : wp_blref1_total cfg a0 w R) : Ret cfg.P cfg.f_blref1_total #[a0] w R :=
  ret_of_fn cfg_mixed Tryd.f36 (.s (.r .seq none) (.s (.r .seq none) (.s (.s (.r .seq none) (.i (.l [3, 8] (.s (.r .seq none) (.s (.c .z .z) (.s (.i (.s (.r .seq none) (.r .seq none))) (.r .seq none))))))) (.s (.r .seq none) .z)))) Tryd.func36 (by kernel_rfl) (by kernel_rfl) h (by kernel_rfl)

theorem eq_slices_CompareFunc_sl_sl_int_sl_sl_int_sl_int_sl_int (a0 a1 a2 w : _) (R : Value → World → Prop) (h : wp_slices_CompareFunc_sl_sl_int_sl_sl_int_sl_int_sl_int cfg a0 a1 a2 w R) : Ret cfg.P cfg.f_slices_CompareFunc_sl_sl_int_sl_sl_int_sl_int_sl_int #[a0, a1, a2] w R :=
  ret_of_fn cfg_mixed Tryd.f37 (.s (.r .seq none) (.s (.s (.r .seq none) (.i (.l [13] (.s (.r .seq none) (.s (.c .z .z) (.s (.i (.s (.r .seq none) (.s (.s (.r .seq none) (.c (.s (.r .seq none) .z) .z)) (.s (.r .seq none) (.s (.r .seq none) (.s (.r .seq none) (.c (.s (.r .seq none) .z) .z))))))) (.r .seq none))))))) (.s (.s (.r .seq none) (.c (.s (.r .seq none) .z) .z)) (.s (.r .seq none) .z)))) Tryd.func37 (by kernel_rfl) (by kernel_rfl) h (by kernel_rfl)

theorem eq_slices_Compare_sl_int_int (a0 a1 w : _) (R : Value → World → Prop) (h : wp_slices_Compare_sl_int_int cfg a0 a1 w R) : Ret cfg.P cfg.f_slices_Compare_sl_int_int #[a0, a1] w R :=
  ret_of_fn cfg_mixed Tryd.f38 (.s (.r .seq none) (.s (.s (.r .seq none) (.i (.l [11] (.s (.r .seq none) (.s (.c .z .z) (.s (.i (.s (.r .seq none) (.s (.s (.r .seq none) (.c (.s (.r .seq none) .z) .z)) (.s (.r .seq none) (.s (.r .seq none) (.s (.r .seq none) (.c (.s (.r .seq none) .z) .z))))))) (.r .seq none))))))) (.s (.s (.r .seq none) (.c (.s (.r .seq none) .z) .z)) (.s (.r .seq none) .z)))) Tryd.func38 (by kernel_rfl) (by kernel_rfl) h (by kernel_rfl)

theorem eq_slices_ContainsFunc_sl_sl_int_sl_int (a0 a1 w : _) (R : Value → World → Prop) (h : wp_slices_ContainsFunc_sl_sl_int_sl_int cfg a0 a1 w R) : Ret cfg.P cfg.f_slices_ContainsFunc_sl_sl_int_sl_int #[a0, a1] w R :=
  ret_of_fn cfg_mixed Tryd.f39 (.s (.r .seq none) (.s (.r .seq none) .z)) Tryd.func39 (by kernel_rfl) (by kernel_rfl) h (by kernel_rfl)

theorem eq_blref1_EarliestOf_1_1 (a0 w : _) (R : Value → World → Prop) (h : wp_blref1_EarliestOf_1_1 cfg a0 w R) : Ret cfg.P cfg.f_blref1_EarliestOf_1_1 #[a0] w R :=
  ret_of_fn cfg_mixed Tryd.f40 (.s (.r .seq none) (.s (.r .seq none) .z)) Tryd.func40 (by kernel_rfl) (by kernel_rfl) h (by kernel_rfl)

theorem eq_slices_Clone_sl_sl_int_sl_int (a0 w : _) (R : Value → World → Prop) (h : wp_slices_Clone_sl_sl_int_sl_int cfg a0 w R) : Ret cfg.P cfg.f_slices_Clone_sl_sl_int_sl_int #[a0] w R :=
  ret_of_fn cfg_mixed Tryd.f41 (.s (.r .seq none) (.s (.s (.r .seq none) (.c (.s (.r .seq none) .z) .z)) (.s (.r .seq none) .z))) Tryd.func41 (by kernel_rfl) (by kernel_rfl) h (by kernel_rfl)

theorem eq_slices_Clone_sl_int_int (a0 w : _) (R : Value → World → Prop) (h : wp_slices_Clone_sl_int_int cfg a0 w R) : Ret cfg.P cfg.f_slices_Clone_sl_int_int #[a0] w R :=
  ret_of_fn cfg_mixed Tryd.f42 (.s (.r .seq none) (.s (.s (.r .seq none) (.c (.s (.r .seq none) .z) .z)) (.s (.r .seq none) .z))) Tryd.func42 (by kernel_rfl) (by kernel_rfl) h (by kernel_rfl)

theorem eq_blref1_endsOn (a0 a1 a2 a3 w : _) (R : Value → World → Prop) (h : wp_blref1_endsOn cfg a0 a1 a2 a3 w R) : Ret cfg.P cfg.f_blref1_endsOn #[a0, a1, a2, a3] w R :=
  ret_of_fn cfg_mixed Tryd.f43 (.s (.r .seq none) (.s (.r .seq none) (.s (.r .seq none) (.s (.s (.r .seq none) (.i (.l [9, 10, 15] (.s (.r .seq none) (.s (.c .z .z) (.s (.i (.s (.r .seq none) (.s (.r (.held 19) none) (.s (.r .seq none) (.r .seq none))))) (.r .seq none))))))) (.s (.r .seq none) .z))))) Tryd.func43 (by kernel_rfl) (by kernel_rfl) h (by kernel_rfl)

theorem eq_farm_Ends (a0 a1 a2 a3 w : _) (R : Value → World → Prop) (h : wp_farm_Ends cfg a0 a1 a2 a3 w R) : Ret cfg.P cfg.f_farm_Ends #[a0, a1, a2, a3] w R :=
  ret_of_fn cfg_mixed Tryd.f44 (.s (.r .seq none) (.s (.s (.r .seq none) (.s (.r .seq none) (.c (.s (.r .seq none) .z) .z))) (.s (.r .seq none) (.s (.r .seq none) .z)))) Tryd.func44 (by kernel_rfl) (by kernel_rfl) h (by kernel_rfl)

theorem eq_farm_orders (a0 a1 w : _) (R : Value → World → Prop) (h : wp_farm_orders cfg a0 a1 w R) : Ret cfg.P cfg.f_farm_orders #[a0, a1] w R :=
  ret_of_fn cfg_mixed Tryd.f45 (.s (.r .seq none) (.s (.r .seq none) (.s (.r .seq none) (.s (.r .seq none) (.s (.r .seq none) (.r .seq none)))))) Tryd.func45 (by kernel_rfl) (by kernel_rfl) h (by kernel_rfl)

theorem eq_farm_LeastLate_1 (a0 a1 a2 a3 a4 a5 w : _) (R : Value → World → Prop) (h : wp_farm_LeastLate_1 cfg a0 a1 a2 a3 a4 a5 w R) : Ret cfg.P cfg.f_farm_LeastLate_1 #[a0, a1, a2, a3, a4, a5] w R :=
  ret_of_fn cfg_mixed Tryd.f46 (.s (.r .seq none) (.s (.s (.r .seq none) (.i (.l [8, 16] (.s (.r .seq none) (.s (.c .z .z) (.s (.i (.s (.r .seq none) (.s (.r (.held 6) none) (.r (.quiet 12) none)))) (.r .seq none))))))) (.s (.r .seq (some [45])) (.cj [] (.r .seq none) .z)))) Tryd.func46 (by kernel_rfl) (by kernel_rfl) h (by kernel_rfl)

theorem eq_blref1_LeastLateOf_1 (a0 a1 a2 a3 a4 a5 a6 w : _) (R : Value → World → Prop) (h : wp_blref1_LeastLateOf_1 cfg a0 a1 a2 a3 a4 a5 a6 w R) : Ret cfg.P cfg.f_blref1_LeastLateOf_1 #[a0, a1, a2, a3, a4, a5, a6] w R :=
  ret_of_fn cfg_mixed Tryd.f47 (.s (.s (.r .seq none) (.c (.s (.s (.r .seq none) (.s (.r .seq (some [32])) (.cj [] (.r .seq none) .z))) .z) .z)) (.s (.r .seq none) (.i (.l [37] (.s (.r .seq none) (.s (.c .z .z) (.s (.b [] (.s (.r .seq none) (.s (.r .seq none) (.cj [] (.r (.held 6) (some [])) .z)))) (.r .seq none)))))))) Tryd.func47 (by kernel_rfl) (by kernel_rfl) h (by kernel_rfl)

theorem eq_blref1_LateBy (a0 a1 a2 a3 w : _) (R : Value → World → Prop) (h : wp_blref1_LateBy cfg a0 a1 a2 a3 w R) : Ret cfg.P cfg.f_blref1_LateBy #[a0, a1, a2, a3] w R :=
  ret_of_fn cfg_mixed Tryd.f48 (.s (.r .seq none) (.s (.r .seq none) (.s (.r .seq none) (.s (.r .seq none) (.s (.s (.r .seq none) (.i (.l [12, 13, 26] (.s (.r .seq none) (.s (.c .z .z) (.s (.b [12, 13] (.s (.r .seq none) (.s (.r (.quiet 7) none) (.cj [12, 13] (.s (.r (.quiet 10) none) (.r .seq none)) .z)))) (.r .seq none))))))) (.s (.r .seq none) .z)))))) Tryd.func48 (by kernel_rfl) (by kernel_rfl) h (by kernel_rfl)

theorem eq_slices_Contains_sl_int_int (a0 a1 w : _) (R : Value → World → Prop) (h : wp_slices_Contains_sl_int_int cfg a0 a1 w R) : Ret cfg.P cfg.f_slices_Contains_sl_int_int #[a0, a1] w R :=
  ret_of_fn cfg_mixed Tryd.f49 (.s (.r .seq none) (.s (.r .seq none) .z)) Tryd.func49 (by kernel_rfl) (by kernel_rfl) h (by kernel_rfl)

theorem eq_blmake_Below (a0 a1 w : _) (R : Value → World → Prop) (h : wp_blmake_Below cfg a0 a1 w R) : Ret cfg.P cfg.f_blmake_Below #[a0, a1] w R :=
  ret_of_fn cfg_mixed Tryd.f50 (.s (.r .seq none) (.s (.s (.r .seq none) (.c (.s (.r .seq none) .z) .z)) (.s (.r .seq none) (.s (.s (.r .seq none) (.cj [0] (.r .seq none) .z)) (.s (.r .seq none) .z))))) Tryd.func50 (by kernel_rfl) (by kernel_rfl) h (by kernel_rfl)

theorem eq_blref1_Key (a0 w : _) (R : Value → World → Prop) (h : wp_blref1_Key cfg a0 w R) : Ret cfg.P cfg.f_blref1_Key #[a0] w R :=
  ret_of_fn cfg_mixed Tryd.f51 (.s (.r .seq none) (.s (.r .seq (some [2])) .z)) Tryd.func51 (by kernel_rfl) (by kernel_rfl) h (by kernel_rfl)

theorem eq_blref1_in (a0 a1 a2 w : _) (R : Value → World → Prop) (h : wp_blref1_in cfg a0 a1 a2 w R) : Ret cfg.P cfg.f_blref1_in #[a0, a1, a2] w R :=
  ret_of_fn cfg_mixed Tryd.f52 (.s (.r .seq none) (.s (.r .seq (some [6])) .z)) Tryd.func52 (by kernel_rfl) (by kernel_rfl) h (by kernel_rfl)

theorem eq_farm_CheckPrinters (a0 w : _) (R : Value → World → Prop) (h : wp_farm_CheckPrinters cfg a0 w R) : Ret cfg.P cfg.f_farm_CheckPrinters #[a0] w R :=
  ret_of_fn cfg_mixed Tryd.f53 (.s (.r .seq none) (.s (.s (.r .seq none) (.c (.s (.r .seq none) .z) .z)) (.s (.s (.r .seq none) (.c (.s (.r .seq none) .z) .z)) (.s (.s (.r .seq none) (.i (.l [13] (.s (.r .seq none) (.s (.c .z .z) (.s (.i (.s (.r .seq none) (.s (.s (.r .seq (some [27])) (.c (.s (.r .seq none) .z) .z)) (.s (.r (.quiet 13) (some [40])) (.c (.s (.r .seq none) .z) .z))))) (.r .seq none))))))) (.s (.r .seq none) .z))))) Tryd.func53 (by kernel_rfl) (by kernel_rfl) h (by kernel_rfl)

theorem eq_farm_CheckJobs (a0 w : _) (R : Value → World → Prop) (h : wp_farm_CheckJobs cfg a0 w R) : Ret cfg.P cfg.f_farm_CheckJobs #[a0] w R :=
  ret_of_fn cfg_mixed Tryd.f54 (.s (.r .seq none) (.s (.s (.r .seq none) (.c (.s (.r .seq none) .z) .z)) (.s (.s (.r .seq none) (.i (.l [10] (.s (.r .seq none) (.s (.c .z .z) (.s (.i (.s (.r .seq none) (.i (.s (.r .seq (some [15])) (.c (.s (.r .seq none) .z) (.s (.r .seq (some [26])) (.c (.s (.r .seq none) .z) (.s (.r (.quiet 14) (some [35])) (.c (.s (.r .seq none) .z) .z))))))))) (.r .seq none))))))) (.s (.r .seq none) .z)))) Tryd.func54 (by kernel_rfl) (by kernel_rfl) h (by kernel_rfl)

theorem eq_kit_Outside (a0 a1 a2 w : _) (R : Value → World → Prop) (h : wp_kit_Outside cfg a0 a1 a2 w R) : Ret cfg.P cfg.f_kit_Outside #[a0, a1, a2] w R :=
  ret_of_fn cfg_mixed Tryd.f55 (.s (.r .seq none) (.s (.r .seq (some [6])) .z)) Tryd.func55 (by kernel_rfl) (by kernel_rfl) h (by kernel_rfl)

theorem eq_p_farm_planner_better (a0 a1 a2 w : _) (R : Value → World → Prop) (h : wp_p_farm_planner_better cfg a0 a1 a2 w R) : Ret cfg.P cfg.f_p_farm_planner_better #[a0, a1, a2] w R :=
  ret_of_fn cfg_mixed Tryd.f56 (.s (.r .seq none) (.s (.s (.r .seq none) (.c (.s (.r .seq none) .z) .z)) (.s (.s (.r (.held 14) none) (.s (.r .seq none) (.c (.s (.r .seq none) .z) .z))) (.s (.r (.held 10) none) .z)))) Tryd.func56 (by kernel_rfl) (by kernel_rfl) h (by kernel_rfl)

theorem eq_cmp_isNaN_int (a0 w : _) (R : Value → World → Prop) (h : wp_cmp_isNaN_int cfg a0 w R) : Ret cfg.P cfg.f_cmp_isNaN_int #[a0] w R :=
  ret_of_fn cfg_mixed Tryd.f57 (.s (.r .seq none) (.s (.r .seq none) .z)) Tryd.func57 (by kernel_rfl) (by kernel_rfl) h (by kernel_rfl)

theorem eq_slices_IndexFunc_sl_sl_int_sl_int (a0 a1 w : _) (R : Value → World → Prop) (h : wp_slices_IndexFunc_sl_sl_int_sl_int cfg a0 a1 w R) : Ret cfg.P cfg.f_slices_IndexFunc_sl_sl_int_sl_int #[a0, a1] w R :=
  ret_of_fn cfg_mixed Tryd.f58 (.s (.r .seq none) (.s (.s (.r .seq none) (.i (.l [8] (.s (.r .seq none) (.s (.c .z .z) (.s (.i (.s (.r .seq none) (.s (.r .seq none) (.c (.s (.r .seq none) .z) .z)))) (.r .seq none))))))) (.s (.r .seq none) .z))) Tryd.func58 (by kernel_rfl) (by kernel_rfl) h (by kernel_rfl)

theorem eq_blref1_truth (a0 w : _) (R : Value → World → Prop) (h : wp_blref1_truth cfg a0 w R) : Ret cfg.P cfg.f_blref1_truth #[a0] w R :=
  ret_of_fn cfg_mixed Tryd.f59 (.s (.r .seq none) (.s (.s (.r .seq none) (.c (.s (.r .seq none) .z) .z)) (.s (.r .seq none) .z))) Tryd.func59 (by kernel_rfl) (by kernel_rfl) h (by kernel_rfl)

theorem eq_farm_planned (a0 a1 a2 a3 w : _) (R : Value → World → Prop) (h : wp_farm_planned cfg a0 a1 a2 a3 w R) : Ret cfg.P cfg.f_farm_planned #[a0, a1, a2, a3] w R :=
  ret_of_fn cfg_mixed Tryd.f60 (.s (.r .seq none) (.s (.s (.r .seq none) (.s (.r .seq none) (.c (.s (.r .seq none) .z) .z))) (.s (.s (.r .seq none) (.c (.s (.r .seq none) .z) .z)) (.s (.r .seq none) .z)))) Tryd.func60 (by kernel_rfl) (by kernel_rfl) h (by kernel_rfl)

theorem eq_farm_ends (a0 a1 a2 a3 w : _) (R : Value → World → Prop) (h : wp_farm_ends cfg a0 a1 a2 a3 w R) : Ret cfg.P cfg.f_farm_ends #[a0, a1, a2, a3] w R :=
  ret_of_fn cfg_mixed Tryd.f61 (.s (.r .seq none) (.s (.r .seq none) (.s (.r .seq none) (.s (.s (.r .seq none) (.i (.l [11, 22] (.s (.r .seq none) (.s (.c .z .z) (.s (.i (.s (.r .seq none) (.s (.r .seq none) (.s (.r .seq none) (.i (.l [11, 35] (.s (.r .seq none) (.s (.c .z .z) (.s (.i (.s (.r .seq none) (.s (.r (.quiet 6) none) (.s (.r .seq none) (.r .seq none))))) (.r .seq none)))))))))) (.r .seq none))))))) (.s (.r .seq none) .z))))) Tryd.func61 (by kernel_rfl) (by kernel_rfl) h (by kernel_rfl)

theorem eq_farm_orders_1 (a0 a1 a2 a3 a4 w : _) (R : Value → World → Prop) (h : wp_farm_orders_1 cfg a0 a1 a2 a3 a4 w R) : Ret cfg.P cfg.f_farm_orders_1 #[a0, a1, a2, a3, a4] w R :=
  ret_of_fn cfg_mixed Tryd.f62 (.s (.s (.r .seq none) (.c (.s (.r .seq none) .z) .z)) (.s (.r .seq none) (.i (.l [14] (.s (.r .seq none) (.s (.c .z .z) (.s (.b [] (.s (.r .seq none) (.s (.r .seq none) (.cj [] (.s (.r .seq none) (.s (.r .seq none) (.s (.r .seq none) (.s (.r .seq none) (.r .seq none))))) .z)))) (.r .seq none)))))))) Tryd.func62 (by kernel_rfl) (by kernel_rfl) h (by kernel_rfl)

theorem eq_slices_Index_sl_int_int (a0 a1 w : _) (R : Value → World → Prop) (h : wp_slices_Index_sl_int_int cfg a0 a1 w R) : Ret cfg.P cfg.f_slices_Index_sl_int_int #[a0, a1] w R :=
  ret_of_fn cfg_mixed Tryd.f63 (.s (.r .seq none) (.s (.s (.r .seq none) (.i (.l [8] (.s (.r .seq none) (.s (.c .z .z) (.s (.i (.s (.r .seq none) (.s (.r .seq none) (.c (.s (.r .seq none) .z) .z)))) (.r .seq none))))))) (.s (.r .seq none) .z))) Tryd.func63 (by kernel_rfl) (by kernel_rfl) h (by kernel_rfl)

theorem eq_strings_Contains (a0 a1 w : _) (R : Value → World → Prop) (h : wp_strings_Contains cfg a0 a1 w R) : Ret cfg.P cfg.f_strings_Contains #[a0, a1] w R :=
  ret_of_fn cfg_mixed Tryd.f64 (.s (.r .seq none) (.s (.r .seq none) .z)) Tryd.func64 (by kernel_rfl) (by kernel_rfl) h (by kernel_rfl)

theorem eq_kit_IsKey (a0 w : _) (R : Value → World → Prop) (h : wp_kit_IsKey cfg a0 w R) : Ret cfg.P cfg.f_kit_IsKey #[a0] w R :=
  ret_of_fn cfg_mixed Tryd.f66 (.s (.r .seq none) (.s (.r .seq (some [2])) .z)) Tryd.func66 (by kernel_rfl) (by kernel_rfl) h (by kernel_rfl)

theorem eq_p_farm_planner_better_1 (a0 a1 w : _) (R : Value → World → Prop) (h : wp_p_farm_planner_better_1 cfg a0 a1 w R) : Ret cfg.P cfg.f_p_farm_planner_better_1 #[a0, a1] w R :=
  ret_of_fn cfg_mixed Tryd.f67 (.s (.r .seq none) (.s (.r .seq none) .z)) Tryd.func67 (by kernel_rfl) (by kernel_rfl) h (by kernel_rfl)

theorem eq_farm_CheckPlan (a0 a1 a2 w : _) (R : Value → World → Prop) (h : wp_farm_CheckPlan cfg a0 a1 a2 w R) : Ret cfg.P cfg.f_farm_CheckPlan #[a0, a1, a2] w R :=
  ret_of_fn cfg_mixed Tryd.f68 (.s (.r .seq none) (.s (.s (.r .seq none) (.s (.r .seq none) (.c (.s (.r .seq none) .z) .z))) (.s (.s (.r .seq none) (.c (.s (.r .seq none) .z) .z)) (.s (.r .seq none) (.s (.s (.r .seq none) (.i (.l [29] (.s (.r .seq none) (.s (.c .z .z) (.s (.i (.s (.r .seq none) (.s (.r .seq none) (.i (.l [35] (.s (.r .seq none) (.s (.c .z .z) (.s (.i (.s (.r .seq none) (.s (.s (.r .seq (some [46])) (.c (.s (.r .seq none) .z) .z)) (.s (.s (.r .seq none) (.c (.s (.r .seq none) .z) .z)) (.r .seq none))))) (.r .seq none))))))))) (.r .seq none))))))) (.s (.s (.r .seq none) (.c (.s (.r .seq none) .z) .z)) (.s (.r .seq none) .z))))))) Tryd.func68 (by kernel_rfl) (by kernel_rfl) h (by kernel_rfl)

theorem eq_strings_Index (a0 a1 w : _) (R : Value → World → Prop) (h : wp_strings_Index cfg a0 a1 w R) : Ret cfg.P cfg.f_strings_Index #[a0, a1] w R :=
  ret_of_fn cfg_mixed Tryd.f69 (.s (.r .seq none) (.s (.r .seq none) .z)) Tryd.func69 (by kernel_rfl) (by kernel_rfl) h (by kernel_rfl)

theorem eq_strings_trimLeftByte (a0 a1 w : _) (R : Value → World → Prop) (h : wp_strings_trimLeftByte cfg a0 a1 w R) : Ret cfg.P cfg.f_strings_trimLeftByte #[a0, a1] w R :=
  ret_of_fn cfg_mixed Tryd.f70 (.s (.r .seq none) (.s (.i (.l [0] (.s (.s (.r .seq (some [13])) (.c .z .z)) (.i (.r .seq none))))) (.s (.r .seq none) .z))) Tryd.func70 (by kernel_rfl) (by kernel_rfl) h (by kernel_rfl)

theorem eq_strings_trimRightByte (a0 a1 w : _) (R : Value → World → Prop) (h : wp_strings_trimRightByte cfg a0 a1 w R) : Ret cfg.P cfg.f_strings_trimRightByte #[a0, a1] w R :=
  ret_of_fn cfg_mixed Tryd.f71 (.s (.r .seq none) (.s (.i (.l [0] (.s (.s (.r .seq (some [16])) (.c .z .z)) (.i (.r .seq none))))) (.s (.r .seq none) .z))) Tryd.func71 (by kernel_rfl) (by kernel_rfl) h (by kernel_rfl)

theorem eq_strings_trimLeftASCII (a0 a1 w : _) (R : Value → World → Prop) (h : wp_strings_trimLeftASCII cfg a0 a1 w R) : Ret cfg.P cfg.f_strings_trimLeftASCII #[a0, a1] w R :=
  ret_of_fn cfg_mixed Tryd.f73 (.s (.r .seq none) (.s (.b [0] (.l [0] (.s (.s (.r .seq none) (.c .z .z)) (.i (.s (.s (.r .seq none) (.c .z .z)) (.r .seq none)))))) (.s (.r .seq none) .z))) Tryd.func73 (by kernel_rfl) (by kernel_rfl) h (by kernel_rfl)

theorem eq_strings_trimRightASCII (a0 a1 w : _) (R : Value → World → Prop) (h : wp_strings_trimRightASCII cfg a0 a1 w R) : Ret cfg.P cfg.f_strings_trimRightASCII #[a0, a1] w R :=
  ret_of_fn cfg_mixed Tryd.f74 (.s (.r .seq none) (.s (.b [0] (.l [0] (.s (.s (.r .seq none) (.c .z .z)) (.i (.s (.s (.r .seq none) (.c .z .z)) (.r .seq none)))))) (.s (.r .seq none) .z))) Tryd.func74 (by kernel_rfl) (by kernel_rfl) h (by kernel_rfl)

theorem eq_strings_IndexByte (a0 a1 w : _) (R : Value → World → Prop) (h : wp_strings_IndexByte cfg a0 a1 w R) : Ret cfg.P cfg.f_strings_IndexByte #[a0, a1] w R :=
  ret_of_fn cfg_mixed Tryd.f77 (.s (.r .seq none) (.s (.r .seq none) .z)) Tryd.func77 (by kernel_rfl) (by kernel_rfl) h (by kernel_rfl)

theorem eq_slices_Contains_sl_bool_bool (a0 a1 w : _) (R : Value → World → Prop) (h : wp_slices_Contains_sl_bool_bool cfg a0 a1 w R) : Ret cfg.P cfg.f_slices_Contains_sl_bool_bool #[a0, a1] w R :=
  ret_of_fn cfg_mixed Tryd.f78 (.s (.r .seq none) (.s (.r .seq none) .z)) Tryd.func78 (by kernel_rfl) (by kernel_rfl) h (by kernel_rfl)

theorem eq_internal_stringslite_Index (a0 a1 w : _) (R : Value → World → Prop) (h : wp_internal_stringslite_Index cfg a0 a1 w R) : Ret cfg.P cfg.f_internal_stringslite_Index #[a0, a1] w R :=
  ret_of_fn cfg_mixed Tryd.f79 (.s (.r .seq none) (.s (.r .seq none) (.s (.i (.s (.r .seq (some [16])) (.c (.s (.r .seq none) .z) (.s (.r .seq none) (.c (.s (.r .seq none) .z) (.s (.r .seq none) (.c (.s (.r .seq none) .z) (.s (.r .seq (some [36])) (.c (.s (.r .seq none) .z) .z))))))))) (.s (.r .seq none) (.s (.r .seq none) (.s (.r .seq none) (.s (.r .seq none) (.s (.r .seq none) (.s (.i (.l [8, 10] (.s (.s (.r .seq none) (.c .z .z)) (.i (.s (.s (.r .seq none) (.cj [8] (.s (.r .seq none) (.s (.s (.r .seq none) (.c (.s (.r .seq none) .z) .z)) (.r .seq none))) .z)) (.s (.s (.r .seq (some [93])) (.c (.s (.r .seq none) .z) .z)) (.s (.r .seq none) (.s (.r .seq none) (.s (.r .seq (some [107])) (.c (.s (.r .seq none) (.s (.s (.r .seq none) (.c (.s (.r .seq none) .z) .z)) (.s (.r .seq none) .z))) (.s (.r .seq (some [132])) (.c (.s (.r .seq none) (.s (.s (.r .seq none) (.c (.s (.r .seq none) .z) .z)) (.s (.r .seq none) .z))) .z)))))))))))) (.s (.r .seq none) .z)))))))))) Tryd.func79 (by kernel_rfl) (by kernel_rfl) h (by kernel_rfl)

theorem eq_p_strings_asciiSet_contains (a0 a1 w : _) (R : Value → World → Prop) (h : wp_p_strings_asciiSet_contains cfg a0 a1 w R) : Ret cfg.P cfg.f_p_strings_asciiSet_contains #[a0, a1] w R :=
  ret_of_fn cfg_mixed Tryd.f80 (.s (.r .seq none) (.s (.r .seq none) .z)) Tryd.func80 (by kernel_rfl) (by kernel_rfl) h (by kernel_rfl)

theorem eq_internal_stringslite_IndexByte (a0 a1 w : _) (R : Value → World → Prop) (h : wp_internal_stringslite_IndexByte cfg a0 a1 w R) : Ret cfg.P cfg.f_internal_stringslite_IndexByte #[a0, a1] w R :=
  ret_of_fn cfg_mixed Tryd.f84 (.s (.r .seq none) (.s (.r .seq none) .z)) Tryd.func84 (by kernel_rfl) (by kernel_rfl) h (by kernel_rfl)

theorem eq_slices_Index_sl_bool_bool (a0 a1 w : _) (R : Value → World → Prop) (h : wp_slices_Index_sl_bool_bool cfg a0 a1 w R) : Ret cfg.P cfg.f_slices_Index_sl_bool_bool #[a0, a1] w R :=
  ret_of_fn cfg_mixed Tryd.f85 (.s (.r .seq none) (.s (.s (.r .seq none) (.i (.l [8] (.s (.r .seq none) (.s (.c .z .z) (.s (.i (.s (.r .seq none) (.s (.r .seq none) (.c (.s (.r .seq none) .z) .z)))) (.r .seq none))))))) (.s (.r .seq none) .z))) Tryd.func85 (by kernel_rfl) (by kernel_rfl) h (by kernel_rfl)

theorem eqs : Eqs cfg := {
  dummy := trivial
  bllaw1_PlansMade := fun a0 w R h => eq_bllaw1_PlansMade a0 w R h
  p_blmake_Stream_PrinterList := fun a0 a1 w R h => eq_p_blmake_Stream_PrinterList a0 a1 w R h
  p_blmake_Stream_JobList := fun a0 a1 w R h => eq_p_blmake_Stream_JobList a0 a1 w R h
  p_blmake_Stream_ChangeTime := fun a0 w R h => eq_p_blmake_Stream_ChangeTime a0 w R h
  p_blmake_Stream_Flip := fun a0 a1 w R h => eq_p_blmake_Stream_Flip a0 a1 w R h
  cmp_Or_api_Errno := fun a0 w R h => eq_cmp_Or_api_Errno a0 w R h
  blref1_FarmFault := fun a0 a1 w R h => eq_blref1_FarmFault a0 a1 w R h
  blref1_ChangeFault := fun a0 w R h => eq_blref1_ChangeFault a0 w R h
  farm_Earliest := fun a0 a1 a2 w R h => eq_farm_Earliest a0 a1 a2 w R h
  farm_Greedy := fun a0 a1 a2 w R h => eq_farm_Greedy a0 a1 a2 w R h
  blref1_EarliestOf := fun a0 a1 a2 w R h => eq_blref1_EarliestOf a0 a1 a2 w R h
  blref1_GreedyOf := fun a0 a1 a2 w R h => eq_blref1_GreedyOf a0 a1 a2 w R h
  slices_EqualFunc_sl_sl_int_sl_sl_int_sl_int_sl_int := fun a0 a1 a2 w R h => eq_slices_EqualFunc_sl_sl_int_sl_sl_int_sl_int_sl_int a0 a1 a2 w R h
  slices_Equal_sl_int_int := fun a0 a1 w R h => eq_slices_Equal_sl_int_int a0 a1 w R h
  bllaw1_farmed := fun _ w R h => eq_bllaw1_farmed  w R h
  farm_LeastLate := fun a0 a1 a2 w R h => eq_farm_LeastLate a0 a1 a2 w R h
  blref1_LeastLateOf := fun a0 a1 a2 w R h => eq_blref1_LeastLateOf a0 a1 a2 w R h
  p_blmake_Stream_Range := fun a0 a1 a2 w R h => eq_p_blmake_Stream_Range a0 a1 a2 w R h
  p_blmake_Stream_Some := fun a0 a1 w R h => eq_p_blmake_Stream_Some a0 a1 w R h
  p_blmake_Stream_Next := fun a0 a1 w R h => eq_p_blmake_Stream_Next a0 a1 w R h
  p_blmake_Stream_Pick := fun a0 a1 w R h => eq_p_blmake_Stream_Pick a0 a1 w R h
  p_blmake_Stream_Odd := fun a0 a1 a2 w R h => eq_p_blmake_Stream_Odd a0 a1 a2 w R h
  blref1_PrintersFault := fun a0 w R h => eq_blref1_PrintersFault a0 w R h
  blref1_JobsFault := fun a0 w R h => eq_blref1_JobsFault a0 w R h
  blref1_SpanFault := fun a0 a1 a2 w R h => eq_blref1_SpanFault a0 a1 a2 w R h
  farm_fault := fun a0 a1 w R h => eq_farm_fault a0 a1 w R h
  farm_isChange := fun a0 w R h => eq_farm_isChange a0 w R h
  p_farm_planner_try := fun a0 a1 a2 a3 a4 a5 w R h => eq_p_farm_planner_try a0 a1 a2 a3 a4 a5 w R h
  farm_clock_do := fun a0 a1 a2 w R h => eq_farm_clock_do a0 a1 a2 w R h
  blref1_EarliestOf_1 := fun a0 a1 a2 a3 a4 a5 a6 a7 a8 w R h => eq_blref1_EarliestOf_1 a0 a1 a2 a3 a4 a5 a6 a7 a8 w R h
  blref1_EndsBy := fun a0 a1 a2 a3 w R h => eq_blref1_EndsBy a0 a1 a2 a3 w R h
  cmp_Or_int := fun a0 w R h => eq_cmp_Or_int a0 w R h
  cmp_Compare_int := fun a0 a1 w R h => eq_cmp_Compare_int a0 a1 w R h
  blref1_total := fun a0 w R h => eq_blref1_total a0 w R h
  slices_CompareFunc_sl_sl_int_sl_sl_int_sl_int_sl_int := fun a0 a1 a2 w R h => eq_slices_CompareFunc_sl_sl_int_sl_sl_int_sl_int_sl_int a0 a1 a2 w R h
  slices_Compare_sl_int_int := fun a0 a1 w R h => eq_slices_Compare_sl_int_int a0 a1 w R h
  slices_ContainsFunc_sl_sl_int_sl_int := fun a0 a1 w R h => eq_slices_ContainsFunc_sl_sl_int_sl_int a0 a1 w R h
  blref1_EarliestOf_1_1 := fun a0 w R h => eq_blref1_EarliestOf_1_1 a0 w R h
  slices_Clone_sl_sl_int_sl_int := fun a0 w R h => eq_slices_Clone_sl_sl_int_sl_int a0 w R h
  slices_Clone_sl_int_int := fun a0 w R h => eq_slices_Clone_sl_int_int a0 w R h
  blref1_endsOn := fun a0 a1 a2 a3 w R h => eq_blref1_endsOn a0 a1 a2 a3 w R h
  farm_Ends := fun a0 a1 a2 a3 w R h => eq_farm_Ends a0 a1 a2 a3 w R h
  farm_orders := fun a0 a1 w R h => eq_farm_orders a0 a1 w R h
  farm_LeastLate_1 := fun a0 a1 a2 a3 a4 a5 w R h => eq_farm_LeastLate_1 a0 a1 a2 a3 a4 a5 w R h
  blref1_LeastLateOf_1 := fun a0 a1 a2 a3 a4 a5 a6 w R h => eq_blref1_LeastLateOf_1 a0 a1 a2 a3 a4 a5 a6 w R h
  blref1_LateBy := fun a0 a1 a2 a3 w R h => eq_blref1_LateBy a0 a1 a2 a3 w R h
  slices_Contains_sl_int_int := fun a0 a1 w R h => eq_slices_Contains_sl_int_int a0 a1 w R h
  blmake_Below := fun a0 a1 w R h => eq_blmake_Below a0 a1 w R h
  blref1_Key := fun a0 w R h => eq_blref1_Key a0 w R h
  blref1_in := fun a0 a1 a2 w R h => eq_blref1_in a0 a1 a2 w R h
  farm_CheckPrinters := fun a0 w R h => eq_farm_CheckPrinters a0 w R h
  farm_CheckJobs := fun a0 w R h => eq_farm_CheckJobs a0 w R h
  kit_Outside := fun a0 a1 a2 w R h => eq_kit_Outside a0 a1 a2 w R h
  p_farm_planner_better := fun a0 a1 a2 w R h => eq_p_farm_planner_better a0 a1 a2 w R h
  cmp_isNaN_int := fun a0 w R h => eq_cmp_isNaN_int a0 w R h
  slices_IndexFunc_sl_sl_int_sl_int := fun a0 a1 w R h => eq_slices_IndexFunc_sl_sl_int_sl_int a0 a1 w R h
  blref1_truth := fun a0 w R h => eq_blref1_truth a0 w R h
  farm_planned := fun a0 a1 a2 a3 w R h => eq_farm_planned a0 a1 a2 a3 w R h
  farm_ends := fun a0 a1 a2 a3 w R h => eq_farm_ends a0 a1 a2 a3 w R h
  farm_orders_1 := fun a0 a1 a2 a3 a4 w R h => eq_farm_orders_1 a0 a1 a2 a3 a4 w R h
  slices_Index_sl_int_int := fun a0 a1 w R h => eq_slices_Index_sl_int_int a0 a1 w R h
  strings_Contains := fun a0 a1 w R h => eq_strings_Contains a0 a1 w R h
  kit_IsKey := fun a0 w R h => eq_kit_IsKey a0 w R h
  p_farm_planner_better_1 := fun a0 a1 w R h => eq_p_farm_planner_better_1 a0 a1 w R h
  farm_CheckPlan := fun a0 a1 a2 w R h => eq_farm_CheckPlan a0 a1 a2 w R h
  strings_Index := fun a0 a1 w R h => eq_strings_Index a0 a1 w R h
  strings_trimLeftByte := fun a0 a1 w R h => eq_strings_trimLeftByte a0 a1 w R h
  strings_trimRightByte := fun a0 a1 w R h => eq_strings_trimRightByte a0 a1 w R h
  strings_trimLeftASCII := fun a0 a1 w R h => eq_strings_trimLeftASCII a0 a1 w R h
  strings_trimRightASCII := fun a0 a1 w R h => eq_strings_trimRightASCII a0 a1 w R h
  strings_IndexByte := fun a0 a1 w R h => eq_strings_IndexByte a0 a1 w R h
  slices_Contains_sl_bool_bool := fun a0 a1 w R h => eq_slices_Contains_sl_bool_bool a0 a1 w R h
  internal_stringslite_Index := fun a0 a1 w R h => eq_internal_stringslite_Index a0 a1 w R h
  p_strings_asciiSet_contains := fun a0 a1 w R h => eq_p_strings_asciiSet_contains a0 a1 w R h
  internal_stringslite_IndexByte := fun a0 a1 w R h => eq_internal_stringslite_IndexByte a0 a1 w R h
  slices_Index_sl_bool_bool := fun a0 a1 w R h => eq_slices_Index_sl_bool_bool a0 a1 w R h }

end Go.Eng

/-! The type facts of this program. -/
namespace Go.Eng
open Go Go.Proofs
theorem tyB : TyB cfg :=
  { sl_int := .of (by kernel_rfl) (by kernel_rfl) rfl (by omega) (by omega)
    sl_bool := SliceT.ex (by kernel_rfl) rfl (by omega) (by omega)
    st_stream := .of (sz := 2) (by_ := 32) (by kernel_rfl) (by kernel_rfl)
    sl_errno := SliceT.ex (by kernel_rfl) rfl (by omega) (by omega) }
theorem ty : TyF cfg :=
  { tyB with
    ssl_int := .of (by kernel_rfl) (by kernel_rfl) rfl (by omega) (by omega)
    st_clock := .of (sz := 2) (by_ := 24) (by kernel_rfl) (by kernel_rfl)
    sl_clock := .of (by kernel_rfl) (by kernel_rfl) rfl (by omega) (by omega)
    sl_prn := .of (by kernel_rfl) (by kernel_rfl) rfl (by omega) (by omega)
    sl_job := .of (by kernel_rfl) (by kernel_rfl) rfl (by omega) (by omega)
    sl_str := SliceT.ex (by kernel_rfl) rfl (by omega) (by omega)
    st_prn := .of (sz := 2) (by_ := 32) (by kernel_rfl) (by kernel_rfl)
    st_job := .of (sz := 4) (by_ := 48) (by kernel_rfl) (by kernel_rfl)
    bool := by kernel_rfl
    st_planner := .of (sz := 8) (by_ := 144) (by kernel_rfl) (by kernel_rfl) }
end Go.Eng

/-! The library's functions at this program: the kit's contracts, laid in plain words. -/
namespace Go.Proofs
open Go.Shelf
def Tryd.lays160_ren : Go.Shelf.Ren := ⟨fun | 160 => 65 | 232 => 71 | 231 => 70 | 227 => 72 | 234 => 74 | 233 => 73 | 236 => 76 | 235 => 75 | 228 => 80 | 271 => 83 | 151 => 82 | 197 => 81 | 120 => 91 | 152 => 90 | 260 => 89 | 137 => 77 | 119 => 94 | 224 => 87 | 225 => 86 | 217 => 84 | 266 => 92 | n => n, fun | 9 => 9 | 4 => 4 | 3 => 3 | 5 => 5 | 117 => 102 | 116 => 101 | 0 => 0 | 124 => 105 | 21 => 21 | 105 => 109 | 46 => 113 | 119 => 118 | 139 => 121 | 138 => 120 | n => n, fun | 3 => 1 | 4 => 2 | n => n⟩
theorem Tryd.lays160 : Go.Proofs.Lays.n160 Tryd.prog Tryd.lays160_ren := {
  mixed := by kernel_rfl
  f119 := Tryd.func94.trans (congrArg some (by kernel_rfl))
  f120 := Tryd.func91.trans (congrArg some (by kernel_rfl))
  f137 := Tryd.func77.trans (congrArg some (by kernel_rfl))
  f151 := Tryd.func82.trans (congrArg some (by kernel_rfl))
  f152 := Tryd.func90.trans (congrArg some (by kernel_rfl))
  f160 := Tryd.func65.trans (congrArg some (by kernel_rfl))
  f197 := Tryd.func81.trans (congrArg some (by kernel_rfl))
  f217 := Tryd.func84.trans (congrArg some (by kernel_rfl))
  f224 := Tryd.func87.trans (congrArg some (by kernel_rfl))
  f225 := Tryd.func86.trans (congrArg some (by kernel_rfl))
  f227 := Tryd.func72.trans (congrArg some (by kernel_rfl))
  f228 := Tryd.func80.trans (congrArg some (by kernel_rfl))
  f231 := Tryd.func70.trans (congrArg some (by kernel_rfl))
  f232 := Tryd.func71.trans (congrArg some (by kernel_rfl))
  f233 := Tryd.func73.trans (congrArg some (by kernel_rfl))
  f234 := Tryd.func74.trans (congrArg some (by kernel_rfl))
  f235 := Tryd.func75.trans (congrArg some (by kernel_rfl))
  f236 := Tryd.func76.trans (congrArg some (by kernel_rfl))
  f260 := Tryd.func89.trans (congrArg some (by kernel_rfl))
  f266 := Tryd.func92.trans (congrArg some (by kernel_rfl))
  f271 := Tryd.func83.trans (congrArg some (by kernel_rfl))
  t0 := Tryd.underlying0
  a0 := Tryd.isAgg0
  z0 := Tryd.sizeOf0
  v0 := Tryd.zeroValue0
  t3 := Tryd.underlying3
  a3 := Tryd.isAgg3
  z3 := Tryd.sizeOf3
  v3 := Tryd.zeroValue3
  t4 := Tryd.underlying4
  a4 := Tryd.isAgg4
  z4 := Tryd.sizeOf4
  v4 := Tryd.zeroValue4
  t5 := Tryd.underlying5
  a5 := Tryd.isAgg5
  z5 := Tryd.sizeOf5
  v5 := Tryd.zeroValue5
  t9 := Tryd.underlying9
  a9 := Tryd.isAgg9
  z9 := Tryd.sizeOf9
  v9 := Tryd.zeroValue9
  t21 := Tryd.underlying21
  a21 := Tryd.isAgg21
  z21 := Tryd.sizeOf21
  v21 := Tryd.zeroValue21
  t46 := Tryd.underlying113
  a46 := Tryd.isAgg113
  z46 := Tryd.sizeOf113
  v46 := Tryd.zeroValue113
  t105 := Tryd.underlying109
  a105 := Tryd.isAgg109
  z105 := Tryd.sizeOf109
  v105 := Tryd.zeroValue109
  t116 := Tryd.underlying101
  a116 := Tryd.isAgg101
  z116 := Tryd.sizeOf101
  t117 := Tryd.underlying102
  a117 := Tryd.isAgg102
  z117 := Tryd.sizeOf102
  v117 := Tryd.zeroValue102
  t119 := Tryd.underlying118
  a119 := Tryd.isAgg118
  z119 := Tryd.sizeOf118
  t124 := Tryd.underlying105
  a124 := Tryd.isAgg105
  z124 := Tryd.sizeOf105
  v124 := Tryd.zeroValue105
  t138 := Tryd.underlying120
  a138 := Tryd.isAgg120
  z138 := Tryd.sizeOf120
  v138 := Tryd.zeroValue120
  t139 := Tryd.underlying121
  a139 := Tryd.isAgg121
  z139 := Tryd.sizeOf121
  v139 := Tryd.zeroValue121
  g3 := by kernel_rfl
  g4 := by kernel_rfl }
def Tryd.lays137_ren : Go.Shelf.Ren := ⟨fun | 137 => 77 | 217 => 84 | 266 => 92 | n => n, fun | 9 => 9 | 5 => 5 | 3 => 3 | n => n, fun | n => n⟩
theorem Tryd.lays137 : Go.Proofs.Lays.n137 Tryd.prog Tryd.lays137_ren := {
  mixed := by kernel_rfl
  f137 := Tryd.func77.trans (congrArg some (by kernel_rfl))
  f217 := Tryd.func84.trans (congrArg some (by kernel_rfl))
  f266 := Tryd.func92.trans (congrArg some (by kernel_rfl))
  t3 := Tryd.underlying3
  a3 := Tryd.isAgg3
  z3 := Tryd.sizeOf3
  v3 := Tryd.zeroValue3
  t5 := Tryd.underlying5
  a5 := Tryd.isAgg5
  z5 := Tryd.sizeOf5
  v5 := Tryd.zeroValue5
  t9 := Tryd.underlying9
  a9 := Tryd.isAgg9
  z9 := Tryd.sizeOf9
  v9 := Tryd.zeroValue9 }
def Tryd.lays144_ren : Go.Shelf.Ren := ⟨fun | 144 => 64 | 143 => 69 | 219 => 79 | 217 => 84 | 225 => 86 | 224 => 87 | 267 => 88 | 266 => 92 | 314 => 93 | n => n, fun | 9 => 9 | 4 => 4 | 3 => 3 | 5 => 5 | 46 => 113 | 146 => 116 | 51 => 115 | n => n, fun | 1 => 0 | n => n⟩
theorem Tryd.lays144 : Go.Proofs.Lays.n144 Tryd.prog Tryd.lays144_ren := {
  mixed := by kernel_rfl
  f143 := Tryd.func69.trans (congrArg some (by kernel_rfl))
  f144 := Tryd.func64.trans (congrArg some (by kernel_rfl))
  f217 := Tryd.func84.trans (congrArg some (by kernel_rfl))
  f219 := Tryd.func79.trans (congrArg some (by kernel_rfl))
  f224 := Tryd.func87.trans (congrArg some (by kernel_rfl))
  f225 := Tryd.func86.trans (congrArg some (by kernel_rfl))
  f266 := Tryd.func92.trans (congrArg some (by kernel_rfl))
  f267 := Tryd.func88.trans (congrArg some (by kernel_rfl))
  f314 := Tryd.func93.trans (congrArg some (by kernel_rfl))
  t3 := Tryd.underlying3
  a3 := Tryd.isAgg3
  z3 := Tryd.sizeOf3
  v3 := Tryd.zeroValue3
  t4 := Tryd.underlying4
  a4 := Tryd.isAgg4
  z4 := Tryd.sizeOf4
  v4 := Tryd.zeroValue4
  t5 := Tryd.underlying5
  a5 := Tryd.isAgg5
  z5 := Tryd.sizeOf5
  v5 := Tryd.zeroValue5
  t9 := Tryd.underlying9
  a9 := Tryd.isAgg9
  z9 := Tryd.sizeOf9
  v9 := Tryd.zeroValue9
  t46 := Tryd.underlying113
  a46 := Tryd.isAgg113
  z46 := Tryd.sizeOf113
  v46 := Tryd.zeroValue113
  t51 := Tryd.underlying115
  a51 := Tryd.isAgg115
  z51 := Tryd.sizeOf115
  v51 := Tryd.zeroValue115
  t146 := Tryd.underlying116
  a146 := Tryd.isAgg116
  z146 := Tryd.sizeOf116
  v146 := Tryd.zeroValue116
  g1 := by kernel_rfl }
end Go.Proofs
namespace Go.Eng
open Go Go.Proofs Go.RowKit
theorem keep_below {w w' : World} (h : Below w.heap.size w w') : Keep NoB w w' := ⟨h.os, h.tape, h.output, h.size, fun i hi _ => h.block i hi⟩

theorem trim_nil (l cs : List UInt8) : Lib.trimS l cs = [] ↔ ∀ b ∈ l, b ∈ cs := by
  unfold Lib.trimS Lib.trimLeftS Lib.trimRightS
  have hdrop : ∀ m : List UInt8, m.dropWhile (cs.contains ·) = [] ↔ ∀ b ∈ m, b ∈ cs := by
    intro m
    induction m with
    | nil => simp
    | cons x r ih =>
      rw [List.dropWhile_cons]
      by_cases hx : x ∈ cs
      · rw [if_pos (by simpa using hx), ih]
        simp [hx]
      · rw [if_neg (by simpa using hx)]
        simp [hx]
  rw [hdrop]
  have hsub : (∀ b ∈ (l.reverse.dropWhile (cs.contains ·)).reverse, b ∈ cs) ↔ l.reverse.dropWhile (cs.contains ·) = [] := by
    constructor
    · intro h
      cases hm : l.reverse.dropWhile (cs.contains ·) with
      | nil => rfl
      | cons x r =>
        have h1 : x ∈ cs := h x (by rw [hm]; simp)
        have h2 : ∀ m : List UInt8, ∀ x r, m.dropWhile (cs.contains ·) = x :: r → ¬ x ∈ cs := by
          intro m
          induction m with
          | nil => intro x r h; cases h
          | cons y s ih =>
            intro x r h
            rw [List.dropWhile_cons] at h
            by_cases hy : y ∈ cs
            · rw [if_pos (by simpa using hy)] at h
              exact ih x r h
            · rw [if_neg (by simpa using hy)] at h
              cases h; exact hy
        exact absurd h1 (h2 _ x r hm)
    · intro h
      rw [h]; simp
  rw [hsub, hdrop]
  simp

theorem index_mem : ∀ (l : List UInt8) (b : UInt8), 0 ≤ Lib.indexByte l b ↔ b ∈ l
  | [], b => by simp [Lib.indexByte]
  | x :: r, b => by
    have ih := index_mem r b
    have hg := Lib.indexByte_ge r b
    by_cases hx : x = b
    · subst hx; simp [Lib.indexByte]
    · have hne : ¬ b = x := fun h => hx h.symm
      have hbq : (x == b) = false := by simpa using hx
      have he : Lib.indexByte (x :: r) b = if Lib.indexByte r b == -1 then -1 else Lib.indexByte r b + 1 := by
        rw [Lib.indexByte, hbq]; rfl
      rw [he, List.mem_cons]
      constructor
      · intro h
        by_cases hm : Lib.indexByte r b = -1
        · rw [if_pos (by simpa using hm)] at h; omega
        · exact .inr (ih.1 (by omega))
      · rintro (h | h)
        · exact absurd h hne
        · have := ih.2 h
          rw [if_neg (by simp; omega)]; omega

theorem ext : Ext cfg :=
  { str := by kernel_rfl
    trim := fun s cut w hs hc ha => by
      have h := Any.strings_Trim_laid Tryd.lays160 (by kernel_rfl) s cut w (by omega) (by omega) (fun j b hj => ha b (List.mem_of_getElem? hj))
      have h : Calls Tryd.prog 65 #[.string s, .string cut] w fun e w' => e = .returned (.string ⟨(Lib.trimS s.data.toList cut.data.toList).toArray⟩) ∧ Below w.heap.size w w' := h
      refine ret_of_calls (P := cfg.P) (f := 65) Tryd.func65 (by kernel_rfl) (by kernel_rfl) (h.mono ?_)
      rintro e w' ⟨rfl, hB⟩
      refine ⟨_, rfl, keep_below hB, _, rfl, ?_⟩
      rw [ByteArray.toList_eq, List.toList_toArray]
      exact trim_nil _ _
    idx := fun s b w => by
      have h := Any.strings_IndexByte Tryd.lays137 s b.toNat w
      have h : Calls Tryd.prog 77 #[.string s, .int .u8 b.toNat] w fun e w' => e = .returned (.int .i64 (Lib.indexByte s.data.toList ((b.toNat : Int)).toNat.toUInt8)) ∧ w' = w := h
      refine ret_of_calls (P := cfg.P) (f := 77) Tryd.func77 (by kernel_rfl) (by kernel_rfl) (h.mono ?_)
      rintro e w' ⟨rfl, hw⟩
      have hw := hw.symm
      subst hw
      refine ⟨_, rfl, Keep.refl _ _, _, rfl, ?_⟩
      rw [Int.toNat_natCast, show b.toNat.toUInt8 = b from UInt8.ofNat_toNat]
      exact index_mem _ _
    has1 := fun s b w => by
      have h := Any.strings_Contains_one Tryd.lays144 s b w
      have h : Calls Tryd.prog cfg.f_strings_Contains #[.string s, .string ⟨#[b]⟩] w fun e w' => e = .returned (.bool (decide (0 ≤ Lib.indexByte s.data.toList b))) ∧ w' = w := h
      refine ret_of_calls (P := cfg.P) (f := cfg.f_strings_Contains) Tryd.func64 (by kernel_rfl) (by kernel_rfl) (h.mono ?_)
      rintro e w' ⟨rfl, hw⟩
      have hw := hw.symm
      subst hw
      exact ⟨_, rfl, Keep.refl _ _, _, rfl, by rw [decide_eq_true_iff]; exact index_mem _ _⟩ }
end Go.Eng

