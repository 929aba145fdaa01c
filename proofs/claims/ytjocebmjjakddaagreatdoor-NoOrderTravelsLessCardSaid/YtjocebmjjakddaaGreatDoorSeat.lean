/- Part of a proof: the law NoOrderTravelsLess gives true for every list of integers and leaves its argument as it was; there are no conditions beyond those that the given row states. -/
import Derived.Test.YtjocebmjjakddaaGreatDoorWp
import Derived.Test.YtjocebmjjakddaaGreatDoorProg
import Derived.KernelRfl
import Derived.Test.YtjocebmjjakddaaGreatDoorPb
import Derived.Shelf.Strings.SlTrimAscii
import Derived.Shelf.Small.Strs
import Derived.Shelf.Strings.Search3
import Derived.Shelf.SlSortCmp.WholeK
import Derived.Shelf.SlSortCmp.NoneTotal
import Derived.Test.YtjocebmjjakddaaGreatDoorSc
import Derived.Test.YtjocebmjjakddaaGreatDoorSa
set_option linter.unusedVariables false
set_option linter.unusedSimpArgs false
/-! The functions of this program are those of AWp. -/
namespace Go.Eng
open Go Go.Proofs
set_option maxRecDepth 100000

noncomputable def cfg : Cfg := {
  P := Tryz.prog
  f_blkeep1_NoOrderTravelsLess := 3
  f_blkeep1_ready := 13
  f_blmake_Below := 32
  f_blref1_PathsFault := 16
  f_blref1_PointFault := 50
  f_blref1_in := 63
  f_blref1_pathFault := 36
  f_cmp_Compare_int := 57
  f_cmp_isNaN_int := 69
  f_farm_CheckJobs := 88
  f_farm_CheckPlan := 60
  f_farm_CheckPrinters := 87
  f_farm_Ends := 31
  f_farm_clock_do := 62
  f_farm_ends := 49
  f_farm_fault := 73
  f_farm_isChange := 61
  f_farm_planned := 48
  f_flow_CheckBeads := 42
  f_flow_Volume := 29
  f_flow_volume := 43
  f_internal_bytealg_IndexByteString := 107
  f_internal_stringslite_IndexByte := 99
  f_kit_IsKey := 95
  f_kit_Outside := 51
  f_math_bits_Len := 68
  f_math_bits_Len32 := 85
  f_math_bits_Len64 := 86
  f_p_blmake_Stream_Flip := 34
  f_p_blmake_Stream_Next := 14
  f_p_blmake_Stream_Odd := 35
  f_p_blmake_Stream_Order := 6
  f_p_blmake_Stream_PathList := 15
  f_p_blmake_Stream_Pick := 33
  f_p_blmake_Stream_Range := 4
  f_p_blmake_Stream_RightPaths := 5
  f_p_path_finder_next := 19
  f_p_slices_xorshift_Next := 92
  f_p_strings_asciiSet_contains := 108
  f_path_Begun := 9
  f_path_Best := 7
  f_path_CheckOrder := 12
  f_path_CheckPaths := 27
  f_path_Distance := 21
  f_path_Improved := 10
  f_path_Nearest := 8
  f_path_PathFault := 40
  f_path_Travel := 11
  f_path_abs := 39
  f_path_choices := 18
  f_path_ends := 38
  f_path_exchange := 26
  f_path_indicesFault := 22
  f_path_nearest := 23
  f_path_orderFault := 28
  f_path_startFault := 24
  f_path_startPathsFault := 17
  f_path_travel := 20
  f_path_visitFault := 41
  f_region_Area := 30
  f_region_CheckRegion := 44
  f_region_CheckRegion_1 := 56
  f_region_CheckRing := 53
  f_region_Doubled := 47
  f_region_IsFar := 37
  f_region_Meet := 58
  f_region_Meet_1 := 71
  f_region_abs := 46
  f_region_apart := 70
  f_region_depths := 45
  f_region_foldsBack := 76
  f_region_isIn := 59
  f_region_sides := 54
  f_region_sidesFault := 66
  f_region_turn := 72
  f_slices_Clone_sl_api_Visit_api_Visit := 25
  f_slices_ContainsFunc_api_Ring_api_Point := 65
  f_slices_ContainsFunc_sl_api_Point_api_Point := 52
  f_slices_Contains_sl_bool_bool := 74
  f_slices_IndexFunc_api_Ring_api_Point := 75
  f_slices_IndexFunc_sl_api_Point_api_Point := 64
  f_slices_Index_sl_bool_bool := 89
  f_slices_SortFunc_sl_region_side_region_side := 55
  f_slices_breakPatternsCmpFunc_region_side := 79
  f_slices_choosePivotCmpFunc_region_side := 80
  f_slices_heapSortCmpFunc_region_side := 78
  f_slices_insertionSortCmpFunc_region_side := 77
  f_slices_medianAdjacentCmpFunc_region_side := 93
  f_slices_medianCmpFunc_region_side := 94
  f_slices_nextPowerOfTwo := 91
  f_slices_order2CmpFunc_region_side := 96
  f_slices_partialInsertionSortCmpFunc_region_side := 82
  f_slices_partitionCmpFunc_region_side := 84
  f_slices_partitionEqualCmpFunc_region_side := 83
  f_slices_pdqsortCmpFunc_region_side := 67
  f_slices_reverseRangeCmpFunc_region_side := 81
  f_slices_siftDownCmpFunc_region_side := 90
  f_strings_IndexByte := 97
  f_strings_Trim := 98
  f_strings_trimLeftASCII := 103
  f_strings_trimLeftByte := 100
  f_strings_trimRightASCII := 104
  f_strings_trimRightByte := 101
  t_api_Bead := 76
  t_api_Job := 88
  t_api_Path := 91
  t_api_Point := 28
  t_api_Printer := 85
  t_api_Ring := 80
  t_api_Visit := 43
  t_blmake_Stream := 25
  t_bool := 4
  t_farm_clock := 123
  t_int := 3
  t_map_api_Point_bool := 127
  t_map_api_Point_int := 56
  t_map_int_int := 55
  t_path_choice := 58
  t_path_finder := 53
  t_path_way := 69
  t_region_side := 117
  t_sl_api_Bead := 77
  t_sl_api_Job := 89
  t_sl_api_Path := 29
  t_sl_api_Point := 79
  t_sl_api_Printer := 86
  t_sl_api_Ring := 81
  t_sl_api_Visit := 32
  t_sl_bool := 63
  t_sl_int := 22
  t_sl_map_int_int := 51
  t_sl_path_choice := 50
  t_sl_region_side := 113
  t_sl_sl_api_Point := 95
  t_sl_sl_api_Visit := 38
  t_sl_sl_int := 67
  t_sl_sl_path_choice := 66
  t_slices_xorshift := 152
  t_string := 9
  t_strings_asciiSet := 165
  t_uint := 130 }

theorem cfg_mixed : Tryz.prog.follows .mixedOrders = true := by kernel_rfl

theorem eq_blkeep1_NoOrderTravelsLess (a0 w : _) (R : Value → World → Prop) (h : wp_blkeep1_NoOrderTravelsLess cfg a0 w R) : Ret cfg.P cfg.f_blkeep1_NoOrderTravelsLess #[a0] w R :=
  ret_of_fn cfg_mixed Tryz.f3 (.s (.r .seq none) (.s (.r .seq none) (.s (.r .seq none) (.s (.r .seq none) (.s (.r .seq none) (.s (.r .seq none) (.s (.r .seq none) (.s (.r .seq none) (.s (.s (.r .seq (some [97])) (.c (.s (.r .seq none) .z) .z)) (.s (.s (.r .seq none) (.i (.l [104] (.s (.r .seq none) (.s (.c .z .z) (.s (.i (.s (.r .seq none) (.s (.r .seq none) (.s (.r .seq (some [135])) (.c (.s (.r .seq none) .z) .z))))) (.r .seq none))))))) (.s (.s (.r .seq none) (.i (.l [139] (.s (.r .seq none) (.s (.c .z .z) (.s (.i (.s (.r .seq none) (.s (.r (.quiet 7) none) (.c (.s (.r .seq none) .z) .z)))) (.r .seq none))))))) (.s (.r .seq none) .z)))))))))))) Tryz.func3 (by kernel_rfl) (by kernel_rfl) h (by kernel_rfl)

theorem eq_p_blmake_Stream_Range (a0 a1 a2 w : _) (R : Value → World → Prop) (h : wp_p_blmake_Stream_Range cfg a0 a1 a2 w R) : Ret cfg.P cfg.f_p_blmake_Stream_Range #[a0, a1, a2] w R :=
  ret_of_fn cfg_mixed Tryz.f4 (.s (.r .seq none) (.s (.s (.r .seq none) (.c (.s (.r .seq none) .z) .z)) (.s (.r .seq none) .z))) Tryz.func4 (by kernel_rfl) (by kernel_rfl) h (by kernel_rfl)

theorem eq_p_blmake_Stream_RightPaths (a0 a1 w : _) (R : Value → World → Prop) (h : wp_p_blmake_Stream_RightPaths cfg a0 a1 w R) : Ret cfg.P cfg.f_p_blmake_Stream_RightPaths #[a0, a1] w R :=
  ret_of_fn cfg_mixed Tryz.f5 (.s (.r .seq none) (.s (.s (.r .seq none) (.i (.l [6] (.s (.r .seq none) (.s (.c .z .z) (.s (.i (.s (.r .seq none) (.s (.r .seq none) (.c (.s (.r .seq none) .z) .z)))) (.r .seq none))))))) (.s (.r .seq none) .z))) Tryz.func5 (by kernel_rfl) (by kernel_rfl) h (by kernel_rfl)

theorem eq_p_blmake_Stream_Order (a0 a1 w : _) (R : Value → World → Prop) (h : wp_p_blmake_Stream_Order cfg a0 a1 w R) : Ret cfg.P cfg.f_p_blmake_Stream_Order #[a0, a1] w R :=
  ret_of_fn cfg_mixed Tryz.f6 (.s (.r .seq none) (.s (.r .seq none) (.s (.s (.r .seq none) (.i (.l [5, 10] (.s (.r .seq none) (.s (.c .z .z) (.s (.i (.s (.r .seq none) (.r .seq none))) (.r .seq none))))))) (.s (.s (.r .seq none) (.i (.l [7] (.s (.s (.r .seq none) (.c .z .z)) (.s (.i (.s (.r .seq none) (.r (.quiet 13) none))) (.r .seq none)))))) (.s (.r .seq none) .z))))) Tryz.func6 (by kernel_rfl) (by kernel_rfl) h (by kernel_rfl)

theorem eq_path_Best (a0 a1 w : _) (R : Value → World → Prop) (h : wp_path_Best cfg a0 a1 w R) : Ret cfg.P cfg.f_path_Best #[a0, a1] w R :=
  ret_of_fn cfg_mixed Tryz.f7 (.s (.r .seq none) (.s (.s (.r .seq none) (.s (.r .seq none) (.c (.s (.r .seq none) .z) .z))) (.s (.s (.r .seq none) (.c (.s (.r .seq none) .z) .z)) (.s (.r .seq none) (.s (.s (.r .seq none) (.i (.l [35] (.s (.r .seq none) (.s (.c .z .z) (.s (.i (.s (.r .seq none) (.r (.held 8) none))) (.r .seq none))))))) (.s (.s (.r .seq none) (.i (.l [55] (.s (.r .seq none) (.s (.c .z .z) (.s (.i (.r .seq none)) (.r .seq none))))))) (.s (.s (.r .seq none) (.i (.l [10] (.s (.s (.r .seq none) (.c .z .z)) (.s (.i (.s (.r .seq none) (.s (.r .seq none) (.i (.l [82] (.s (.r .seq none) (.s (.c .z .z) (.s (.b [] (.s (.r .seq none) (.s (.s (.r .seq none) (.c .z .z)) (.s (.r .seq none) (.s (.s (.r .seq none) (.cj [14] (.s (.r .seq none) (.r .seq none)) .z)) (.r .seq none)))))) (.r .seq none))))))))) (.r .seq none)))))) (.s (.r .seq none) (.s (.r .seq none) (.s (.s (.r .seq none) (.i (.l [16, 18] (.s (.s (.r .seq none) (.c .z .z)) (.i (.s (.r .seq none) (.s (.r .seq none) (.s (.r .seq none) (.r (.held 9) none))))))))) (.s (.r .seq none) .z))))))))))) Tryz.func7 (by kernel_rfl) (by kernel_rfl) h (by kernel_rfl)

theorem eq_path_Nearest (a0 a1 w : _) (R : Value → World → Prop) (h : wp_path_Nearest cfg a0 a1 w R) : Ret cfg.P cfg.f_path_Nearest #[a0, a1] w R :=
  ret_of_fn cfg_mixed Tryz.f8 (.s (.r .seq none) (.s (.s (.r .seq none) (.s (.r .seq none) (.c (.s (.r .seq none) .z) .z))) (.s (.r .seq none) (.s (.r .seq none) (.s (.r .seq none) (.s (.s (.r .seq none) (.i (.l [9, 28] (.s (.r .seq none) (.s (.c .z .z) (.s (.i (.s (.r .seq none) (.s (.r .seq none) (.s (.s (.r .seq none) (.i (.l [12, 32] (.s (.r .seq none) (.s (.c .z .z) (.s (.b [12] (.s (.r .seq none) (.s (.s (.r .seq none) (.c .z .z)) (.s (.r .seq none) (.i (.l [12, 43] (.s (.r .seq none) (.s (.c .z .z) (.s (.b [12] (.s (.r .seq none) (.s (.r (.held 13) (some [59])) (.cj [12] (.r .seq none) .z)))) (.r .seq none)))))))))) (.r .seq none))))))) (.s (.r .seq none) (.s (.r .seq none) (.r .seq none))))))) (.r .seq none))))))) (.s (.r .seq none) .z))))))) Tryz.func8 (by kernel_rfl) (by kernel_rfl) h (by kernel_rfl)

theorem eq_path_Begun (a0 a1 a2 w : _) (R : Value → World → Prop) (h : wp_path_Begun cfg a0 a1 a2 w R) : Ret cfg.P cfg.f_path_Begun #[a0, a1, a2] w R :=
  ret_of_fn cfg_mixed Tryz.f9 (.s (.r .seq none) (.s (.s (.r .seq none) (.s (.r .seq none) (.c (.s (.r .seq none) .z) .z))) (.s (.s (.r .seq none) (.s (.r .seq none) (.c (.s (.r .seq none) .z) .z))) (.s (.r .seq none) (.s (.r .seq none) (.s (.s (.r .seq none) (.i (.l [13] (.s (.s (.r .seq none) (.c .z .z)) (.s (.i (.s (.r .seq none) (.s (.r .seq none) (.i (.l [62] (.s (.r .seq none) (.s (.c .z .z) (.s (.i (.s (.r .seq none) (.s (.r .seq none) (.s (.s (.r .seq none) (.cj [16] (.r (.held 14) none) .z)) (.r .seq none))))) (.r .seq none))))))))) (.r .seq none)))))) (.s (.r .seq none) (.s (.r .seq none) (.s (.s (.r .seq none) (.i (.l [17, 99] (.s (.r .seq none) (.s (.c .z .z) (.s (.i (.s (.r .seq none) (.s (.r (.held 18) (some [20])) (.s (.r .seq none) (.r .seq none))))) (.r .seq none))))))) (.s (.r .seq none) .z)))))))))) Tryz.func9 (by kernel_rfl) (by kernel_rfl) h (by kernel_rfl)

theorem eq_path_Improved (a0 a1 a2 w : _) (R : Value → World → Prop) (h : wp_path_Improved cfg a0 a1 a2 w R) : Ret cfg.P cfg.f_path_Improved #[a0, a1, a2] w R :=
  ret_of_fn cfg_mixed Tryz.f10 (.s (.r .seq none) (.s (.s (.r .seq none) (.s (.r .seq none) (.c (.s (.r .seq none) .z) .z))) (.s (.r .seq none) (.s (.i (.l [] (.s (.s (.r .seq none) (.c .z .z)) (.i .z)))) (.s (.r .seq none) .z))))) Tryz.func10 (by kernel_rfl) (by kernel_rfl) h (by kernel_rfl)

theorem eq_path_Travel (a0 a1 a2 w : _) (R : Value → World → Prop) (h : wp_path_Travel cfg a0 a1 a2 w R) : Ret cfg.P cfg.f_path_Travel #[a0, a1, a2] w R :=
  ret_of_fn cfg_mixed Tryz.f11 (.s (.r .seq none) (.s (.s (.r .seq none) (.s (.r .seq none) (.c (.s (.r .seq none) .z) .z))) (.s (.r .seq none) .z))) Tryz.func11 (by kernel_rfl) (by kernel_rfl) h (by kernel_rfl)

theorem eq_path_CheckOrder (a0 a1 w : _) (R : Value → World → Prop) (h : wp_path_CheckOrder cfg a0 a1 w R) : Ret cfg.P cfg.f_path_CheckOrder #[a0, a1] w R :=
  ret_of_fn cfg_mixed Tryz.f12 (.s (.r .seq none) (.s (.s (.r .seq none) (.s (.r .seq none) (.c (.s (.r .seq none) .z) .z))) (.s (.r .seq none) .z))) Tryz.func12 (by kernel_rfl) (by kernel_rfl) h (by kernel_rfl)

theorem eq_blkeep1_ready ( w : _) (R : Value → World → Prop) (h : wp_blkeep1_ready cfg  w R) : Ret cfg.P cfg.f_blkeep1_ready #[] w R :=
  ret_of_fn cfg_mixed Tryz.f13 (.s (.r .seq none) (.s (.r .seq none) (.s (.r .seq none) (.s (.r .seq none) (.s (.r .seq (some [0])) .z))))) Tryz.func13 (by kernel_rfl) (by kernel_rfl) h (by kernel_rfl)

theorem eq_p_blmake_Stream_Next (a0 a1 w : _) (R : Value → World → Prop) (h : wp_p_blmake_Stream_Next cfg a0 a1 w R) : Ret cfg.P cfg.f_p_blmake_Stream_Next #[a0, a1] w R :=
  ret_of_fn cfg_mixed Tryz.f14 (.s (.r .seq none) (.s (.r .seq none) (.s (.s (.r .seq none) (.c (.s (.r .seq none) .z) .z)) (.s (.r (.quiet 12) none) (.s (.r (.quiet 12) none) (.s (.r .seq none) .z)))))) Tryz.func14 (by kernel_rfl) (by kernel_rfl) h (by kernel_rfl)

theorem eq_p_blmake_Stream_PathList (a0 a1 w : _) (R : Value → World → Prop) (h : wp_p_blmake_Stream_PathList cfg a0 a1 w R) : Ret cfg.P cfg.f_p_blmake_Stream_PathList #[a0, a1] w R :=
  ret_of_fn cfg_mixed Tryz.f15 (.s (.r .seq none) (.s (.r .seq none) (.s (.s (.r .seq none) (.i (.l [5, 11] (.s (.r .seq none) (.s (.c .z .z) (.s (.i (.s (.r .seq none) (.s (.s (.r .seq none) (.i (.l [15] (.s (.r .seq none) (.s (.c .z .z) (.s (.i (.r (.held 10) (some []))) (.r .seq none))))))) (.s (.r .seq (some [])) (.r .seq none))))) (.r .seq none))))))) (.s (.s (.r .seq (some [50])) (.cj [] (.s (.r .seq none) (.r .seq none)) .z)) (.s (.r .seq none) .z))))) Tryz.func15 (by kernel_rfl) (by kernel_rfl) h (by kernel_rfl)

theorem eq_blref1_PathsFault (a0 w : _) (R : Value → World → Prop) (h : wp_blref1_PathsFault cfg a0 w R) : Ret cfg.P cfg.f_blref1_PathsFault #[a0] w R :=
  ret_of_fn cfg_mixed Tryz.f16 (.s (.r .seq none) (.s (.s (.r .seq none) (.c (.s (.r .seq none) .z) .z)) (.s (.s (.r .seq none) (.i (.l [11] (.s (.r .seq none) (.s (.c .z .z) (.s (.i (.s (.r .seq none) (.s (.r .seq none) (.s (.r .seq none) (.c (.s (.r .seq none) .z) .z))))) (.r .seq none))))))) (.s (.r .seq none) .z)))) Tryz.func16 (by kernel_rfl) (by kernel_rfl) h (by kernel_rfl)

theorem eq_path_startPathsFault (a0 a1 w : _) (R : Value → World → Prop) (h : wp_path_startPathsFault cfg a0 a1 w R) : Ret cfg.P cfg.f_path_startPathsFault #[a0, a1] w R :=
  ret_of_fn cfg_mixed Tryz.f17 (.s (.r .seq none) (.s (.s (.r .seq none) (.c (.s (.r .seq none) .z) .z)) (.s (.r .seq none) .z))) Tryz.func17 (by kernel_rfl) (by kernel_rfl) h (by kernel_rfl)

theorem eq_path_choices (a0 a1 w : _) (R : Value → World → Prop) (h : wp_path_choices cfg a0 a1 w R) : Ret cfg.P cfg.f_path_choices #[a0, a1] w R :=
  ret_of_fn cfg_mixed Tryz.f18 (.s (.r .seq none) (.s (.r .seq none) (.s (.s (.r .seq none) (.cj [5] (.s (.r .seq none) (.i (.l [5, 23] (.s (.r .seq none) (.s (.c .z .z) (.s (.i (.s (.r .seq none) (.r .seq none))) (.r .seq none))))))) (.r .seq none))) (.s (.r .seq none) (.s (.s (.r .seq none) (.i (.l [7, 40] (.s (.r .seq none) (.s (.c .z .z) (.s (.i (.s (.r .seq none) (.s (.r .seq none) (.r .seq none)))) (.r .seq none))))))) (.s (.r .seq none) .z)))))) Tryz.func18 (by kernel_rfl) (by kernel_rfl) h (by kernel_rfl)

theorem eq_p_path_finder_next (a0 a1 a2 w : _) (R : Value → World → Prop) (h : wp_p_path_finder_next cfg a0 a1 a2 w R) : Ret cfg.P cfg.f_p_path_finder_next #[a0, a1, a2] w R :=
  ret_of_fn cfg_mixed Tryz.f19 (.s (.r .seq none) (.s (.r .seq none) (.s (.s (.r .seq none) (.i (.l [6, 7, 16] (.s (.r .seq none) (.s (.c .z .z) (.s (.b [6, 7] (.s (.r .seq none) (.s (.s (.r .seq none) (.c .z .z)) (.s (.r (.held 19) (some [10])) (.s (.r .seq (some [53])) (.cj [6, 7] (.r .seq none) .z)))))) (.r .seq none))))))) (.s (.r .seq none) .z)))) Tryz.func19 (by kernel_rfl) (by kernel_rfl) h (by kernel_rfl)

theorem eq_path_travel (a0 a1 a2 w : _) (R : Value → World → Prop) (h : wp_path_travel cfg a0 a1 a2 w R) : Ret cfg.P cfg.f_path_travel #[a0, a1, a2] w R :=
  ret_of_fn cfg_mixed Tryz.f20 (.s (.r .seq none) (.s (.r .seq none) (.s (.s (.r .seq none) (.i (.l [7, 14] (.s (.r .seq none) (.s (.c .z .z) (.s (.i (.s (.r .seq none) (.s (.r .seq none) (.s (.r .seq none) (.r .seq none))))) (.r .seq none))))))) (.s (.r .seq none) .z)))) Tryz.func20 (by kernel_rfl) (by kernel_rfl) h (by kernel_rfl)

theorem eq_path_Distance (a0 a1 w : _) (R : Value → World → Prop) (h : wp_path_Distance cfg a0 a1 w R) : Ret cfg.P cfg.f_path_Distance #[a0, a1] w R :=
  ret_of_fn cfg_mixed Tryz.f21 (.s (.r .seq none) (.s (.r (.held 13) none) .z)) Tryz.func21 (by kernel_rfl) (by kernel_rfl) h (by kernel_rfl)

theorem eq_path_indicesFault (a0 a1 w : _) (R : Value → World → Prop) (h : wp_path_indicesFault cfg a0 a1 w R) : Ret cfg.P cfg.f_path_indicesFault #[a0, a1] w R :=
  ret_of_fn cfg_mixed Tryz.f22 (.s (.r .seq none) (.s (.s (.r .seq none) (.c (.s (.r .seq none) .z) .z)) (.s (.r .seq none) (.s (.s (.r .seq none) (.i (.l [16] (.s (.r .seq none) (.s (.c .z .z) (.s (.i (.s (.r .seq none) (.s (.s (.r .seq (some [26])) (.c (.s (.r .seq none) .z) .z)) (.s (.s (.r .seq none) (.c (.s (.r .seq none) .z) .z)) (.r .seq none))))) (.r .seq none))))))) (.s (.r .seq none) .z))))) Tryz.func22 (by kernel_rfl) (by kernel_rfl) h (by kernel_rfl)

theorem eq_path_nearest (a0 a1 a2 w : _) (R : Value → World → Prop) (h : wp_path_nearest cfg a0 a1 a2 w R) : Ret cfg.P cfg.f_path_nearest #[a0, a1, a2] w R :=
  ret_of_fn cfg_mixed Tryz.f23 (.s (.r .seq none) (.s (.r .seq none) (.s (.s (.r .seq none) (.i (.l [14] (.s (.r .seq none) (.s (.c .z .z) (.s (.b [] (.s (.r .seq none) (.s (.r (.held 9) none) (.s (.r .seq (some [36])) (.cj [] (.r .seq none) .z))))) (.r .seq none))))))) (.s (.r .seq none) .z)))) Tryz.func23 (by kernel_rfl) (by kernel_rfl) h (by kernel_rfl)

theorem eq_path_startFault (a0 a1 a2 w : _) (R : Value → World → Prop) (h : wp_path_startFault cfg a0 a1 a2 w R) : Ret cfg.P cfg.f_path_startFault #[a0, a1, a2] w R :=
  ret_of_fn cfg_mixed Tryz.f24 (.s (.r .seq none) (.s (.s (.r .seq none) (.c (.s (.r .seq none) .z) .z)) (.s (.r .seq none) .z))) Tryz.func24 (by kernel_rfl) (by kernel_rfl) h (by kernel_rfl)

theorem eq_slices_Clone_sl_api_Visit_api_Visit (a0 w : _) (R : Value → World → Prop) (h : wp_slices_Clone_sl_api_Visit_api_Visit cfg a0 w R) : Ret cfg.P cfg.f_slices_Clone_sl_api_Visit_api_Visit #[a0] w R :=
  ret_of_fn cfg_mixed Tryz.f25 (.s (.r .seq none) (.s (.s (.r .seq none) (.c (.s (.r .seq none) .z) .z)) (.s (.r .seq none) .z))) Tryz.func25 (by kernel_rfl) (by kernel_rfl) h (by kernel_rfl)

theorem eq_path_exchange (a0 a1 a2 w : _) (R : Value → World → Prop) (h : wp_path_exchange cfg a0 a1 a2 w R) : Ret cfg.P cfg.f_path_exchange #[a0, a1, a2] w R :=
  ret_of_fn cfg_mixed Tryz.f26 (.s (.r .seq none) (.s (.r .seq none) (.s (.s (.r .seq none) (.i (.l [16] (.s (.r .seq none) (.s (.c .z .z) (.s (.i (.s (.r .seq none) (.s (.r .seq none) (.i (.l [9] (.s (.s (.r .seq none) (.c .z .z)) (.s (.i (.s (.r (.quiet 13) none) (.s (.s (.r .seq none) (.c (.s (.r .seq none) .z) .z)) (.r (.quiet 13) none)))) (.r .seq none)))))))) (.r .seq none))))))) (.s (.r .seq none) .z)))) Tryz.func26 (by kernel_rfl) (by kernel_rfl) h (by kernel_rfl)

theorem eq_path_CheckPaths (a0 w : _) (R : Value → World → Prop) (h : wp_path_CheckPaths cfg a0 w R) : Ret cfg.P cfg.f_path_CheckPaths #[a0] w R :=
  ret_of_fn cfg_mixed Tryz.f27 (.s (.r .seq none) (.s (.s (.r .seq none) (.c (.s (.r .seq none) .z) .z)) (.s (.s (.r .seq none) (.i (.l [11] (.s (.r .seq none) (.s (.c .z .z) (.s (.i (.s (.r .seq none) (.s (.r .seq none) (.s (.r .seq none) (.c (.s (.r .seq none) .z) .z))))) (.r .seq none))))))) (.s (.r .seq none) .z)))) Tryz.func27 (by kernel_rfl) (by kernel_rfl) h (by kernel_rfl)

theorem eq_path_orderFault (a0 a1 w : _) (R : Value → World → Prop) (h : wp_path_orderFault cfg a0 a1 w R) : Ret cfg.P cfg.f_path_orderFault #[a0, a1] w R :=
  ret_of_fn cfg_mixed Tryz.f28 (.s (.r .seq none) (.s (.s (.r .seq none) (.c (.s (.r .seq none) .z) .z)) (.s (.r .seq none) (.s (.s (.r .seq none) (.i (.l [19] (.s (.r .seq none) (.s (.c .z .z) (.s (.i (.s (.r .seq none) (.s (.s (.r .seq (some [32])) (.c (.s (.r .seq none) .z) .z)) (.s (.s (.r .seq none) (.c (.s (.r .seq none) .z) .z)) (.s (.r .seq none) (.s (.r .seq none) (.s (.r .seq none) (.c (.s (.r .seq none) .z) .z)))))))) (.r .seq none))))))) (.s (.r .seq none) .z))))) Tryz.func28 (by kernel_rfl) (by kernel_rfl) h (by kernel_rfl)

theorem eq_flow_Volume (a0 w : _) (R : Value → World → Prop) (h : wp_flow_Volume cfg a0 w R) : Ret cfg.P cfg.f_flow_Volume #[a0] w R :=
  ret_of_fn cfg_mixed Tryz.f29 (.s (.r .seq none) (.s (.s (.r .seq none) (.s (.r .seq none) (.c (.s (.r .seq none) .z) .z))) (.s (.r .seq none) (.s (.s (.r .seq none) (.c (.s (.r .seq none) .z) .z)) (.s (.r .seq none) .z))))) Tryz.func29 (by kernel_rfl) (by kernel_rfl) h (by kernel_rfl)

theorem eq_region_Area (a0 w : _) (R : Value → World → Prop) (h : wp_region_Area cfg a0 w R) : Ret cfg.P cfg.f_region_Area #[a0] w R :=
  ret_of_fn cfg_mixed Tryz.f30 (.s (.r .seq none) (.s (.s (.r .seq none) (.s (.r .seq none) (.c (.s (.r .seq none) .z) .z))) (.s (.r .seq none) (.s (.s (.r .seq none) (.i (.l [5, 16] (.s (.r .seq none) (.s (.c .z .z) (.s (.b [5] (.s (.r .seq none) (.s (.r .seq none) (.cj [5] (.r .seq none) (.r .seq none))))) (.r .seq none))))))) (.s (.r .seq none) .z))))) Tryz.func30 (by kernel_rfl) (by kernel_rfl) h (by kernel_rfl)

theorem eq_farm_Ends (a0 a1 a2 a3 w : _) (R : Value → World → Prop) (h : wp_farm_Ends cfg a0 a1 a2 a3 w R) : Ret cfg.P cfg.f_farm_Ends #[a0, a1, a2, a3] w R :=
  ret_of_fn cfg_mixed Tryz.f31 (.s (.r .seq none) (.s (.s (.r .seq none) (.s (.r .seq none) (.c (.s (.r .seq none) .z) .z))) (.s (.r .seq none) (.s (.r .seq none) .z)))) Tryz.func31 (by kernel_rfl) (by kernel_rfl) h (by kernel_rfl)

theorem eq_blmake_Below (a0 a1 w : _) (R : Value → World → Prop) (h : wp_blmake_Below cfg a0 a1 w R) : Ret cfg.P cfg.f_blmake_Below #[a0, a1] w R :=
  ret_of_fn cfg_mixed Tryz.f32 (.s (.r .seq none) (.s (.s (.r .seq none) (.c (.s (.r .seq none) .z) .z)) (.s (.r .seq none) (.s (.s (.r .seq none) (.cj [0] (.r .seq none) .z)) (.s (.r .seq none) .z))))) Tryz.func32 (by kernel_rfl) (by kernel_rfl) h (by kernel_rfl)

theorem eq_p_blmake_Stream_Pick (a0 a1 w : _) (R : Value → World → Prop) (h : wp_p_blmake_Stream_Pick cfg a0 a1 w R) : Ret cfg.P cfg.f_p_blmake_Stream_Pick #[a0, a1] w R :=
  ret_of_fn cfg_mixed Tryz.f33 (.s (.r .seq none) (.s (.r .seq none) .z)) Tryz.func33 (by kernel_rfl) (by kernel_rfl) h (by kernel_rfl)

theorem eq_p_blmake_Stream_Flip (a0 a1 w : _) (R : Value → World → Prop) (h : wp_p_blmake_Stream_Flip cfg a0 a1 w R) : Ret cfg.P cfg.f_p_blmake_Stream_Flip #[a0, a1] w R :=
  ret_of_fn cfg_mixed Tryz.f34 (.s (.r .seq none) (.s (.r .seq none) .z)) Tryz.func34 (by kernel_rfl) (by kernel_rfl) h (by kernel_rfl)

theorem eq_p_blmake_Stream_Odd (a0 a1 a2 w : _) (R : Value → World → Prop) (h : wp_p_blmake_Stream_Odd cfg a0 a1 a2 w R) : Ret cfg.P cfg.f_p_blmake_Stream_Odd #[a0, a1, a2] w R :=
  ret_of_fn cfg_mixed Tryz.f35 (.s (.r .seq none) (.s (.s (.r .seq none) (.c (.s (.r .seq none) .z) .z)) (.s (.r .seq none) .z))) Tryz.func35 (by kernel_rfl) (by kernel_rfl) h (by kernel_rfl)

theorem eq_blref1_pathFault (a0 w : _) (R : Value → World → Prop) (h : wp_blref1_pathFault cfg a0 w R) : Ret cfg.P cfg.f_blref1_pathFault #[a0] w R :=
  ret_of_fn cfg_mixed Tryz.f36 (.s (.r .seq none) (.s (.i (.s (.r .seq none) (.c (.s (.r .seq none) .z) (.s (.r .seq none) (.c (.s (.r .seq none) .z) (.s (.r .seq (some [13])) (.c (.s (.r .seq none) .z) .z))))))) (.s (.r .seq none) .z))) Tryz.func36 (by kernel_rfl) (by kernel_rfl) h (by kernel_rfl)

theorem eq_region_IsFar (a0 w : _) (R : Value → World → Prop) (h : wp_region_IsFar cfg a0 w R) : Ret cfg.P cfg.f_region_IsFar #[a0] w R :=
  ret_of_fn cfg_mixed Tryz.f37 (.s (.r .seq none) (.s (.r .seq (some [2])) .z)) Tryz.func37 (by kernel_rfl) (by kernel_rfl) h (by kernel_rfl)

theorem eq_path_ends (a0 a1 w : _) (R : Value → World → Prop) (h : wp_path_ends cfg a0 a1 w R) : Ret cfg.P cfg.f_path_ends #[a0, a1] w R :=
  ret_of_fn cfg_mixed Tryz.f38 (.s (.r .seq none) (.s (.r .seq none) (.s (.i (.s (.r .seq none) (.c (.s (.r (.held 11) none) .z) (.s (.r .seq none) (.c (.s (.r (.held 10) none) .z) .z))))) (.s (.r (.held 10) none) .z)))) Tryz.func38 (by kernel_rfl) (by kernel_rfl) h (by kernel_rfl)

theorem eq_path_abs (a0 w : _) (R : Value → World → Prop) (h : wp_path_abs cfg a0 w R) : Ret cfg.P cfg.f_path_abs #[a0] w R :=
  ret_of_fn cfg_mixed Tryz.f39 (.s (.r .seq none) (.s (.r .seq none) .z)) Tryz.func39 (by kernel_rfl) (by kernel_rfl) h (by kernel_rfl)

theorem eq_path_PathFault (a0 w : _) (R : Value → World → Prop) (h : wp_path_PathFault cfg a0 w R) : Ret cfg.P cfg.f_path_PathFault #[a0] w R :=
  ret_of_fn cfg_mixed Tryz.f40 (.s (.r .seq none) (.s (.i (.s (.r .seq none) (.c (.s (.r .seq none) .z) (.s (.r .seq none) (.c (.s (.r .seq none) .z) (.s (.r .seq (some [13])) (.c (.s (.r .seq none) .z) (.s (.r .seq none) (.c (.s (.r .seq none) .z) .z))))))))) (.s (.r .seq none) .z))) Tryz.func40 (by kernel_rfl) (by kernel_rfl) h (by kernel_rfl)

theorem eq_path_visitFault (a0 a1 w : _) (R : Value → World → Prop) (h : wp_path_visitFault cfg a0 a1 w R) : Ret cfg.P cfg.f_path_visitFault #[a0, a1] w R :=
  ret_of_fn cfg_mixed Tryz.f41 (.s (.r .seq none) (.s (.r .seq none) (.s (.s (.r .seq (some [26])) (.c (.s (.r .seq none) .z) .z)) (.s (.s (.r .seq (some [37])) (.c (.s (.r .seq none) .z) .z)) (.s (.r .seq none) .z))))) Tryz.func41 (by kernel_rfl) (by kernel_rfl) h (by kernel_rfl)

theorem eq_flow_CheckBeads (a0 w : _) (R : Value → World → Prop) (h : wp_flow_CheckBeads cfg a0 w R) : Ret cfg.P cfg.f_flow_CheckBeads #[a0] w R :=
  ret_of_fn cfg_mixed Tryz.f42 (.s (.r .seq none) (.s (.s (.r .seq none) (.c (.s (.r .seq none) .z) .z)) (.s (.s (.r .seq none) (.i (.l [10] (.s (.r .seq none) (.s (.c .z .z) (.s (.i (.s (.r .seq none) (.s (.r .seq (some [26])) (.c (.s (.r .seq none) .z) .z)))) (.r .seq none))))))) (.s (.r .seq none) .z)))) Tryz.func42 (by kernel_rfl) (by kernel_rfl) h (by kernel_rfl)

theorem eq_flow_volume (a0 w : _) (R : Value → World → Prop) (h : wp_flow_volume cfg a0 w R) : Ret cfg.P cfg.f_flow_volume #[a0] w R :=
  ret_of_fn cfg_mixed Tryz.f43 (.s (.r .seq none) (.s (.r .seq none) (.s (.s (.r .seq none) (.i (.l [3, 8] (.s (.r .seq none) (.s (.c .z .z) (.s (.i (.s (.r .seq none) (.r .seq none))) (.r .seq none))))))) (.s (.r .seq none) .z)))) Tryz.func43 (by kernel_rfl) (by kernel_rfl) h (by kernel_rfl)

theorem eq_region_CheckRegion (a0 w : _) (R : Value → World → Prop) (h : wp_region_CheckRegion cfg a0 w R) : Ret cfg.P cfg.f_region_CheckRegion #[a0] w R :=
  ret_of_fn cfg_mixed Tryz.f44 (.s (.r .seq none) (.s (.r .seq none) (.s (.s (.r .seq none) (.i (.l [3, 16] (.s (.r .seq none) (.s (.c .z .z) (.s (.i (.s (.r .seq none) (.r .seq none))) (.r .seq none))))))) (.s (.s (.r .seq (some [31])) (.c (.s (.r .seq none) .z) .z)) (.s (.s (.r .seq none) (.i (.l [34] (.s (.r .seq none) (.s (.c .z .z) (.s (.i (.s (.r .seq none) (.s (.r .seq none) (.s (.r .seq none) (.c (.s (.r .seq none) .z) .z))))) (.r .seq none))))))) (.s (.r .seq none) (.s (.r .seq none) (.s (.s (.r .seq none) (.i (.l [50] (.s (.r .seq none) (.s (.c .z .z) (.s (.i (.s (.r .seq none) (.s (.r .seq none) (.b [] (.l [60] (.s (.r .seq none) (.s (.c .z .z) (.s (.i (.s (.r .seq none) (.s (.s (.r .seq none) (.c .z .z)) (.s (.r .seq (some [94])) (.c (.s (.r .seq none) .z) .z))))) (.r .seq none))))))))) (.r .seq none))))))) (.s (.r .seq none) .z))))))))) Tryz.func44 (by kernel_rfl) (by kernel_rfl) h (by kernel_rfl)

theorem eq_region_depths (a0 w : _) (R : Value → World → Prop) (h : wp_region_depths cfg a0 w R) : Ret cfg.P cfg.f_region_depths #[a0] w R :=
  ret_of_fn cfg_mixed Tryz.f45 (.s (.r .seq none) (.s (.r .seq none) (.s (.s (.r .seq none) (.i (.l [13] (.s (.r .seq none) (.s (.c .z .z) (.s (.i (.s (.r .seq none) (.s (.r .seq none) (.i (.l [20] (.s (.r .seq none) (.s (.c .z .z) (.s (.b [] (.s (.r .seq none) (.s (.r .seq (some [34])) (.cj [] (.r .seq none) .z)))) (.r .seq none))))))))) (.r .seq none))))))) (.s (.r .seq none) .z)))) Tryz.func45 (by kernel_rfl) (by kernel_rfl) h (by kernel_rfl)

theorem eq_region_abs (a0 w : _) (R : Value → World → Prop) (h : wp_region_abs cfg a0 w R) : Ret cfg.P cfg.f_region_abs #[a0] w R :=
  ret_of_fn cfg_mixed Tryz.f46 (.s (.r .seq none) (.s (.r .seq none) .z)) Tryz.func46 (by kernel_rfl) (by kernel_rfl) h (by kernel_rfl)

theorem eq_region_Doubled (a0 w : _) (R : Value → World → Prop) (h : wp_region_Doubled cfg a0 w R) : Ret cfg.P cfg.f_region_Doubled #[a0] w R :=
  ret_of_fn cfg_mixed Tryz.f47 (.s (.r .seq none) (.s (.r .seq none) (.s (.s (.r .seq none) (.i (.l [3, 9] (.s (.r .seq none) (.s (.c .z .z) (.s (.i (.s (.r .seq none) (.s (.r .seq none) (.r .seq none)))) (.r .seq none))))))) (.s (.r .seq none) .z)))) Tryz.func47 (by kernel_rfl) (by kernel_rfl) h (by kernel_rfl)

theorem eq_farm_planned (a0 a1 a2 a3 w : _) (R : Value → World → Prop) (h : wp_farm_planned cfg a0 a1 a2 a3 w R) : Ret cfg.P cfg.f_farm_planned #[a0, a1, a2, a3] w R :=
  ret_of_fn cfg_mixed Tryz.f48 (.s (.r .seq none) (.s (.s (.r .seq none) (.s (.r .seq none) (.c (.s (.r .seq none) .z) .z))) (.s (.s (.r .seq none) (.c (.s (.r .seq none) .z) .z)) (.s (.r .seq none) .z)))) Tryz.func48 (by kernel_rfl) (by kernel_rfl) h (by kernel_rfl)

theorem eq_farm_ends (a0 a1 a2 a3 w : _) (R : Value → World → Prop) (h : wp_farm_ends cfg a0 a1 a2 a3 w R) : Ret cfg.P cfg.f_farm_ends #[a0, a1, a2, a3] w R :=
  ret_of_fn cfg_mixed Tryz.f49 (.s (.r .seq none) (.s (.r .seq none) (.s (.r .seq none) (.s (.s (.r .seq none) (.i (.l [11, 22] (.s (.r .seq none) (.s (.c .z .z) (.s (.i (.s (.r .seq none) (.s (.r .seq none) (.s (.r .seq none) (.i (.l [11, 35] (.s (.r .seq none) (.s (.c .z .z) (.s (.i (.s (.r .seq none) (.s (.r (.quiet 6) none) (.s (.r .seq none) (.r .seq none))))) (.r .seq none)))))))))) (.r .seq none))))))) (.s (.r .seq none) .z))))) Tryz.func49 (by kernel_rfl) (by kernel_rfl) h (by kernel_rfl)

theorem eq_blref1_PointFault (a0 w : _) (R : Value → World → Prop) (h : wp_blref1_PointFault cfg a0 w R) : Ret cfg.P cfg.f_blref1_PointFault #[a0] w R :=
  ret_of_fn cfg_mixed Tryz.f50 (.s (.r .seq none) (.s (.s (.r .seq none) (.i (.l [7] (.s (.r .seq none) (.s (.c .z .z) (.s (.i (.s (.r .seq none) (.s (.r .seq (some [20])) (.c (.s (.r .seq none) .z) .z)))) (.r .seq none))))))) (.s (.r .seq none) .z))) Tryz.func50 (by kernel_rfl) (by kernel_rfl) h (by kernel_rfl)

theorem eq_kit_Outside (a0 a1 a2 w : _) (R : Value → World → Prop) (h : wp_kit_Outside cfg a0 a1 a2 w R) : Ret cfg.P cfg.f_kit_Outside #[a0, a1, a2] w R :=
  ret_of_fn cfg_mixed Tryz.f51 (.s (.r .seq none) (.s (.r .seq (some [6])) .z)) Tryz.func51 (by kernel_rfl) (by kernel_rfl) h (by kernel_rfl)

theorem eq_slices_ContainsFunc_sl_api_Point_api_Point (a0 a1 w : _) (R : Value → World → Prop) (h : wp_slices_ContainsFunc_sl_api_Point_api_Point cfg a0 a1 w R) : Ret cfg.P cfg.f_slices_ContainsFunc_sl_api_Point_api_Point #[a0, a1] w R :=
  ret_of_fn cfg_mixed Tryz.f52 (.s (.r .seq none) (.s (.r .seq none) .z)) Tryz.func52 (by kernel_rfl) (by kernel_rfl) h (by kernel_rfl)

theorem eq_region_CheckRing (a0 w : _) (R : Value → World → Prop) (h : wp_region_CheckRing cfg a0 w R) : Ret cfg.P cfg.f_region_CheckRing #[a0] w R :=
  ret_of_fn cfg_mixed Tryz.f53 (.s (.r .seq none) (.s (.s (.r .seq none) (.c (.s (.r .seq none) .z) .z)) (.s (.s (.r .seq none) (.c (.s (.r .seq none) .z) .z)) (.s (.s (.r .seq none) (.c (.s (.r .seq none) .z) .z)) (.s (.r .seq none) (.s (.s (.r .seq none) (.i (.l [17] (.s (.r .seq none) (.s (.c .z .z) (.s (.i (.s (.r .seq none) (.s (.s (.r .seq none) (.c (.s (.r .seq none) .z) .z)) (.r .seq none)))) (.r .seq none))))))) (.s (.r .seq none) .z))))))) Tryz.func53 (by kernel_rfl) (by kernel_rfl) h (by kernel_rfl)

theorem eq_region_sides (a0 w : _) (R : Value → World → Prop) (h : wp_region_sides cfg a0 w R) : Ret cfg.P cfg.f_region_sides #[a0] w R :=
  ret_of_fn cfg_mixed Tryz.f54 (.s (.r .seq none) (.s (.r .seq none) (.s (.s (.r .seq none) (.i (.l [3, 10] (.s (.r .seq none) (.s (.c .z .z) (.s (.i (.s (.r .seq none) (.s (.r .seq none) (.i (.l [3, 17] (.s (.r .seq none) (.s (.c .z .z) (.s (.i (.s (.r .seq none) (.r (.held 14) none))) (.r .seq none))))))))) (.r .seq none))))))) (.s (.r .seq none) .z)))) Tryz.func54 (by kernel_rfl) (by kernel_rfl) h (by kernel_rfl)

theorem eq_slices_SortFunc_sl_region_side_region_side (a0 a1 w : _) (R : Value → World → Prop) (h : wp_slices_SortFunc_sl_region_side_region_side cfg a0 a1 w R) : Ret cfg.P cfg.f_slices_SortFunc_sl_region_side_region_side #[a0, a1] w R :=
  ret_of_fn cfg_mixed Tryz.f55 (.s (.r .seq none) (.r .seq none)) Tryz.func55 (by kernel_rfl) (by kernel_rfl) h (by kernel_rfl)

theorem eq_region_CheckRegion_1 (a0 a1 w : _) (R : Value → World → Prop) (h : wp_region_CheckRegion_1 cfg a0 a1 w R) : Ret cfg.P cfg.f_region_CheckRegion_1 #[a0, a1] w R :=
  ret_of_fn cfg_mixed Tryz.f56 (.s (.r .seq none) (.s (.r .seq none) .z)) Tryz.func56 (by kernel_rfl) (by kernel_rfl) h (by kernel_rfl)

theorem eq_cmp_Compare_int (a0 a1 w : _) (R : Value → World → Prop) (h : wp_cmp_Compare_int cfg a0 a1 w R) : Ret cfg.P cfg.f_cmp_Compare_int #[a0, a1] w R :=
  ret_of_fn cfg_mixed Tryz.f57 (.s (.r .seq none) (.s (.r .seq none) (.s (.r .seq none) (.s (.s (.r .seq none) (.c (.s (.s (.r .seq none) (.c (.s (.r .seq none) .z) .z)) (.s (.r .seq none) .z)) .z)) (.s (.s (.r .seq none) (.c (.s (.r .seq none) .z) .z)) (.s (.s (.r .seq none) (.c (.s (.r .seq none) .z) .z)) (.s (.s (.r .seq none) (.c (.s (.r .seq none) .z) .z)) (.s (.r .seq none) .z)))))))) Tryz.func57 (by kernel_rfl) (by kernel_rfl) h (by kernel_rfl)

theorem eq_region_Meet (a0 a1 a2 a3 w : _) (R : Value → World → Prop) (h : wp_region_Meet cfg a0 a1 a2 a3 w R) : Ret cfg.P cfg.f_region_Meet #[a0, a1, a2, a3] w R :=
  ret_of_fn cfg_mixed Tryz.f58 (.s (.r .seq none) (.s (.s (.r .seq (some [29])) (.c (.s (.r .seq none) .z) .z)) (.s (.r .seq none) (.s (.r (.held 22) (some [8])) .z)))) Tryz.func58 (by kernel_rfl) (by kernel_rfl) h (by kernel_rfl)

theorem eq_region_isIn (a0 a1 w : _) (R : Value → World → Prop) (h : wp_region_isIn cfg a0 a1 w R) : Ret cfg.P cfg.f_region_isIn #[a0, a1] w R :=
  ret_of_fn cfg_mixed Tryz.f59 (.s (.r .seq none) (.s (.r .seq none) (.s (.s (.r .seq none) (.i (.l [5, 11] (.s (.r .seq none) (.s (.c .z .z) (.s (.b [5] (.s (.r .seq none) (.s (.r .seq none) (.s (.r (.held 24) (some [47])) (.cj [5] (.r .seq none) .z))))) (.r .seq none))))))) (.s (.r .seq none) .z)))) Tryz.func59 (by kernel_rfl) (by kernel_rfl) h (by kernel_rfl)

theorem eq_farm_CheckPlan (a0 a1 a2 w : _) (R : Value → World → Prop) (h : wp_farm_CheckPlan cfg a0 a1 a2 w R) : Ret cfg.P cfg.f_farm_CheckPlan #[a0, a1, a2] w R :=
  ret_of_fn cfg_mixed Tryz.f60 (.s (.r .seq none) (.s (.s (.r .seq none) (.s (.r .seq none) (.c (.s (.r .seq none) .z) .z))) (.s (.s (.r .seq none) (.c (.s (.r .seq none) .z) .z)) (.s (.r .seq none) (.s (.s (.r .seq none) (.i (.l [29] (.s (.r .seq none) (.s (.c .z .z) (.s (.i (.s (.r .seq none) (.s (.r .seq none) (.i (.l [35] (.s (.r .seq none) (.s (.c .z .z) (.s (.i (.s (.r .seq none) (.s (.s (.r .seq (some [46])) (.c (.s (.r .seq none) .z) .z)) (.s (.s (.r .seq none) (.c (.s (.r .seq none) .z) .z)) (.r .seq none))))) (.r .seq none))))))))) (.r .seq none))))))) (.s (.s (.r .seq none) (.c (.s (.r .seq none) .z) .z)) (.s (.r .seq none) .z))))))) Tryz.func60 (by kernel_rfl) (by kernel_rfl) h (by kernel_rfl)

theorem eq_farm_isChange (a0 w : _) (R : Value → World → Prop) (h : wp_farm_isChange cfg a0 w R) : Ret cfg.P cfg.f_farm_isChange #[a0] w R :=
  ret_of_fn cfg_mixed Tryz.f61 (.s (.r .seq none) (.s (.r .seq none) .z)) Tryz.func61 (by kernel_rfl) (by kernel_rfl) h (by kernel_rfl)

theorem eq_farm_clock_do (a0 a1 a2 w : _) (R : Value → World → Prop) (h : wp_farm_clock_do cfg a0 a1 a2 w R) : Ret cfg.P cfg.f_farm_clock_do #[a0, a1, a2] w R :=
  ret_of_fn cfg_mixed Tryz.f62 (.s (.r .seq none) (.s (.s (.r .seq none) (.cj [] (.r .seq none) .z)) (.s (.r .seq none) .z))) Tryz.func62 (by kernel_rfl) (by kernel_rfl) h (by kernel_rfl)

theorem eq_blref1_in (a0 a1 a2 w : _) (R : Value → World → Prop) (h : wp_blref1_in cfg a0 a1 a2 w R) : Ret cfg.P cfg.f_blref1_in #[a0, a1, a2] w R :=
  ret_of_fn cfg_mixed Tryz.f63 (.s (.r .seq none) (.s (.r .seq (some [6])) .z)) Tryz.func63 (by kernel_rfl) (by kernel_rfl) h (by kernel_rfl)

theorem eq_slices_IndexFunc_sl_api_Point_api_Point (a0 a1 w : _) (R : Value → World → Prop) (h : wp_slices_IndexFunc_sl_api_Point_api_Point cfg a0 a1 w R) : Ret cfg.P cfg.f_slices_IndexFunc_sl_api_Point_api_Point #[a0, a1] w R :=
  ret_of_fn cfg_mixed Tryz.f64 (.s (.r .seq none) (.s (.s (.r .seq none) (.i (.l [8] (.s (.r .seq none) (.s (.c .z .z) (.s (.i (.s (.r .seq none) (.s (.r .seq none) (.c (.s (.r .seq none) .z) .z)))) (.r .seq none))))))) (.s (.r .seq none) .z))) Tryz.func64 (by kernel_rfl) (by kernel_rfl) h (by kernel_rfl)

theorem eq_slices_ContainsFunc_api_Ring_api_Point (a0 a1 w : _) (R : Value → World → Prop) (h : wp_slices_ContainsFunc_api_Ring_api_Point cfg a0 a1 w R) : Ret cfg.P cfg.f_slices_ContainsFunc_api_Ring_api_Point #[a0, a1] w R :=
  ret_of_fn cfg_mixed Tryz.f65 (.s (.r .seq none) (.s (.r .seq none) .z)) Tryz.func65 (by kernel_rfl) (by kernel_rfl) h (by kernel_rfl)

theorem eq_region_sidesFault (a0 w : _) (R : Value → World → Prop) (h : wp_region_sidesFault cfg a0 w R) : Ret cfg.P cfg.f_region_sidesFault #[a0] w R :=
  ret_of_fn cfg_mixed Tryz.f66 (.s (.r .seq none) (.s (.r .seq none) (.s (.s (.r .seq none) (.i (.l [12] (.s (.r .seq none) (.s (.c .z .z) (.s (.i (.s (.r .seq none) (.s (.r (.held 14) (some [5, 6])) (.s (.s (.r (.quiet 9) none) (.c (.s (.r .seq none) .z) .z)) (.s (.r .seq none) (.i (.l [7] (.s (.s (.r .seq (some [51])) (.c .z .z)) (.s (.i (.s (.r (.quiet 13) none) (.c (.s (.r .seq none) .z) .z))) (.r .seq none)))))))))) (.r .seq none))))))) (.s (.r .seq none) .z)))) Tryz.func66 (by kernel_rfl) (by kernel_rfl) h (by kernel_rfl)

theorem eq_slices_pdqsortCmpFunc_region_side (a0 a1 a2 a3 a4 w : _) (R : Value → World → Prop) (h : wp_slices_pdqsortCmpFunc_region_side cfg a0 a1 a2 a3 a4 w R) : Ret cfg.P cfg.f_slices_pdqsortCmpFunc_region_side #[a0, a1, a2, a3, a4] w R :=
  ret_of_fn cfg_mixed Tryz.f67 (.s (.r .seq none) (.s (.r .seq none) (.i (.l [1, 2, 3, 10, 11] (.b [1, 2, 3, 10, 11] (.s (.r .seq none) (.s (.s (.r .seq none) (.c (.s (.r .seq none) .z) .z)) (.s (.s (.r .seq none) (.c (.s (.r .seq none) .z) .z)) (.s (.s (.r .seq none) (.cj [3] (.s (.r .seq none) (.r .seq none)) .z)) (.s (.r .seq none) (.s (.s (.r .seq none) (.cj [13, 14] (.s (.r .seq none) (.s (.r .seq none) (.r .seq none))) .z)) (.s (.s (.r .seq (some [75])) (.cj [] (.s (.r .seq none) (.c .z .z)) .z)) (.s (.s (.r (.held 17) (some [97])) (.c (.s (.r .seq none) (.s (.r .seq none) .z)) .z)) (.s (.r .seq none) (.s (.r .seq none) (.s (.r .seq none) (.s (.r .seq none) (.s (.r .seq none) (.cj [1, 2, 10] (.s (.r .seq none) (.s (.r .seq none) (.r .seq none))) (.s (.r .seq none) (.s (.r .seq none) (.r .seq none)))))))))))))))))))))) Tryz.func67 (by kernel_rfl) (by kernel_rfl) h (by kernel_rfl)

theorem eq_math_bits_Len (a0 w : _) (R : Value → World → Prop) (h : wp_math_bits_Len cfg a0 w R) : Ret cfg.P cfg.f_math_bits_Len #[a0] w R :=
  ret_of_fn cfg_mixed Tryz.f68 (.s (.r .seq none) (.s (.c (.s (.r .seq none) .z) .z) (.s (.r .seq none) .z))) Tryz.func68 (by kernel_rfl) (by kernel_rfl) h (by kernel_rfl)

theorem eq_cmp_isNaN_int (a0 w : _) (R : Value → World → Prop) (h : wp_cmp_isNaN_int cfg a0 w R) : Ret cfg.P cfg.f_cmp_isNaN_int #[a0] w R :=
  ret_of_fn cfg_mixed Tryz.f69 (.s (.r .seq none) (.s (.r .seq none) .z)) Tryz.func69 (by kernel_rfl) (by kernel_rfl) h (by kernel_rfl)

theorem eq_region_apart (a0 a1 a2 a3 w : _) (R : Value → World → Prop) (h : wp_region_apart cfg a0 a1 a2 a3 w R) : Ret cfg.P cfg.f_region_apart #[a0, a1, a2, a3] w R :=
  ret_of_fn cfg_mixed Tryz.f70 (.s (.r .seq none) (.s (.r .seq (some [8])) .z)) Tryz.func70 (by kernel_rfl) (by kernel_rfl) h (by kernel_rfl)

theorem eq_region_Meet_1 (a0 a1 w : _) (R : Value → World → Prop) (h : wp_region_Meet_1 cfg a0 a1 w R) : Ret cfg.P cfg.f_region_Meet_1 #[a0, a1] w R :=
  ret_of_fn cfg_mixed Tryz.f71 (.s (.r .seq none) (.s (.r .seq (some [4])) .z)) Tryz.func71 (by kernel_rfl) (by kernel_rfl) h (by kernel_rfl)

theorem eq_region_turn (a0 a1 a2 w : _) (R : Value → World → Prop) (h : wp_region_turn cfg a0 a1 a2 w R) : Ret cfg.P cfg.f_region_turn #[a0, a1, a2] w R :=
  ret_of_fn cfg_mixed Tryz.f72 (.s (.r .seq none) (.s (.r .seq none) .z)) Tryz.func72 (by kernel_rfl) (by kernel_rfl) h (by kernel_rfl)

theorem eq_farm_fault (a0 a1 w : _) (R : Value → World → Prop) (h : wp_farm_fault cfg a0 a1 w R) : Ret cfg.P cfg.f_farm_fault #[a0, a1] w R :=
  ret_of_fn cfg_mixed Tryz.f73 (.s (.r .seq none) (.s (.s (.r .seq none) (.s (.r .seq none) (.c (.s (.r .seq none) .z) .z))) (.s (.r .seq none) .z))) Tryz.func73 (by kernel_rfl) (by kernel_rfl) h (by kernel_rfl)

theorem eq_slices_Contains_sl_bool_bool (a0 a1 w : _) (R : Value → World → Prop) (h : wp_slices_Contains_sl_bool_bool cfg a0 a1 w R) : Ret cfg.P cfg.f_slices_Contains_sl_bool_bool #[a0, a1] w R :=
  ret_of_fn cfg_mixed Tryz.f74 (.s (.r .seq none) (.s (.r .seq none) .z)) Tryz.func74 (by kernel_rfl) (by kernel_rfl) h (by kernel_rfl)

theorem eq_slices_IndexFunc_api_Ring_api_Point (a0 a1 w : _) (R : Value → World → Prop) (h : wp_slices_IndexFunc_api_Ring_api_Point cfg a0 a1 w R) : Ret cfg.P cfg.f_slices_IndexFunc_api_Ring_api_Point #[a0, a1] w R :=
  ret_of_fn cfg_mixed Tryz.f75 (.s (.r .seq none) (.s (.s (.r .seq none) (.i (.l [8] (.s (.r .seq none) (.s (.c .z .z) (.s (.i (.s (.r .seq none) (.s (.r .seq none) (.c (.s (.r .seq none) .z) .z)))) (.r .seq none))))))) (.s (.r .seq none) .z))) Tryz.func75 (by kernel_rfl) (by kernel_rfl) h (by kernel_rfl)

theorem eq_region_foldsBack (a0 a1 a2 w : _) (R : Value → World → Prop) (h : wp_region_foldsBack cfg a0 a1 a2 w R) : Ret cfg.P cfg.f_region_foldsBack #[a0, a1, a2] w R :=
  ret_of_fn cfg_mixed Tryz.f76 (.s (.r .seq none) (.s (.r .seq (some [6])) .z)) Tryz.func76 (by kernel_rfl) (by kernel_rfl) h (by kernel_rfl)

theorem eq_slices_insertionSortCmpFunc_region_side (a0 a1 a2 a3 w : _) (R : Value → World → Prop) (h : wp_slices_insertionSortCmpFunc_region_side cfg a0 a1 a2 a3 w R) : Ret cfg.P cfg.f_slices_insertionSortCmpFunc_region_side #[a0, a1, a2, a3] w R :=
  ret_of_fn cfg_mixed Tryz.f77 (.s (.r .seq none) (.i (.l [8] (.s (.s (.r .seq none) (.c .z .z)) (.s (.i (.s (.r .seq none) (.i (.l [9] (.s (.s (.r (.held 17) (some [34])) (.c .z .z)) (.s (.i (.r (.quiet 15) none)) (.r .seq none))))))) (.r .seq none)))))) Tryz.func77 (by kernel_rfl) (by kernel_rfl) h (by kernel_rfl)

theorem eq_slices_heapSortCmpFunc_region_side (a0 a1 a2 a3 w : _) (R : Value → World → Prop) (h : wp_slices_heapSortCmpFunc_region_side cfg a0 a1 a2 a3 w R) : Ret cfg.P cfg.f_slices_heapSortCmpFunc_region_side #[a0, a1, a2, a3] w R :=
  ret_of_fn cfg_mixed Tryz.f78 (.s (.r .seq none) (.s (.r .seq none) (.s (.r .seq none) (.s (.s (.r .seq none) (.i (.l [11] (.s (.s (.r .seq none) (.c .z .z)) (.s (.i (.r .seq none)) (.r .seq none)))))) (.s (.r .seq none) (.i (.l [12] (.s (.s (.r .seq none) (.c .z .z)) (.s (.i (.s (.r (.quiet 17) none) (.r .seq none))) (.r .seq none)))))))))) Tryz.func78 (by kernel_rfl) (by kernel_rfl) h (by kernel_rfl)

theorem eq_slices_breakPatternsCmpFunc_region_side (a0 a1 a2 a3 w : _) (R : Value → World → Prop) (h : wp_slices_breakPatternsCmpFunc_region_side cfg a0 a1 a2 a3 w R) : Ret cfg.P cfg.f_slices_breakPatternsCmpFunc_region_side #[a0, a1, a2, a3] w R :=
  ret_of_fn cfg_mixed Tryz.f79 (.s (.r .seq none) (.s (.r .seq none) (.cj [] (.s (.r .seq none) (.s (.r .seq none) (.s (.r .seq none) (.i (.l [11] (.s (.s (.r .seq none) (.c .z .z)) (.s (.i (.s (.r .seq none) (.s (.s (.r .seq none) (.cj [12] (.r .seq none) .z)) (.r (.quiet 17) none)))) (.r .seq none)))))))) .z))) Tryz.func79 (by kernel_rfl) (by kernel_rfl) h (by kernel_rfl)

theorem eq_slices_choosePivotCmpFunc_region_side (a0 a1 a2 a3 w : _) (R : Value → World → Prop) (h : wp_slices_choosePivotCmpFunc_region_side cfg a0 a1 a2 a3 w R) : Ret cfg.P cfg.f_slices_choosePivotCmpFunc_region_side #[a0, a1, a2, a3] w R :=
  ret_of_fn cfg_mixed Tryz.f80 (.s (.r .seq none) (.s (.r .seq none) (.s (.r .seq none) (.s (.r .seq none) (.s (.r .seq none) (.s (.r .seq none) (.s (.s (.r .seq none) (.cj [13] (.s (.s (.r .seq none) (.cj [12, 13, 14] (.s (.r .seq none) (.s (.r .seq none) (.r .seq none))) .z)) (.r .seq none)) .z)) (.s (.r .seq none) (.i (.s (.r .seq none) (.c (.s (.r .seq none) .z) (.s (.r .seq none) (.c (.s (.r .seq none) .z) (.s (.r .seq none) .z)))))))))))))) Tryz.func80 (by kernel_rfl) (by kernel_rfl) h (by kernel_rfl)

theorem eq_slices_reverseRangeCmpFunc_region_side (a0 a1 a2 a3 w : _) (R : Value → World → Prop) (h : wp_slices_reverseRangeCmpFunc_region_side cfg a0 a1 a2 a3 w R) : Ret cfg.P cfg.f_slices_reverseRangeCmpFunc_region_side #[a0, a1, a2, a3] w R :=
  ret_of_fn cfg_mixed Tryz.f81 (.s (.r .seq none) (.s (.r .seq none) (.i (.l [8, 9] (.s (.s (.r .seq none) (.c .z .z)) (.i (.s (.r (.quiet 13) none) (.s (.r .seq none) (.r .seq none))))))))) Tryz.func81 (by kernel_rfl) (by kernel_rfl) h (by kernel_rfl)

theorem eq_slices_partialInsertionSortCmpFunc_region_side (a0 a1 a2 a3 w : _) (R : Value → World → Prop) (h : wp_slices_partialInsertionSortCmpFunc_region_side cfg a0 a1 a2 a3 w R) : Ret cfg.P cfg.f_slices_partialInsertionSortCmpFunc_region_side #[a0, a1, a2, a3] w R :=
  ret_of_fn cfg_mixed Tryz.f82 (.s (.r .seq none) (.s (.r .seq none) (.s (.s (.r .seq none) (.i (.l [9, 10] (.s (.s (.r .seq none) (.c .z .z)) (.s (.b [9] (.s (.i (.l [9] (.s (.s (.r (.held 18) (some [36])) (.c .z .z)) (.i (.r .seq none))))) (.s (.s (.r .seq none) (.c (.s (.r .seq none) .z) .z)) (.s (.s (.r .seq none) (.c (.s (.r .seq none) .z) .z)) (.s (.r (.quiet 15) none) (.s (.s (.r .seq none) (.cj [] (.s (.r .seq none) (.b [] (.l [11] (.s (.s (.r .seq none) (.c .z .z)) (.s (.i (.s (.s (.r (.held 13) none) (.c .z .z)) (.r (.quiet 15) none))) (.r .seq none)))))) .z)) (.s (.r .seq none) (.cj [] (.s (.r .seq none) (.b [] (.l [12] (.s (.s (.r .seq none) (.c .z .z)) (.s (.i (.s (.s (.r (.held 13) none) (.c .z .z)) (.r (.quiet 15) none))) (.r .seq none)))))) .z)))))))) (.r .seq none)))))) (.s (.r .seq none) .z)))) Tryz.func82 (by kernel_rfl) (by kernel_rfl) h (by kernel_rfl)

theorem eq_slices_partitionEqualCmpFunc_region_side (a0 a1 a2 a3 a4 w : _) (R : Value → World → Prop) (h : wp_slices_partitionEqualCmpFunc_region_side cfg a0 a1 a2 a3 a4 w R) : Ret cfg.P cfg.f_slices_partitionEqualCmpFunc_region_side #[a0, a1, a2, a3, a4] w R :=
  ret_of_fn cfg_mixed Tryz.f83 (.s (.r .seq none) (.s (.r (.quiet 13) none) (.s (.r .seq none) (.s (.i (.l [11, 12] (.i (.s (.i (.l [11] (.s (.s (.r (.held 17) (some [47])) (.c .z .z)) (.i (.r .seq none))))) (.s (.i (.l [12] (.s (.s (.r (.held 16) (some [65])) (.c .z .z)) (.i (.r .seq none))))) (.s (.s (.r .seq none) (.c .z .z)) (.s (.r (.quiet 13) none) (.s (.r .seq none) (.r .seq none))))))))) (.s (.r .seq none) .z))))) Tryz.func83 (by kernel_rfl) (by kernel_rfl) h (by kernel_rfl)

theorem eq_slices_partitionCmpFunc_region_side (a0 a1 a2 a3 a4 w : _) (R : Value → World → Prop) (h : wp_slices_partitionCmpFunc_region_side cfg a0 a1 a2 a3 a4 w R) : Ret cfg.P cfg.f_slices_partitionCmpFunc_region_side #[a0, a1, a2, a3, a4] w R :=
  ret_of_fn cfg_mixed Tryz.f84 (.s (.r .seq none) (.s (.r (.quiet 13) none) (.s (.r .seq none) (.s (.i (.l [12] (.s (.s (.r (.held 16) (some [47])) (.c .z .z)) (.i (.r .seq none))))) (.s (.i (.l [13] (.s (.s (.r (.held 17) (some [66])) (.c .z .z)) (.i (.r .seq none))))) (.s (.s (.r .seq none) (.c (.s (.r (.quiet 13) none) (.s (.r .seq none) .z)) .z)) (.s (.r (.quiet 13) none) (.s (.r .seq none) (.s (.r .seq none) (.s (.i (.l [12, 13] (.i (.s (.i (.l [12] (.s (.s (.r (.held 16) (some [120])) (.c .z .z)) (.i (.r .seq none))))) (.s (.i (.l [13] (.s (.s (.r (.held 17) (some [139])) (.c .z .z)) (.i (.r .seq none))))) (.s (.s (.r .seq none) (.c .z .z)) (.s (.r (.quiet 13) none) (.s (.r .seq none) (.r .seq none))))))))) (.s (.r (.quiet 13) none) (.s (.r .seq none) .z)))))))))))) Tryz.func84 (by kernel_rfl) (by kernel_rfl) h (by kernel_rfl)

theorem eq_farm_CheckPrinters (a0 w : _) (R : Value → World → Prop) (h : wp_farm_CheckPrinters cfg a0 w R) : Ret cfg.P cfg.f_farm_CheckPrinters #[a0] w R :=
  ret_of_fn cfg_mixed Tryz.f87 (.s (.r .seq none) (.s (.s (.r .seq none) (.c (.s (.r .seq none) .z) .z)) (.s (.s (.r .seq none) (.c (.s (.r .seq none) .z) .z)) (.s (.s (.r .seq none) (.i (.l [13] (.s (.r .seq none) (.s (.c .z .z) (.s (.i (.s (.r .seq none) (.s (.s (.r .seq (some [27])) (.c (.s (.r .seq none) .z) .z)) (.s (.r (.quiet 13) (some [40])) (.c (.s (.r .seq none) .z) .z))))) (.r .seq none))))))) (.s (.r .seq none) .z))))) Tryz.func87 (by kernel_rfl) (by kernel_rfl) h (by kernel_rfl)

theorem eq_farm_CheckJobs (a0 w : _) (R : Value → World → Prop) (h : wp_farm_CheckJobs cfg a0 w R) : Ret cfg.P cfg.f_farm_CheckJobs #[a0] w R :=
  ret_of_fn cfg_mixed Tryz.f88 (.s (.r .seq none) (.s (.s (.r .seq none) (.c (.s (.r .seq none) .z) .z)) (.s (.s (.r .seq none) (.i (.l [10] (.s (.r .seq none) (.s (.c .z .z) (.s (.i (.s (.r .seq none) (.i (.s (.r .seq (some [15])) (.c (.s (.r .seq none) .z) (.s (.r .seq (some [26])) (.c (.s (.r .seq none) .z) (.s (.r (.quiet 14) (some [35])) (.c (.s (.r .seq none) .z) .z))))))))) (.r .seq none))))))) (.s (.r .seq none) .z)))) Tryz.func88 (by kernel_rfl) (by kernel_rfl) h (by kernel_rfl)

theorem eq_slices_Index_sl_bool_bool (a0 a1 w : _) (R : Value → World → Prop) (h : wp_slices_Index_sl_bool_bool cfg a0 a1 w R) : Ret cfg.P cfg.f_slices_Index_sl_bool_bool #[a0, a1] w R :=
  ret_of_fn cfg_mixed Tryz.f89 (.s (.r .seq none) (.s (.s (.r .seq none) (.i (.l [8] (.s (.r .seq none) (.s (.c .z .z) (.s (.i (.s (.r .seq none) (.s (.r .seq none) (.c (.s (.r .seq none) .z) .z)))) (.r .seq none))))))) (.s (.r .seq none) .z))) Tryz.func89 (by kernel_rfl) (by kernel_rfl) h (by kernel_rfl)

theorem eq_slices_siftDownCmpFunc_region_side (a0 a1 a2 a3 a4 w : _) (R : Value → World → Prop) (h : wp_slices_siftDownCmpFunc_region_side cfg a0 a1 a2 a3 a4 w R) : Ret cfg.P cfg.f_slices_siftDownCmpFunc_region_side #[a0, a1, a2, a3, a4] w R :=
  ret_of_fn cfg_mixed Tryz.f90 (.s (.r .seq none) (.i (.l [10] (.i (.s (.r .seq none) (.s (.s (.r .seq none) (.c .z .z)) (.s (.s (.r (.held 22) (some [40])) (.cj [11] (.r .seq none) .z)) (.s (.s (.r (.held 16) none) (.c .z .z)) (.s (.r (.quiet 21) none) (.r .seq none)))))))))) Tryz.func90 (by kernel_rfl) (by kernel_rfl) h (by kernel_rfl)

theorem eq_slices_nextPowerOfTwo (a0 w : _) (R : Value → World → Prop) (h : wp_slices_nextPowerOfTwo cfg a0 w R) : Ret cfg.P cfg.f_slices_nextPowerOfTwo #[a0] w R :=
  ret_of_fn cfg_mixed Tryz.f91 (.s (.r .seq none) (.s (.r .seq none) .z)) Tryz.func91 (by kernel_rfl) (by kernel_rfl) h (by kernel_rfl)

theorem eq_p_slices_xorshift_Next (a0 w : _) (R : Value → World → Prop) (h : wp_p_slices_xorshift_Next cfg a0 w R) : Ret cfg.P cfg.f_p_slices_xorshift_Next #[a0] w R :=
  ret_of_fn cfg_mixed Tryz.f92 (.s (.r .seq none) (.s (.r (.quiet 9) none) (.s (.r (.quiet 9) none) (.s (.r (.quiet 9) none) (.s (.r .seq none) .z))))) Tryz.func92 (by kernel_rfl) (by kernel_rfl) h (by kernel_rfl)

theorem eq_slices_medianAdjacentCmpFunc_region_side (a0 a1 a2 a3 w : _) (R : Value → World → Prop) (h : wp_slices_medianAdjacentCmpFunc_region_side cfg a0 a1 a2 a3 w R) : Ret cfg.P cfg.f_slices_medianAdjacentCmpFunc_region_side #[a0, a1, a2, a3] w R :=
  ret_of_fn cfg_mixed Tryz.f93 (.s (.r .seq none) (.s (.r .seq none) .z)) Tryz.func93 (by kernel_rfl) (by kernel_rfl) h (by kernel_rfl)

theorem eq_slices_medianCmpFunc_region_side (a0 a1 a2 a3 a4 a5 w : _) (R : Value → World → Prop) (h : wp_slices_medianCmpFunc_region_side cfg a0 a1 a2 a3 a4 a5 w R) : Ret cfg.P cfg.f_slices_medianCmpFunc_region_side #[a0, a1, a2, a3, a4, a5] w R :=
  ret_of_fn cfg_mixed Tryz.f94 (.s (.r .seq none) (.s (.r .seq none) (.s (.r .seq none) (.s (.r .seq none) (.s (.r .seq none) .z))))) Tryz.func94 (by kernel_rfl) (by kernel_rfl) h (by kernel_rfl)

theorem eq_kit_IsKey (a0 w : _) (R : Value → World → Prop) (h : wp_kit_IsKey cfg a0 w R) : Ret cfg.P cfg.f_kit_IsKey #[a0] w R :=
  ret_of_fn cfg_mixed Tryz.f95 (.s (.r .seq none) (.s (.r .seq (some [2])) .z)) Tryz.func95 (by kernel_rfl) (by kernel_rfl) h (by kernel_rfl)

theorem eq_slices_order2CmpFunc_region_side (a0 a1 a2 a3 a4 w : _) (R : Value → World → Prop) (h : wp_slices_order2CmpFunc_region_side cfg a0 a1 a2 a3 a4 w R) : Ret cfg.P cfg.f_slices_order2CmpFunc_region_side #[a0, a1, a2, a3, a4] w R :=
  ret_of_fn cfg_mixed Tryz.f96 (.s (.r .seq none) (.s (.s (.r (.held 11) none) (.c (.s (.r .seq none) (.s (.r .seq none) .z)) .z)) (.s (.r .seq none) .z))) Tryz.func96 (by kernel_rfl) (by kernel_rfl) h (by kernel_rfl)

theorem eq_strings_IndexByte (a0 a1 w : _) (R : Value → World → Prop) (h : wp_strings_IndexByte cfg a0 a1 w R) : Ret cfg.P cfg.f_strings_IndexByte #[a0, a1] w R :=
  ret_of_fn cfg_mixed Tryz.f97 (.s (.r .seq none) (.s (.r .seq none) .z)) Tryz.func97 (by kernel_rfl) (by kernel_rfl) h (by kernel_rfl)

theorem eq_internal_stringslite_IndexByte (a0 a1 w : _) (R : Value → World → Prop) (h : wp_internal_stringslite_IndexByte cfg a0 a1 w R) : Ret cfg.P cfg.f_internal_stringslite_IndexByte #[a0, a1] w R :=
  ret_of_fn cfg_mixed Tryz.f99 (.s (.r .seq none) (.s (.r .seq none) .z)) Tryz.func99 (by kernel_rfl) (by kernel_rfl) h (by kernel_rfl)

theorem eq_strings_trimLeftByte (a0 a1 w : _) (R : Value → World → Prop) (h : wp_strings_trimLeftByte cfg a0 a1 w R) : Ret cfg.P cfg.f_strings_trimLeftByte #[a0, a1] w R :=
  ret_of_fn cfg_mixed Tryz.f100 (.s (.r .seq none) (.s (.i (.l [0] (.s (.s (.r .seq (some [13])) (.c .z .z)) (.i (.r .seq none))))) (.s (.r .seq none) .z))) Tryz.func100 (by kernel_rfl) (by kernel_rfl) h (by kernel_rfl)

theorem eq_strings_trimRightByte (a0 a1 w : _) (R : Value → World → Prop) (h : wp_strings_trimRightByte cfg a0 a1 w R) : Ret cfg.P cfg.f_strings_trimRightByte #[a0, a1] w R :=
  ret_of_fn cfg_mixed Tryz.f101 (.s (.r .seq none) (.s (.i (.l [0] (.s (.s (.r .seq (some [16])) (.c .z .z)) (.i (.r .seq none))))) (.s (.r .seq none) .z))) Tryz.func101 (by kernel_rfl) (by kernel_rfl) h (by kernel_rfl)

theorem eq_strings_trimLeftASCII (a0 a1 w : _) (R : Value → World → Prop) (h : wp_strings_trimLeftASCII cfg a0 a1 w R) : Ret cfg.P cfg.f_strings_trimLeftASCII #[a0, a1] w R :=
  ret_of_fn cfg_mixed Tryz.f103 (.s (.r .seq none) (.s (.b [0] (.l [0] (.s (.s (.r .seq none) (.c .z .z)) (.i (.s (.s (.r .seq none) (.c .z .z)) (.r .seq none)))))) (.s (.r .seq none) .z))) Tryz.func103 (by kernel_rfl) (by kernel_rfl) h (by kernel_rfl)

theorem eq_strings_trimRightASCII (a0 a1 w : _) (R : Value → World → Prop) (h : wp_strings_trimRightASCII cfg a0 a1 w R) : Ret cfg.P cfg.f_strings_trimRightASCII #[a0, a1] w R :=
  ret_of_fn cfg_mixed Tryz.f104 (.s (.r .seq none) (.s (.b [0] (.l [0] (.s (.s (.r .seq none) (.c .z .z)) (.i (.s (.s (.r .seq none) (.c .z .z)) (.r .seq none)))))) (.s (.r .seq none) .z))) Tryz.func104 (by kernel_rfl) (by kernel_rfl) h (by kernel_rfl)

theorem eq_p_strings_asciiSet_contains (a0 a1 w : _) (R : Value → World → Prop) (h : wp_p_strings_asciiSet_contains cfg a0 a1 w R) : Ret cfg.P cfg.f_p_strings_asciiSet_contains #[a0, a1] w R :=
  ret_of_fn cfg_mixed Tryz.f108 (.s (.r .seq none) (.s (.r .seq none) .z)) Tryz.func108 (by kernel_rfl) (by kernel_rfl) h (by kernel_rfl)

theorem eqs : Eqs cfg := {
  dummy := trivial
  blkeep1_NoOrderTravelsLess := fun a0 w R h => eq_blkeep1_NoOrderTravelsLess a0 w R h
  p_blmake_Stream_Range := fun a0 a1 a2 w R h => eq_p_blmake_Stream_Range a0 a1 a2 w R h
  p_blmake_Stream_RightPaths := fun a0 a1 w R h => eq_p_blmake_Stream_RightPaths a0 a1 w R h
  p_blmake_Stream_Order := fun a0 a1 w R h => eq_p_blmake_Stream_Order a0 a1 w R h
  path_Best := fun a0 a1 w R h => eq_path_Best a0 a1 w R h
  path_Nearest := fun a0 a1 w R h => eq_path_Nearest a0 a1 w R h
  path_Begun := fun a0 a1 a2 w R h => eq_path_Begun a0 a1 a2 w R h
  path_Improved := fun a0 a1 a2 w R h => eq_path_Improved a0 a1 a2 w R h
  path_Travel := fun a0 a1 a2 w R h => eq_path_Travel a0 a1 a2 w R h
  path_CheckOrder := fun a0 a1 w R h => eq_path_CheckOrder a0 a1 w R h
  blkeep1_ready := fun _ w R h => eq_blkeep1_ready  w R h
  p_blmake_Stream_Next := fun a0 a1 w R h => eq_p_blmake_Stream_Next a0 a1 w R h
  p_blmake_Stream_PathList := fun a0 a1 w R h => eq_p_blmake_Stream_PathList a0 a1 w R h
  blref1_PathsFault := fun a0 w R h => eq_blref1_PathsFault a0 w R h
  path_startPathsFault := fun a0 a1 w R h => eq_path_startPathsFault a0 a1 w R h
  path_choices := fun a0 a1 w R h => eq_path_choices a0 a1 w R h
  p_path_finder_next := fun a0 a1 a2 w R h => eq_p_path_finder_next a0 a1 a2 w R h
  path_travel := fun a0 a1 a2 w R h => eq_path_travel a0 a1 a2 w R h
  path_Distance := fun a0 a1 w R h => eq_path_Distance a0 a1 w R h
  path_indicesFault := fun a0 a1 w R h => eq_path_indicesFault a0 a1 w R h
  path_nearest := fun a0 a1 a2 w R h => eq_path_nearest a0 a1 a2 w R h
  path_startFault := fun a0 a1 a2 w R h => eq_path_startFault a0 a1 a2 w R h
  slices_Clone_sl_api_Visit_api_Visit := fun a0 w R h => eq_slices_Clone_sl_api_Visit_api_Visit a0 w R h
  path_exchange := fun a0 a1 a2 w R h => eq_path_exchange a0 a1 a2 w R h
  path_CheckPaths := fun a0 w R h => eq_path_CheckPaths a0 w R h
  path_orderFault := fun a0 a1 w R h => eq_path_orderFault a0 a1 w R h
  flow_Volume := fun a0 w R h => eq_flow_Volume a0 w R h
  region_Area := fun a0 w R h => eq_region_Area a0 w R h
  farm_Ends := fun a0 a1 a2 a3 w R h => eq_farm_Ends a0 a1 a2 a3 w R h
  blmake_Below := fun a0 a1 w R h => eq_blmake_Below a0 a1 w R h
  p_blmake_Stream_Pick := fun a0 a1 w R h => eq_p_blmake_Stream_Pick a0 a1 w R h
  p_blmake_Stream_Flip := fun a0 a1 w R h => eq_p_blmake_Stream_Flip a0 a1 w R h
  p_blmake_Stream_Odd := fun a0 a1 a2 w R h => eq_p_blmake_Stream_Odd a0 a1 a2 w R h
  blref1_pathFault := fun a0 w R h => eq_blref1_pathFault a0 w R h
  region_IsFar := fun a0 w R h => eq_region_IsFar a0 w R h
  path_ends := fun a0 a1 w R h => eq_path_ends a0 a1 w R h
  path_abs := fun a0 w R h => eq_path_abs a0 w R h
  path_PathFault := fun a0 w R h => eq_path_PathFault a0 w R h
  path_visitFault := fun a0 a1 w R h => eq_path_visitFault a0 a1 w R h
  flow_CheckBeads := fun a0 w R h => eq_flow_CheckBeads a0 w R h
  flow_volume := fun a0 w R h => eq_flow_volume a0 w R h
  region_CheckRegion := fun a0 w R h => eq_region_CheckRegion a0 w R h
  region_depths := fun a0 w R h => eq_region_depths a0 w R h
  region_abs := fun a0 w R h => eq_region_abs a0 w R h
  region_Doubled := fun a0 w R h => eq_region_Doubled a0 w R h
  farm_planned := fun a0 a1 a2 a3 w R h => eq_farm_planned a0 a1 a2 a3 w R h
  farm_ends := fun a0 a1 a2 a3 w R h => eq_farm_ends a0 a1 a2 a3 w R h
  blref1_PointFault := fun a0 w R h => eq_blref1_PointFault a0 w R h
  kit_Outside := fun a0 a1 a2 w R h => eq_kit_Outside a0 a1 a2 w R h
  slices_ContainsFunc_sl_api_Point_api_Point := fun a0 a1 w R h => eq_slices_ContainsFunc_sl_api_Point_api_Point a0 a1 w R h
  region_CheckRing := fun a0 w R h => eq_region_CheckRing a0 w R h
  region_sides := fun a0 w R h => eq_region_sides a0 w R h
  slices_SortFunc_sl_region_side_region_side := fun a0 a1 w R h => eq_slices_SortFunc_sl_region_side_region_side a0 a1 w R h
  region_CheckRegion_1 := fun a0 a1 w R h => eq_region_CheckRegion_1 a0 a1 w R h
  cmp_Compare_int := fun a0 a1 w R h => eq_cmp_Compare_int a0 a1 w R h
  region_Meet := fun a0 a1 a2 a3 w R h => eq_region_Meet a0 a1 a2 a3 w R h
  region_isIn := fun a0 a1 w R h => eq_region_isIn a0 a1 w R h
  farm_CheckPlan := fun a0 a1 a2 w R h => eq_farm_CheckPlan a0 a1 a2 w R h
  farm_isChange := fun a0 w R h => eq_farm_isChange a0 w R h
  farm_clock_do := fun a0 a1 a2 w R h => eq_farm_clock_do a0 a1 a2 w R h
  blref1_in := fun a0 a1 a2 w R h => eq_blref1_in a0 a1 a2 w R h
  slices_IndexFunc_sl_api_Point_api_Point := fun a0 a1 w R h => eq_slices_IndexFunc_sl_api_Point_api_Point a0 a1 w R h
  slices_ContainsFunc_api_Ring_api_Point := fun a0 a1 w R h => eq_slices_ContainsFunc_api_Ring_api_Point a0 a1 w R h
  region_sidesFault := fun a0 w R h => eq_region_sidesFault a0 w R h
  slices_pdqsortCmpFunc_region_side := fun a0 a1 a2 a3 a4 w R h => eq_slices_pdqsortCmpFunc_region_side a0 a1 a2 a3 a4 w R h
  math_bits_Len := fun a0 w R h => eq_math_bits_Len a0 w R h
  cmp_isNaN_int := fun a0 w R h => eq_cmp_isNaN_int a0 w R h
  region_apart := fun a0 a1 a2 a3 w R h => eq_region_apart a0 a1 a2 a3 w R h
  region_Meet_1 := fun a0 a1 w R h => eq_region_Meet_1 a0 a1 w R h
  region_turn := fun a0 a1 a2 w R h => eq_region_turn a0 a1 a2 w R h
  farm_fault := fun a0 a1 w R h => eq_farm_fault a0 a1 w R h
  slices_Contains_sl_bool_bool := fun a0 a1 w R h => eq_slices_Contains_sl_bool_bool a0 a1 w R h
  slices_IndexFunc_api_Ring_api_Point := fun a0 a1 w R h => eq_slices_IndexFunc_api_Ring_api_Point a0 a1 w R h
  region_foldsBack := fun a0 a1 a2 w R h => eq_region_foldsBack a0 a1 a2 w R h
  slices_insertionSortCmpFunc_region_side := fun a0 a1 a2 a3 w R h => eq_slices_insertionSortCmpFunc_region_side a0 a1 a2 a3 w R h
  slices_heapSortCmpFunc_region_side := fun a0 a1 a2 a3 w R h => eq_slices_heapSortCmpFunc_region_side a0 a1 a2 a3 w R h
  slices_breakPatternsCmpFunc_region_side := fun a0 a1 a2 a3 w R h => eq_slices_breakPatternsCmpFunc_region_side a0 a1 a2 a3 w R h
  slices_choosePivotCmpFunc_region_side := fun a0 a1 a2 a3 w R h => eq_slices_choosePivotCmpFunc_region_side a0 a1 a2 a3 w R h
  slices_reverseRangeCmpFunc_region_side := fun a0 a1 a2 a3 w R h => eq_slices_reverseRangeCmpFunc_region_side a0 a1 a2 a3 w R h
  slices_partialInsertionSortCmpFunc_region_side := fun a0 a1 a2 a3 w R h => eq_slices_partialInsertionSortCmpFunc_region_side a0 a1 a2 a3 w R h
  slices_partitionEqualCmpFunc_region_side := fun a0 a1 a2 a3 a4 w R h => eq_slices_partitionEqualCmpFunc_region_side a0 a1 a2 a3 a4 w R h
  slices_partitionCmpFunc_region_side := fun a0 a1 a2 a3 a4 w R h => eq_slices_partitionCmpFunc_region_side a0 a1 a2 a3 a4 w R h
  farm_CheckPrinters := fun a0 w R h => eq_farm_CheckPrinters a0 w R h
  farm_CheckJobs := fun a0 w R h => eq_farm_CheckJobs a0 w R h
  slices_Index_sl_bool_bool := fun a0 a1 w R h => eq_slices_Index_sl_bool_bool a0 a1 w R h
  slices_siftDownCmpFunc_region_side := fun a0 a1 a2 a3 a4 w R h => eq_slices_siftDownCmpFunc_region_side a0 a1 a2 a3 a4 w R h
  slices_nextPowerOfTwo := fun a0 w R h => eq_slices_nextPowerOfTwo a0 w R h
  p_slices_xorshift_Next := fun a0 w R h => eq_p_slices_xorshift_Next a0 w R h
  slices_medianAdjacentCmpFunc_region_side := fun a0 a1 a2 a3 w R h => eq_slices_medianAdjacentCmpFunc_region_side a0 a1 a2 a3 w R h
  slices_medianCmpFunc_region_side := fun a0 a1 a2 a3 a4 a5 w R h => eq_slices_medianCmpFunc_region_side a0 a1 a2 a3 a4 a5 w R h
  kit_IsKey := fun a0 w R h => eq_kit_IsKey a0 w R h
  slices_order2CmpFunc_region_side := fun a0 a1 a2 a3 a4 w R h => eq_slices_order2CmpFunc_region_side a0 a1 a2 a3 a4 w R h
  strings_IndexByte := fun a0 a1 w R h => eq_strings_IndexByte a0 a1 w R h
  internal_stringslite_IndexByte := fun a0 a1 w R h => eq_internal_stringslite_IndexByte a0 a1 w R h
  strings_trimLeftByte := fun a0 a1 w R h => eq_strings_trimLeftByte a0 a1 w R h
  strings_trimRightByte := fun a0 a1 w R h => eq_strings_trimRightByte a0 a1 w R h
  strings_trimLeftASCII := fun a0 a1 w R h => eq_strings_trimLeftASCII a0 a1 w R h
  strings_trimRightASCII := fun a0 a1 w R h => eq_strings_trimRightASCII a0 a1 w R h
  p_strings_asciiSet_contains := fun a0 a1 w R h => eq_p_strings_asciiSet_contains a0 a1 w R h }

end Go.Eng

/-! The type facts of this program. -/
namespace Go.Eng
open Go Go.Proofs
theorem tyB : TyB cfg :=
  { sl_int := .of (by kernel_rfl) (by kernel_rfl) rfl (by omega) (by omega)
    sl_bool := SliceT.ex (by kernel_rfl) rfl (by omega) (by omega)
    st_stream := .of (sz := 2) (by_ := 32) (by kernel_rfl) (by kernel_rfl) }
theorem ty : TyF cfg :=
  { tyB with
    ssl_int := .of (by kernel_rfl) (by kernel_rfl) rfl (by omega) (by omega)
    st_clock := .of (sz := 2) (by_ := 24) (by kernel_rfl) (by kernel_rfl)
    sl_prn := .of (by kernel_rfl) (by kernel_rfl) rfl (by omega) (by omega)
    sl_job := .of (by kernel_rfl) (by kernel_rfl) rfl (by omega) (by omega)
    st_prn := .of (sz := 2) (by_ := 32) (by kernel_rfl) (by kernel_rfl)
    st_job := .of (sz := 4) (by_ := 48) (by kernel_rfl) (by kernel_rfl)
    bool := by kernel_rfl }
theorem ty_pair : PairT cfg.P cfg.t_api_Point := .of (by kernel_rfl) (by kernel_rfl)
theorem ty_mpb : ∃ kt et, cfg.P.underlying cfg.t_map_api_Point_bool = some (.map kt et) ∧ KeyT cfg.P kt (fun p : Pt => .agg (eP p).toArray) ∧ ∀ w, (zeroValue et).run cfg.P w = .ok (.bool false) w := by
  obtain ⟨et, h1, h2⟩ := map_of (P := cfg.P) (t := cfg.t_map_api_Point_bool) (k := cfg.t_api_Point) (z := .bool false) (by kernel_rfl)
  exact ⟨_, et, h1, .pair ty_pair Pt.x Pt.y (fun a b h1 h2 => by cases a; cases b; simp_all), h2⟩
theorem tyR : TyR cfg :=
  { tyB with
    mpb := ty_mpb
    st_side := .of (sz := 5) (by_ := 40) (by kernel_rfl) (by kernel_rfl)
    sl_side := .of (by kernel_rfl) (by kernel_rfl) rfl (by omega) (by omega)
    bool := by kernel_rfl }
theorem tyK : TyK cfg :=
  { F := ty
    R := tyR
    st_bead := .of (sz := 3) (by_ := 24) (by kernel_rfl) (by kernel_rfl)
    sl_bead := .of (by kernel_rfl) (by kernel_rfl) rfl (by omega) (by omega)
    st_point := .of (sz := 2) (by_ := 16) (by kernel_rfl) (by kernel_rfl)
    sl_ring := .of (by kernel_rfl) (by kernel_rfl) rfl (by omega) (by omega)
    ssl_ring := .of (by kernel_rfl) (by kernel_rfl) rfl (by omega) (by omega) }
theorem ty_mi : ∃ kt et, cfg.P.underlying cfg.t_map_int_int = some (.map kt et) ∧ KeyT cfg.P kt vi ∧ ∀ w, (zeroValue et).run cfg.P w = .ok (vi 0) w := by
  obtain ⟨et, h1, h2⟩ := map_of (P := cfg.P) (t := cfg.t_map_int_int) (k := cfg.t_int) (z := vi 0) (by kernel_rfl)
  exact ⟨_, et, h1, .int (isIntT_some (P := cfg.P) (by kernel_rfl)).choose_spec, h2⟩
theorem ty_mp : ∃ kt et, cfg.P.underlying cfg.t_map_api_Point_int = some (.map kt et) ∧ KeyT cfg.P kt (fun p : Pt => .agg (eP p).toArray) ∧ ∀ w, (zeroValue et).run cfg.P w = .ok (vi 0) w := by
  obtain ⟨et, h1, h2⟩ := map_of (P := cfg.P) (t := cfg.t_map_api_Point_int) (k := cfg.t_api_Point) (z := vi 0) (by kernel_rfl)
  exact ⟨_, et, h1, .pair ty_pair Pt.x Pt.y (fun a b h1 h2 => by cases a; cases b; simp_all), h2⟩
theorem tyP : Ty cfg :=
  { tyB with
    sl_pt := .of (by kernel_rfl) (by kernel_rfl) rfl (by omega) (by omega)
    sl_path := .of (by kernel_rfl) (by kernel_rfl) rfl (by omega) (by omega)
    st_visit := .of (sz := 3) (by_ := 24) (by kernel_rfl) (by kernel_rfl)
    st_choice := .of (sz := 7) (by_ := 56) (by kernel_rfl) (by kernel_rfl)
    st_way := .of (sz := 2) (by_ := 16) (by kernel_rfl) (by kernel_rfl)
    sl_choice := .of (by kernel_rfl) (by kernel_rfl) rfl (by omega) (by omega)
    ssl_choice := SliceT.ex (by kernel_rfl) rfl (by omega) (by omega)
    ssl_int := SliceT.ex (by kernel_rfl) rfl (by omega) (by omega)
    st_finder := .of (sz := 2) (by_ := 48) (by kernel_rfl) (by kernel_rfl)
    sl_map := .of (by kernel_rfl) (by kernel_rfl) rfl (by omega) (by omega)
    mi := ty_mi
    mp := ty_mp
    eq_visit := .of (by kernel_rfl) (by kernel_rfl) (by kernel_rfl)
    st_point := .of (sz := 2) (by_ := 16) (by kernel_rfl) (by kernel_rfl)
    st_path := .of (sz := 2) (by_ := 32) (by kernel_rfl) (by kernel_rfl)
    ssl_pt := SliceT.ex (by kernel_rfl) rfl (by omega) (by omega)
    sl_visit := .of (by kernel_rfl) (by kernel_rfl) rfl (by omega) (by omega) }
theorem tyO : TyO cfg :=
  { T := tyP
    K := tyK
    ssv := SliceT.ex (by kernel_rfl) rfl (by omega) (by omega) }
end Go.Eng

/-! The library's functions at this program: the kit's contracts, laid in plain words. -/
namespace Go.Proofs
open Go.Shelf
def Tryz.lays160_ren : Go.Shelf.Ren := ⟨fun | 160 => 98 | 232 => 101 | 231 => 100 | 227 => 102 | 234 => 104 | 233 => 103 | 236 => 106 | 235 => 105 | 228 => 108 | 271 => 111 | 151 => 110 | 197 => 109 | 120 => 114 | 152 => 113 | 260 => 112 | 137 => 97 | 119 => 115 | 224 => 116 | 225 => 117 | 217 => 99 | 266 => 107 | n => n, fun | 9 => 9 | 4 => 4 | 3 => 3 | 5 => 5 | 117 => 166 | 116 => 165 | 0 => 0 | 124 => 169 | 21 => 21 | 105 => 171 | 46 => 130 | 119 => 175 | 139 => 178 | 138 => 177 | n => n, fun | 3 => 1 | 4 => 2 | n => n⟩
theorem Tryz.lays160 : Go.Proofs.Lays.n160 Tryz.prog Tryz.lays160_ren := {
  mixed := by kernel_rfl
  f119 := Tryz.func115.trans (congrArg some (by kernel_rfl))
  f120 := Tryz.func114.trans (congrArg some (by kernel_rfl))
  f137 := Tryz.func97.trans (congrArg some (by kernel_rfl))
  f151 := Tryz.func110.trans (congrArg some (by kernel_rfl))
  f152 := Tryz.func113.trans (congrArg some (by kernel_rfl))
  f160 := Tryz.func98.trans (congrArg some (by kernel_rfl))
  f197 := Tryz.func109.trans (congrArg some (by kernel_rfl))
  f217 := Tryz.func99.trans (congrArg some (by kernel_rfl))
  f224 := Tryz.func116.trans (congrArg some (by kernel_rfl))
  f225 := Tryz.func117.trans (congrArg some (by kernel_rfl))
  f227 := Tryz.func102.trans (congrArg some (by kernel_rfl))
  f228 := Tryz.func108.trans (congrArg some (by kernel_rfl))
  f231 := Tryz.func100.trans (congrArg some (by kernel_rfl))
  f232 := Tryz.func101.trans (congrArg some (by kernel_rfl))
  f233 := Tryz.func103.trans (congrArg some (by kernel_rfl))
  f234 := Tryz.func104.trans (congrArg some (by kernel_rfl))
  f235 := Tryz.func105.trans (congrArg some (by kernel_rfl))
  f236 := Tryz.func106.trans (congrArg some (by kernel_rfl))
  f260 := Tryz.func112.trans (congrArg some (by kernel_rfl))
  f266 := Tryz.func107.trans (congrArg some (by kernel_rfl))
  f271 := Tryz.func111.trans (congrArg some (by kernel_rfl))
  t0 := Tryz.underlying0
  a0 := Tryz.isAgg0
  z0 := Tryz.sizeOf0
  v0 := Tryz.zeroValue0
  t3 := Tryz.underlying3
  a3 := Tryz.isAgg3
  z3 := Tryz.sizeOf3
  v3 := Tryz.zeroValue3
  t4 := Tryz.underlying4
  a4 := Tryz.isAgg4
  z4 := Tryz.sizeOf4
  v4 := Tryz.zeroValue4
  t5 := Tryz.underlying5
  a5 := Tryz.isAgg5
  z5 := Tryz.sizeOf5
  v5 := Tryz.zeroValue5
  t9 := Tryz.underlying9
  a9 := Tryz.isAgg9
  z9 := Tryz.sizeOf9
  v9 := Tryz.zeroValue9
  t21 := Tryz.underlying21
  a21 := Tryz.isAgg21
  z21 := Tryz.sizeOf21
  v21 := Tryz.zeroValue21
  t46 := Tryz.underlying130
  a46 := Tryz.isAgg130
  z46 := Tryz.sizeOf130
  v46 := Tryz.zeroValue130
  t105 := Tryz.underlying171
  a105 := Tryz.isAgg171
  z105 := Tryz.sizeOf171
  v105 := Tryz.zeroValue171
  t116 := Tryz.underlying165
  a116 := Tryz.isAgg165
  z116 := Tryz.sizeOf165
  t117 := Tryz.underlying166
  a117 := Tryz.isAgg166
  z117 := Tryz.sizeOf166
  v117 := Tryz.zeroValue166
  t119 := Tryz.underlying175
  a119 := Tryz.isAgg175
  z119 := Tryz.sizeOf175
  t124 := Tryz.underlying169
  a124 := Tryz.isAgg169
  z124 := Tryz.sizeOf169
  v124 := Tryz.zeroValue169
  t138 := Tryz.underlying177
  a138 := Tryz.isAgg177
  z138 := Tryz.sizeOf177
  v138 := Tryz.zeroValue177
  t139 := Tryz.underlying178
  a139 := Tryz.isAgg178
  z139 := Tryz.sizeOf178
  v139 := Tryz.zeroValue178
  g3 := by kernel_rfl
  g4 := by kernel_rfl }
def Tryz.lays137_ren : Go.Shelf.Ren := ⟨fun | 137 => 97 | 217 => 99 | 266 => 107 | n => n, fun | 9 => 9 | 5 => 5 | 3 => 3 | n => n, fun | n => n⟩
theorem Tryz.lays137 : Go.Proofs.Lays.n137 Tryz.prog Tryz.lays137_ren := {
  mixed := by kernel_rfl
  f137 := Tryz.func97.trans (congrArg some (by kernel_rfl))
  f217 := Tryz.func99.trans (congrArg some (by kernel_rfl))
  f266 := Tryz.func107.trans (congrArg some (by kernel_rfl))
  t3 := Tryz.underlying3
  a3 := Tryz.isAgg3
  z3 := Tryz.sizeOf3
  v3 := Tryz.zeroValue3
  t5 := Tryz.underlying5
  a5 := Tryz.isAgg5
  z5 := Tryz.sizeOf5
  v5 := Tryz.zeroValue5
  t9 := Tryz.underlying9
  a9 := Tryz.isAgg9
  z9 := Tryz.sizeOf9
  v9 := Tryz.zeroValue9 }
def Tryz.sortSd_ren : Go.Shelf.Ren := ⟨fun | 6 => 55 | 15 => 68 | 14 => 67 | 28 => 85 | 29 => 86 | 20 => 77 | 21 => 78 | 22 => 79 | 23 => 80 | 24 => 81 | 25 => 82 | 26 => 83 | 27 => 84 | 46 => 90 | 47 => 91 | 48 => 92 | 49 => 93 | 50 => 94 | 57 => 96 | n => n, fun | 22 => 113 | 24 => 117 | 25 => 118 | 3 => 3 | 39 => 130 | 0 => 0 | 53 => 146 | 55 => 148 | 4 => 4 | 46 => 140 | 45 => 139 | 50 => 59 | 5 => 5 | 9 => 9 | 66 => 152 | 70 => 156 | 76 => 159 | 77 => 60 | n => n, fun | n => n⟩
theorem Tryz.sortSd : Go.Proofs.SlLaysF0.n6 Tryz.prog Tryz.sortSd_ren := {
  mixed := by kernel_rfl
  f6 := ⟨Tryz.f55.name, by decide, Tryz.func55.trans (congrArg some (by kernel_rfl))⟩
  f14 := ⟨Tryz.f67.name, by decide, Tryz.func67.trans (congrArg some (by kernel_rfl))⟩
  f15 := Tryz.func68.trans (congrArg some (by kernel_rfl))
  f20 := ⟨Tryz.f77.name, by decide, Tryz.func77.trans (congrArg some (by kernel_rfl))⟩
  f21 := ⟨Tryz.f78.name, by decide, Tryz.func78.trans (congrArg some (by kernel_rfl))⟩
  f22 := ⟨Tryz.f79.name, by decide, Tryz.func79.trans (congrArg some (by kernel_rfl))⟩
  f23 := ⟨Tryz.f80.name, by decide, Tryz.func80.trans (congrArg some (by kernel_rfl))⟩
  f24 := ⟨Tryz.f81.name, by decide, Tryz.func81.trans (congrArg some (by kernel_rfl))⟩
  f25 := ⟨Tryz.f82.name, by decide, Tryz.func82.trans (congrArg some (by kernel_rfl))⟩
  f26 := ⟨Tryz.f83.name, by decide, Tryz.func83.trans (congrArg some (by kernel_rfl))⟩
  f27 := ⟨Tryz.f84.name, by decide, Tryz.func84.trans (congrArg some (by kernel_rfl))⟩
  f28 := Tryz.func85.trans (congrArg some (by kernel_rfl))
  f29 := Tryz.func86.trans (congrArg some (by kernel_rfl))
  f46 := ⟨Tryz.f90.name, by decide, Tryz.func90.trans (congrArg some (by kernel_rfl))⟩
  f47 := Tryz.func91.trans (congrArg some (by kernel_rfl))
  f48 := Tryz.func92.trans (congrArg some (by kernel_rfl))
  f49 := ⟨Tryz.f93.name, by decide, Tryz.func93.trans (congrArg some (by kernel_rfl))⟩
  f50 := ⟨Tryz.f94.name, by decide, Tryz.func94.trans (congrArg some (by kernel_rfl))⟩
  f57 := ⟨Tryz.f96.name, by decide, Tryz.func96.trans (congrArg some (by kernel_rfl))⟩
  t0 := Tryz.underlying0
  a0 := Tryz.isAgg0
  z0 := Tryz.sizeOf0
  v0 := Tryz.zeroValue0
  t3 := Tryz.underlying3
  a3 := Tryz.isAgg3
  z3 := Tryz.sizeOf3
  v3 := Tryz.zeroValue3
  t4 := Tryz.underlying4
  a4 := Tryz.isAgg4
  z4 := Tryz.sizeOf4
  v4 := Tryz.zeroValue4
  t5 := Tryz.underlying5
  a5 := Tryz.isAgg5
  z5 := Tryz.sizeOf5
  v5 := Tryz.zeroValue5
  t9 := Tryz.underlying9
  a9 := Tryz.isAgg9
  z9 := Tryz.sizeOf9
  v9 := Tryz.zeroValue9
  t22 := Tryz.underlying113
  a22 := Tryz.isAgg113
  z22 := Tryz.sizeOf113
  v22 := Tryz.zeroValue113
  t25 := Tryz.underlying118
  a25 := Tryz.isAgg118
  z25 := Tryz.sizeOf118
  v25 := Tryz.zeroValue118
  t39 := Tryz.underlying130
  a39 := Tryz.isAgg130
  z39 := Tryz.sizeOf130
  v39 := Tryz.zeroValue130
  t45 := Tryz.underlying139
  a45 := Tryz.isAgg139
  z45 := Tryz.sizeOf139
  v45 := Tryz.zeroValue139
  t46 := Tryz.underlying140
  a46 := Tryz.isAgg140
  z46 := Tryz.sizeOf140
  v46 := Tryz.zeroValue140
  t50 := Tryz.underlying59
  a50 := Tryz.isAgg59
  z50 := Tryz.sizeOf59
  v50 := Tryz.zeroValue59
  t53 := Tryz.underlying146
  a53 := Tryz.isAgg146
  z53 := Tryz.sizeOf146
  v53 := Tryz.zeroValue146
  t55 := Tryz.underlying148
  a55 := Tryz.isAgg148
  z55 := Tryz.sizeOf148
  v55 := Tryz.zeroValue148
  t66 := Tryz.underlying152
  a66 := Tryz.isAgg152
  z66 := Tryz.sizeOf152
  v66 := Tryz.zeroValue152
  t70 := Tryz.underlying156
  a70 := Tryz.isAgg156
  z70 := Tryz.sizeOf156
  v70 := Tryz.zeroValue156
  t76 := Tryz.underlying159
  a76 := Tryz.isAgg159
  z76 := Tryz.sizeOf159
  v76 := Tryz.zeroValue159
  t77 := Tryz.underlying60
  a77 := Tryz.isAgg60
  z77 := Tryz.sizeOf60
  v77 := Tryz.zeroValue60 }
end Go.Proofs
namespace Go.Eng
open Go Go.Proofs Go.RowKit
set_option maxRecDepth 100000
theorem keep_below {w w' : World} (h : Below w.heap.size w w') : Keep NoB w w' := ⟨h.os, h.tape, h.output, h.size, fun i hi _ => h.block i hi⟩

theorem trim_nil (l cs : List UInt8) : Lib.trimS l cs = [] ↔ ∀ b ∈ l, b ∈ cs := by
  unfold Lib.trimS Lib.trimLeftS Lib.trimRightS
  have hdrop : ∀ m : List UInt8, m.dropWhile (cs.contains ·) = [] ↔ ∀ b ∈ m, b ∈ cs := by
    intro m
    induction m with
    | nil => simp
    | cons x r ih =>
      rw [List.dropWhile_cons]
      by_cases hx : x ∈ cs
      · rw [if_pos (by simpa using hx), ih]
        simp [hx]
      · rw [if_neg (by simpa using hx)]
        simp [hx]
  rw [hdrop]
  have hsub : (∀ b ∈ (l.reverse.dropWhile (cs.contains ·)).reverse, b ∈ cs) ↔ l.reverse.dropWhile (cs.contains ·) = [] := by
    constructor
    · intro h
      cases hm : l.reverse.dropWhile (cs.contains ·) with
      | nil => rfl
      | cons x r =>
        have h1 : x ∈ cs := h x (by rw [hm]; simp)
        have h2 : ∀ m : List UInt8, ∀ x r, m.dropWhile (cs.contains ·) = x :: r → ¬ x ∈ cs := by
          intro m
          induction m with
          | nil => intro x r h; cases h
          | cons y s ih =>
            intro x r h
            rw [List.dropWhile_cons] at h
            by_cases hy : y ∈ cs
            · rw [if_pos (by simpa using hy)] at h
              exact ih x r h
            · rw [if_neg (by simpa using hy)] at h
              cases h; exact hy
        exact absurd h1 (h2 _ x r hm)
    · intro h
      rw [h]; simp
  rw [hsub, hdrop]
  simp

theorem index_mem : ∀ (l : List UInt8) (b : UInt8), 0 ≤ Lib.indexByte l b ↔ b ∈ l
  | [], b => by simp [Lib.indexByte]
  | x :: r, b => by
    have ih := index_mem r b
    have hg := Lib.indexByte_ge r b
    by_cases hx : x = b
    · subst hx; simp [Lib.indexByte]
    · have hne : ¬ b = x := fun h => hx h.symm
      have hbq : (x == b) = false := by simpa using hx
      have he : Lib.indexByte (x :: r) b = if Lib.indexByte r b == -1 then -1 else Lib.indexByte r b + 1 := by
        rw [Lib.indexByte, hbq]; rfl
      rw [he, List.mem_cons]
      constructor
      · intro h
        by_cases hm : Lib.indexByte r b = -1
        · rw [if_pos (by simpa using hm)] at h; omega
        · exact .inr (ih.1 (by omega))
      · rintro (h | h)
        · exact absurd h hne
        · have := ih.2 h
          rw [if_neg (by simp; omega)]; omega

theorem ext : Ext cfg :=
  { str := by kernel_rfl
    trim := fun s cut w hs hc ha => by
      have h := Any.strings_Trim_laid Tryz.lays160 (by kernel_rfl) s cut w (by omega) (by omega) (fun j b hj => ha b (List.mem_of_getElem? hj))
      have h : Calls Tryz.prog 98 #[.string s, .string cut] w fun e w' => e = .returned (.string ⟨(Lib.trimS s.data.toList cut.data.toList).toArray⟩) ∧ Below w.heap.size w w' := h
      refine ret_of_calls (P := cfg.P) (f := 98) Tryz.func98 (by kernel_rfl) (by kernel_rfl) (h.mono ?_)
      rintro e w' ⟨rfl, hB⟩
      refine ⟨_, rfl, keep_below hB, _, rfl, ?_⟩
      rw [ByteArray.toList_eq, List.toList_toArray]
      exact trim_nil _ _
    idx := fun s b w => by
      have h := Any.strings_IndexByte Tryz.lays137 s b.toNat w
      have h : Calls Tryz.prog 97 #[.string s, .int .u8 b.toNat] w fun e w' => e = .returned (.int .i64 (Lib.indexByte s.data.toList ((b.toNat : Int)).toNat.toUInt8)) ∧ w' = w := h
      refine ret_of_calls (P := cfg.P) (f := 97) Tryz.func97 (by kernel_rfl) (by kernel_rfl) (h.mono ?_)
      rintro e w' ⟨rfl, hw⟩
      have hw := hw.symm
      subst hw
      refine ⟨_, rfl, Keep.refl _ _, _, rfl, ?_⟩
      rw [Int.toNat_natCast, show b.toNat.toUInt8 = b from UInt8.ofNat_toNat]
      exact index_mem _ _ }
end Go.Eng
namespace Go.Eng
open Go Go.Proofs Go.Shelf Go.RowKit Go.Lib Go.Sort
set_option maxRecDepth 100000
instance : Inhabited Sd := ⟨⟨0, ⟨0, 0⟩, ⟨0, 0⟩⟩⟩

theorem newX {e : TypeId} {cs : List Value} {w : World} {k : Value → World → Prop} (h : At (w.alloc (.cells cs.toArray e)) w.heap.size cs e → Keep NoB w (w.alloc (.cells cs.toArray e)) → k (pb w.heap.size 0) (w.alloc (.cells cs.toArray e))) : newP e cs.toArray w k := by
  have hh : (w.alloc (.cells cs.toArray e)).heap = w.heap.push (.cells cs.toArray e) := rfl
  refine h ?_ ⟨rfl, rfl, rfl, by rw [hh]; simp, fun i hi _ => ?_⟩
  · unfold At; rw [hh]; simp
  · rw [hh, Array.getElem?_push, if_neg (by omega)]
/-- the order of sides: two blocks are laid, and nothing else -/
theorem side_cmp (x y : Sd) (W : World) : Ret cfg.P cfg.f_region_CheckRegion_1 #[.agg (eSd x).toArray, .agg (eSd y).toArray] W fun v w' => v = vi (cmpI (minX x) (minX y)) ∧ w' = (W.alloc (.cells (eSd x).toArray cfg.t_region_side)).alloc (.cells (eSd y).toArray cfg.t_region_side) := by
  apply eqs.region_CheckRegion_1
  unfold wp_region_CheckRegion_1
  refine newX (cs := eSd x) fun a1 k1 => ?_
  refine newX (cs := eSd y) fun a2 k2 => ?_
  have a1 := a1.keep0 k2
  refine s_off (s_off (s_ldAt a1 rfl (s_off (s_off (s_ldAt a1 rfl (s_min2 ?_))))))
  refine s_off (s_off (s_ldAt a2 rfl (s_off (s_off (s_ldAt a2 rfl (s_min2 ?_))))))
  refine (compareI_spec eqs _ _ _).mono ?_
  rintro v w' ⟨rfl, rfl⟩
  exact ⟨rfl, rfl⟩

theorem flatK_holds {w : World} {b : Nat} {e : TypeId} {l : List Sd} {sp : List Value} (h : At w b (l.flatMap eSd ++ sp) e) : HoldsK eSd 5 w b 0 l.toArray := by
  intro t ht
  have hlen := flat_len (sz := 5) l (fun x _ => (rfl : (eSd x).length = 5))
  rw [size_flatK, List.size_toArray] at ht
  have hq : t / 5 < l.length := by omega
  obtain ⟨x, hx⟩ := idx_of_lt hq
  have hr : t % 5 < 5 := Nat.mod_lt _ (by omega)
  have hg := flat_get (enc := eSd) (sz := 5) l (fun _ _ => rfl) (t / 5) (t % 5) x hx hr
  have e1 : t / 5 * 5 + t % 5 = t := by omega
  rw [e1] at hg
  have hxe : (eSd x)[t % 5]? = some ((eSd x)[t % 5]!) := by
    rw [List.getElem!_eq_getElem?_getD, List.getElem?_eq_getElem (show t % 5 < (eSd x).length from hr)]; rfl
  rw [get_flatK _ _ _ _ (by rw [List.size_toArray]; exact ht)]
  have hd : l.toArray[t / 5]! = x := by
    rw [getElem!_pos l.toArray (t / 5) (by simpa using hq)]
    rw [List.getElem?_eq_getElem hq] at hx
    simpa using Option.some.inj hx
  rw [hd]
  refine ⟨?_, h.free _⟩
  rw [Nat.zero_add, h.cell, List.getElem?_append_left (by omega), hg, hxe]
  rfl

theorem sort_keep {w : World} {b n : Nat} {d : Array Sd} {os : Array Obj} : Keep (· = b) w (sortWorldK eSd 5 w b 0 n d os) := by
  have hh : (sortWorldK eSd 5 w b 0 n d os).heap = (w.heap.modify b (onCells (putCells id 0 (flatK eSd 5 d)))) ++ os := rfl
  refine ⟨rfl, rfl, rfl, by rw [hh]; simp, fun i hi hm => ?_⟩
  have hm : ¬ i = b := hm
  rw [hh, Array.getElem?_append, if_pos (by simpa using hi), Array.getElem?_modify, if_neg (fun h => hm h.symm)]

theorem sort_cells {w : World} {b : Nat} {d : Array Sd} (h : HoldsK eSd 5 w b 0 d) : Cells w b 0 (d.toList.flatMap eSd) := by
  intro t v hv
  have hlen := flat_len (sz := 5) d.toList (fun x _ => (rfl : (eSd x).length = 5))
  have ht := lt_of_idx hv
  rw [hlen, Array.length_toList] at ht
  have hq : t / 5 < d.size := by omega
  have hr : t % 5 < 5 := Nat.mod_lt _ (by omega)
  obtain ⟨x, hx⟩ := idx_of_lt (show t / 5 < d.toList.length by rw [Array.length_toList]; exact hq)
  have hg := flat_get (enc := eSd) (sz := 5) d.toList (fun _ _ => rfl) (t / 5) (t % 5) x hx hr
  have e1 : t / 5 * 5 + t % 5 = t := by omega
  rw [e1] at hg
  have hd : d[t / 5]! = x := by
    rw [getElem!_pos d (t / 5) hq]
    rw [List.getElem?_eq_getElem (by rw [Array.length_toList]; exact hq)] at hx
    simpa using Option.some.inj hx
  have := (h.cell hq hr).1
  rw [hd] at this
  rw [Nat.zero_add] at this ⊢
  rw [e1] at this
  rw [this]
  rw [hg, List.getElem?_eq_getElem (show t % 5 < (eSd x).length from hr)] at hv
  rw [getElem!_pos (eSd x) (t % 5) hr]
  exact hv

theorem cmp_lt (x y : Sd) : ltOf (fun x y : Sd => cmpI (minX x) (minX y)) x y = decide (minX x < minX y) := by
  unfold ltOf cmpI
  by_cases h1 : minX x < minX y
  · simp [h1]
  · by_cases h2 : minX y < minX x <;> simp [h1, h2]
theorem cmp_swo : SWO (ltOf fun x y : Sd => cmpI (minX x) (minX y)) :=
  { irrefl := fun x => by rw [cmp_lt]; simp
    trans := fun x y z h1 h2 => by rw [cmp_lt] at *; simp at *; omega
    ntrans := fun x y z h1 h2 => by rw [cmp_lt] at *; simp at *; omega }

theorem extR : ExtR cfg :=
  { sort := fun {D v l w} ho hn => by
      obtain ⟨⟨h1, h2⟩, ⟨rfl, h3⟩ | ⟨b, cap, sp, rfl, h3, h4, h5, h6⟩⟩ := ho
      · have hl : l = [] := List.length_eq_zero_iff.1 h3
        subst hl
        refine ret_of_calls (P := cfg.P) (f := 55) Tryz.func55 (by kernel_rfl) (by kernel_rfl) ((AnyF.slices_SortFunc_none Tryz.sortSd none 0 _ w).mono ?_)
        rintro e w' ⟨rfl, hw⟩
        have hw := hw.symm
        subst hw
        exact ⟨_, rfl, [], List.Perm.nil, List.Pairwise.nil, Sl.nil, Keep.refl _ _⟩
      · have hH := flatK_holds h4
        have eg : ∀ args w, (callFunc 56 args).run Tryz.prog w = .ok (.enter 56 args) w := enters_of Tryz.func56 (by kernel_rfl) rfl
        have hc : CmpLays Tryz.prog 56 #[] eSd 5 (fun x y => cmpI (minX x) (minX y)) b 0 l.toArray.size w := fun m os dk _ x y => by
          refine (calls_of_ret (P := cfg.P) (f := 56) Tryz.func56 (by kernel_rfl) (by kernel_rfl) (side_cmp x y _)).mono ?_
          rintro e w' ⟨v, rfl, rfl, rfl⟩
          exact ⟨rfl, 0, _, by rw [alloc_eq_grow, alloc_eq_grow, grow_grow]; rfl⟩
        have h := AnyQ.slices_SortFunc Tryz.sortSd 5 Tryz.isAgg117 Tryz.sizeOf117 eSd (fun _ => rfl) (fun x v hv => by simp [eSd] at hv; rcases hv with rfl | rfl | rfl | rfl | rfl <;> rfl) (fun x y => cmpI (minX x) (minX y)) cmp_swo 56 #[] b 0 cap l.toArray w eg hc hH h4.lt (by rw [List.size_toArray]; omega)
        have h : Calls Tryz.prog 55 #[.slice (some ⟨b, 0, none⟩) l.toArray.size cap, .func (.func 56) #[] #[]] w _ := h
        rw [List.size_toArray] at h
        refine ret_of_calls (P := cfg.P) (f := 55) Tryz.func55 (by kernel_rfl) (by kernel_rfl) (h.mono ?_)
        rintro e w' ⟨rfl, d', n, os, ⟨hp1, _, hp3⟩, hs, rfl⟩
        have hp1 : d'.size = l.length := by simpa using hp1
        have hperm : d'.toList.Perm l := by
          have e1 : (d'.extract 0 l.length).toList = d'.toList := by rw [← hp1]; simp
          have e2 : (l.toArray.extract 0 l.length).toList = l := by simp
          rw [e1, e2] at hp3
          exact hp3
        refine ⟨_, rfl, d'.toList, hperm, ?_, ?_, sort_keep.mono fun i hi => by subst hi; rfl⟩
        · rw [List.pairwise_iff_getElem]
          intro i j hi hj hij
          rw [Array.length_toList] at hi hj
          have := hs i j (Nat.zero_le _) hij (by omega)
          rw [cmp_lt, decide_eq_false_iff_not, getElem!_pos d' i hi, getElem!_pos d' j hj] at this
          simp only [Array.getElem_toList]
          omega
        · have hl' : d'.toList.length = l.length := by rw [Array.length_toList]; exact hp1
          refine ⟨some ⟨b, 0, none⟩, cap, (show Value.slice (some ⟨b, 0, none⟩) l.length cap = Value.slice (some ⟨b, 0, none⟩) d'.toList.length cap by rw [hl']), ⟨by rw [hl']; exact h6, by rw [hl']; omega⟩, fun _ => ⟨b, 0, rfl, h3, ?_, ?_⟩⟩
          · exact Nat.lt_of_lt_of_le h4.lt (sort_keep (d := d') (os := os) (n := n)).size
          · exact sort_cells (holdsK_sortWorldK_c eSd 5 w b 0 l.toArray d' n os hH h4.lt (by rw [hp1, List.size_toArray])) }
end Go.Eng

