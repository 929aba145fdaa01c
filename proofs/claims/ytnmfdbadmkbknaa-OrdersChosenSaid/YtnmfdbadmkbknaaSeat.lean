/- Part of a proof: the law OrdersChosen gives true for every list of integers and leaves its argument as it was; there are no conditions beyond those that the given row states. -/
import Derived.Test.YtnmfdbadmkbknaaWp
import Derived.Test.YtnmfdbadmkbknaaProg
import Derived.KernelRfl
import Derived.Test.YtnmfdbadmkbknaaSb
import Derived.Test.YtnmfdbadmkbknaaLib
set_option linter.unusedVariables false
set_option linter.unusedSimpArgs false
/-! The functions of this program are those of AWp. -/
namespace Go.Eng
open Go Go.Proofs

noncomputable def cfg : Cfg := {
  P := Try.prog
  f_bllaw1_OrdersChosen := 3
  f_bllaw1_pathed := 24
  f_blmake_Below := 57
  f_blref1_Apart := 50
  f_blref1_BegunOf := 19
  f_blref1_BegunOf_1 := 52
  f_blref1_BestOf := 17
  f_blref1_BestOf_1 := 46
  f_blref1_EndsOf := 49
  f_blref1_ImprovedOf := 20
  f_blref1_ImprovedOf_1 := 53
  f_blref1_IndicesFault := 11
  f_blref1_NearestOf := 18
  f_blref1_OrderFault := 12
  f_blref1_PathsFault := 10
  f_blref1_PointFault := 9
  f_blref1_SpanFault := 61
  f_blref1_TravelOf := 51
  f_blref1_in := 31
  f_blref1_left := 47
  f_blref1_left_1 := 68
  f_blref1_pathFault := 32
  f_blref1_printed := 69
  f_blref1_search := 45
  f_blref1_search_1 := 67
  f_blref1_visitFault := 34
  f_blref1_visitFault_1 := 60
  f_blref1_ways := 48
  f_cmp_Or_api_Errno := 8
  f_kit_Outside := 73
  f_math_bits_Mul := 54
  f_math_bits_Mul32 := 70
  f_math_bits_Mul64 := 71
  f_p_blmake_Stream_APoint := 4
  f_p_blmake_Stream_AVisit := 30
  f_p_blmake_Stream_AnOrder := 6
  f_p_blmake_Stream_Flip := 22
  f_p_blmake_Stream_Indices := 7
  f_p_blmake_Stream_Next := 28
  f_p_blmake_Stream_Odd := 26
  f_p_blmake_Stream_Order := 29
  f_p_blmake_Stream_PathList := 5
  f_p_blmake_Stream_Pick := 27
  f_p_blmake_Stream_Range := 25
  f_p_path_finder_next := 37
  f_path_Begun := 15
  f_path_Best := 13
  f_path_CheckOrder := 66
  f_path_CheckPaths := 63
  f_path_Distance := 39
  f_path_Improved := 16
  f_path_Long := 55
  f_path_Nearest := 14
  f_path_PathFault := 74
  f_path_abs := 65
  f_path_choices := 36
  f_path_ends := 64
  f_path_exchange := 44
  f_path_indicesFault := 40
  f_path_nearest := 41
  f_path_orderFault := 75
  f_path_startFault := 42
  f_path_startPathsFault := 35
  f_path_travel := 38
  f_path_visitFault := 79
  f_region_IsFar := 62
  f_slices_Clone_sl_api_Point_api_Point := 76
  f_slices_Clone_sl_api_Visit_api_Visit := 43
  f_slices_ContainsFunc_sl_api_Point_api_Point := 78
  f_slices_ContainsFunc_sl_api_Visit_api_Visit := 59
  f_slices_Contains_sl_int_int := 33
  f_slices_Equal_sl_api_Visit_api_Visit := 21
  f_slices_Equal_sl_int_int := 56
  f_slices_IndexFunc_sl_api_Point_api_Point := 80
  f_slices_IndexFunc_sl_api_Visit_api_Visit := 72
  f_slices_Index_sl_int_int := 58
  f_slices_Repeat_sl_api_Path_api_Path := 23
  f_slices_Reverse_sl_api_Point_api_Point := 77
  t_api_Path := 55
  t_api_Point := 27
  t_api_Visit := 50
  t_blmake_Stream := 25
  t_func_sl_api_Visit_api_Point_int := 111
  t_func_sl_api_Visit_sl_int := 96
  t_int := 3
  t_map_api_Point_int := 77
  t_map_int_int := 76
  t_path_choice := 79
  t_path_finder := 74
  t_path_way := 89
  t_sl_api_Errno := 64
  t_sl_api_Path := 29
  t_sl_api_Point := 53
  t_sl_api_Visit := 31
  t_sl_bool := 84
  t_sl_int := 22
  t_sl_map_int_int := 72
  t_sl_path_choice := 71
  t_sl_sl_api_Point := 62
  t_sl_sl_int := 87
  t_sl_sl_path_choice := 86
  t_string := 9
  t_uint64 := 116 }

theorem cfg_mixed : Try.prog.follows .mixedOrders = true := by kernel_rfl

theorem eq_bllaw1_OrdersChosen (a0 w : _) (R : Value → World → Prop) (h : wp_bllaw1_OrdersChosen cfg a0 w R) : Ret cfg.P cfg.f_bllaw1_OrdersChosen #[a0] w R :=
  ret_of_fn cfg_mixed Try.f3 (.s (.r .seq none) (.s (.r .seq none) (.s (.r .seq none) (.s (.r .seq none) (.s (.r .seq none) (.s (.r (.held 16) (some [9, 10])) (.s (.r .seq none) (.s (.r .seq none) (.s (.r .seq none) (.s (.r .seq none) (.s (.r .seq none) (.s (.r .seq none) (.s (.s (.r .seq none) (.cj [23, 24, 27, 28] (.s (.r .seq none) (.r .seq none)) .z)) (.s (.s (.r .seq none) (.cj [25, 29] (.r .seq none) .z)) (.s (.s (.r .seq none) (.cj [26, 30] (.r .seq none) .z)) (.s (.s (.r .seq (some [194])) (.c (.s (.r .seq none) .z) .z)) (.s (.s (.r .seq none) (.cj [] (.s (.r .seq none) (.s (.r .seq none) (.s (.r .seq none) (.c (.s (.r .seq none) .z) .z)))) .z)) (.s (.r .seq none) .z)))))))))))))))))) Try.func3 (by kernel_rfl) (by kernel_rfl) h (by kernel_rfl)

theorem eq_p_blmake_Stream_APoint (a0 w : _) (R : Value → World → Prop) (h : wp_p_blmake_Stream_APoint cfg a0 w R) : Ret cfg.P cfg.f_p_blmake_Stream_APoint #[a0] w R :=
  ret_of_fn cfg_mixed Try.f4 (.s (.r .seq none) (.s (.r .seq none) (.s (.s (.r .seq none) (.cj [] (.r .seq none) .z)) (.s (.r .seq none) .z)))) Try.func4 (by kernel_rfl) (by kernel_rfl) h (by kernel_rfl)

theorem eq_p_blmake_Stream_PathList (a0 a1 w : _) (R : Value → World → Prop) (h : wp_p_blmake_Stream_PathList cfg a0 a1 w R) : Ret cfg.P cfg.f_p_blmake_Stream_PathList #[a0, a1] w R :=
  ret_of_fn cfg_mixed Try.f5 (.s (.r .seq none) (.s (.r .seq none) (.s (.s (.r .seq none) (.i (.l [5, 11] (.s (.r .seq none) (.s (.c .z .z) (.s (.i (.s (.r .seq none) (.s (.s (.r .seq none) (.i (.l [15] (.s (.r .seq none) (.s (.c .z .z) (.s (.i (.r (.held 10) (some []))) (.r .seq none))))))) (.s (.r .seq (some [])) (.r .seq none))))) (.r .seq none))))))) (.s (.s (.r .seq (some [50])) (.cj [] (.s (.r .seq none) (.r .seq none)) .z)) (.s (.r .seq none) .z))))) Try.func5 (by kernel_rfl) (by kernel_rfl) h (by kernel_rfl)

theorem eq_p_blmake_Stream_AnOrder (a0 a1 w : _) (R : Value → World → Prop) (h : wp_p_blmake_Stream_AnOrder cfg a0 a1 w R) : Ret cfg.P cfg.f_p_blmake_Stream_AnOrder #[a0, a1] w R :=
  ret_of_fn cfg_mixed Try.f6 (.s (.r .seq none) (.s (.r .seq none) (.s (.s (.r .seq none) (.i (.l [5, 13] (.s (.r .seq none) (.s (.c .z .z) (.s (.i (.s (.r .seq none) (.r .seq none))) (.r .seq none))))))) (.s (.s (.r .seq none) (.cj [5] (.r .seq none) .z)) (.s (.r .seq none) .z))))) Try.func6 (by kernel_rfl) (by kernel_rfl) h (by kernel_rfl)

theorem eq_p_blmake_Stream_Indices (a0 a1 w : _) (R : Value → World → Prop) (h : wp_p_blmake_Stream_Indices cfg a0 a1 w R) : Ret cfg.P cfg.f_p_blmake_Stream_Indices #[a0, a1] w R :=
  ret_of_fn cfg_mixed Try.f7 (.s (.r .seq none) (.s (.r .seq none) (.s (.s (.r .seq (some [14])) (.cj [] (.r .seq none) .z)) (.s (.s (.r .seq none) (.cj [5] (.r .seq none) .z)) (.s (.r .seq none) .z))))) Try.func7 (by kernel_rfl) (by kernel_rfl) h (by kernel_rfl)

theorem eq_cmp_Or_api_Errno (a0 w : _) (R : Value → World → Prop) (h : wp_cmp_Or_api_Errno cfg a0 w R) : Ret cfg.P cfg.f_cmp_Or_api_Errno #[a0] w R :=
  ret_of_fn cfg_mixed Try.f8 (.s (.r .seq none) (.s (.r .seq none) (.s (.s (.r .seq none) (.i (.l [8] (.s (.r .seq none) (.s (.c .z .z) (.s (.i (.s (.r .seq none) (.s (.r .seq none) (.c (.s (.r .seq none) .z) .z)))) (.r .seq none))))))) (.s (.r .seq none) .z)))) Try.func8 (by kernel_rfl) (by kernel_rfl) h (by kernel_rfl)

theorem eq_blref1_PointFault (a0 w : _) (R : Value → World → Prop) (h : wp_blref1_PointFault cfg a0 w R) : Ret cfg.P cfg.f_blref1_PointFault #[a0] w R :=
  ret_of_fn cfg_mixed Try.f9 (.s (.r .seq none) (.s (.s (.r .seq none) (.i (.l [7] (.s (.r .seq none) (.s (.c .z .z) (.s (.i (.s (.r .seq none) (.s (.r .seq (some [20])) (.c (.s (.r .seq none) .z) .z)))) (.r .seq none))))))) (.s (.r .seq none) .z))) Try.func9 (by kernel_rfl) (by kernel_rfl) h (by kernel_rfl)

theorem eq_blref1_PathsFault (a0 w : _) (R : Value → World → Prop) (h : wp_blref1_PathsFault cfg a0 w R) : Ret cfg.P cfg.f_blref1_PathsFault #[a0] w R :=
  ret_of_fn cfg_mixed Try.f10 (.s (.r .seq none) (.s (.s (.r .seq none) (.c (.s (.r .seq none) .z) .z)) (.s (.s (.r .seq none) (.i (.l [11] (.s (.r .seq none) (.s (.c .z .z) (.s (.i (.s (.r .seq none) (.s (.r .seq none) (.s (.r .seq none) (.c (.s (.r .seq none) .z) .z))))) (.r .seq none))))))) (.s (.r .seq none) .z)))) Try.func10 (by kernel_rfl) (by kernel_rfl) h (by kernel_rfl)

theorem eq_blref1_IndicesFault (a0 a1 w : _) (R : Value → World → Prop) (h : wp_blref1_IndicesFault cfg a0 a1 w R) : Ret cfg.P cfg.f_blref1_IndicesFault #[a0, a1] w R :=
  ret_of_fn cfg_mixed Try.f11 (.s (.r .seq none) (.s (.s (.r .seq none) (.c (.s (.r .seq none) .z) .z)) (.s (.s (.r .seq none) (.i (.l [13] (.s (.r .seq none) (.s (.c .z .z) (.s (.i (.s (.r .seq none) (.i (.s (.r .seq none) (.c (.s (.r .seq none) .z) (.s (.r .seq none) (.c (.s (.r .seq none) .z) .z))))))) (.r .seq none))))))) (.s (.r .seq none) .z)))) Try.func11 (by kernel_rfl) (by kernel_rfl) h (by kernel_rfl)

theorem eq_blref1_OrderFault (a0 a1 w : _) (R : Value → World → Prop) (h : wp_blref1_OrderFault cfg a0 a1 w R) : Ret cfg.P cfg.f_blref1_OrderFault #[a0, a1] w R :=
  ret_of_fn cfg_mixed Try.f12 (.s (.r .seq none) (.s (.s (.r .seq none) (.s (.r .seq none) (.c (.s (.r .seq none) .z) .z))) (.s (.s (.r .seq none) (.c (.s (.r .seq none) .z) .z)) (.s (.s (.r .seq none) (.i (.l [21] (.s (.r .seq none) (.s (.c .z .z) (.s (.i (.s (.r .seq none) (.s (.r (.quiet 5) none) (.s (.r .seq none) (.c (.s (.r .seq none) .z) .z))))) (.r .seq none))))))) (.s (.r .seq none) .z))))) Try.func12 (by kernel_rfl) (by kernel_rfl) h (by kernel_rfl)

theorem eq_path_Best (a0 a1 w : _) (R : Value → World → Prop) (h : wp_path_Best cfg a0 a1 w R) : Ret cfg.P cfg.f_path_Best #[a0, a1] w R :=
  ret_of_fn cfg_mixed Try.f13 (.s (.r .seq none) (.s (.s (.r .seq none) (.s (.r .seq none) (.c (.s (.r .seq none) .z) .z))) (.s (.s (.r .seq none) (.c (.s (.r .seq none) .z) .z)) (.s (.r .seq none) (.s (.s (.r .seq none) (.i (.l [35] (.s (.r .seq none) (.s (.c .z .z) (.s (.i (.s (.r .seq none) (.r (.held 8) none))) (.r .seq none))))))) (.s (.s (.r .seq none) (.i (.l [55] (.s (.r .seq none) (.s (.c .z .z) (.s (.i (.r .seq none)) (.r .seq none))))))) (.s (.s (.r .seq none) (.i (.l [10] (.s (.s (.r .seq none) (.c .z .z)) (.s (.i (.s (.r .seq none) (.s (.r .seq none) (.i (.l [82] (.s (.r .seq none) (.s (.c .z .z) (.s (.b [] (.s (.r .seq none) (.s (.s (.r .seq none) (.c .z .z)) (.s (.r .seq none) (.s (.s (.r .seq none) (.cj [14] (.s (.r .seq none) (.r .seq none)) .z)) (.r .seq none)))))) (.r .seq none))))))))) (.r .seq none)))))) (.s (.r .seq none) (.s (.r .seq none) (.s (.s (.r .seq none) (.i (.l [16, 18] (.s (.s (.r .seq none) (.c .z .z)) (.i (.s (.r .seq none) (.s (.r .seq none) (.s (.r .seq none) (.r (.held 9) none))))))))) (.s (.r .seq none) .z))))))))))) Try.func13 (by kernel_rfl) (by kernel_rfl) h (by kernel_rfl)

theorem eq_path_Nearest (a0 a1 w : _) (R : Value → World → Prop) (h : wp_path_Nearest cfg a0 a1 w R) : Ret cfg.P cfg.f_path_Nearest #[a0, a1] w R :=
  ret_of_fn cfg_mixed Try.f14 (.s (.r .seq none) (.s (.s (.r .seq none) (.s (.r .seq none) (.c (.s (.r .seq none) .z) .z))) (.s (.r .seq none) (.s (.r .seq none) (.s (.r .seq none) (.s (.s (.r .seq none) (.i (.l [9, 28] (.s (.r .seq none) (.s (.c .z .z) (.s (.i (.s (.r .seq none) (.s (.r .seq none) (.s (.s (.r .seq none) (.i (.l [12, 32] (.s (.r .seq none) (.s (.c .z .z) (.s (.b [12] (.s (.r .seq none) (.s (.s (.r .seq none) (.c .z .z)) (.s (.r .seq none) (.i (.l [12, 43] (.s (.r .seq none) (.s (.c .z .z) (.s (.b [12] (.s (.r .seq none) (.s (.r (.held 13) (some [59])) (.cj [12] (.r .seq none) .z)))) (.r .seq none)))))))))) (.r .seq none))))))) (.s (.r .seq none) (.s (.r .seq none) (.r .seq none))))))) (.r .seq none))))))) (.s (.r .seq none) .z))))))) Try.func14 (by kernel_rfl) (by kernel_rfl) h (by kernel_rfl)

theorem eq_path_Begun (a0 a1 a2 w : _) (R : Value → World → Prop) (h : wp_path_Begun cfg a0 a1 a2 w R) : Ret cfg.P cfg.f_path_Begun #[a0, a1, a2] w R :=
  ret_of_fn cfg_mixed Try.f15 (.s (.r .seq none) (.s (.s (.r .seq none) (.s (.r .seq none) (.c (.s (.r .seq none) .z) .z))) (.s (.s (.r .seq none) (.s (.r .seq none) (.c (.s (.r .seq none) .z) .z))) (.s (.r .seq none) (.s (.r .seq none) (.s (.s (.r .seq none) (.i (.l [13] (.s (.s (.r .seq none) (.c .z .z)) (.s (.i (.s (.r .seq none) (.s (.r .seq none) (.i (.l [62] (.s (.r .seq none) (.s (.c .z .z) (.s (.i (.s (.r .seq none) (.s (.r .seq none) (.s (.s (.r .seq none) (.cj [16] (.r (.held 14) none) .z)) (.r .seq none))))) (.r .seq none))))))))) (.r .seq none)))))) (.s (.r .seq none) (.s (.r .seq none) (.s (.s (.r .seq none) (.i (.l [17, 99] (.s (.r .seq none) (.s (.c .z .z) (.s (.i (.s (.r .seq none) (.s (.r (.held 18) (some [20])) (.s (.r .seq none) (.r .seq none))))) (.r .seq none))))))) (.s (.r .seq none) .z)))))))))) Try.func15 (by kernel_rfl) (by kernel_rfl) h (by kernel_rfl)

theorem eq_path_Improved (a0 a1 a2 w : _) (R : Value → World → Prop) (h : wp_path_Improved cfg a0 a1 a2 w R) : Ret cfg.P cfg.f_path_Improved #[a0, a1, a2] w R :=
  ret_of_fn cfg_mixed Try.f16 (.s (.r .seq none) (.s (.s (.r .seq none) (.s (.r .seq none) (.c (.s (.r .seq none) .z) .z))) (.s (.r .seq none) (.s (.i (.l [] (.s (.s (.r .seq none) (.c .z .z)) (.i .z)))) (.s (.r .seq none) .z))))) Try.func16 (by kernel_rfl) (by kernel_rfl) h (by kernel_rfl)

theorem eq_blref1_BestOf (a0 a1 w : _) (R : Value → World → Prop) (h : wp_blref1_BestOf cfg a0 a1 w R) : Ret cfg.P cfg.f_blref1_BestOf #[a0, a1] w R :=
  ret_of_fn cfg_mixed Try.f17 (.s (.r .seq none) (.s (.r .seq none) .z)) Try.func17 (by kernel_rfl) (by kernel_rfl) h (by kernel_rfl)

theorem eq_blref1_NearestOf (a0 a1 w : _) (R : Value → World → Prop) (h : wp_blref1_NearestOf cfg a0 a1 w R) : Ret cfg.P cfg.f_blref1_NearestOf #[a0, a1] w R :=
  ret_of_fn cfg_mixed Try.f18 (.s (.r .seq none) (.s (.r .seq none) (.s (.r .seq none) (.s (.i (.l [6] (.s (.s (.r .seq none) (.c .z .z)) (.i (.s (.r .seq none) (.s (.r .seq none) (.s (.s (.r .seq none) (.i (.l [9, 26] (.s (.r .seq none) (.s (.c .z .z) (.s (.i (.s (.r .seq none) (.s (.r .seq none) (.i (.l [9, 34] (.s (.r .seq none) (.s (.c .z .z) (.s (.b [9] (.s (.r .seq none) (.s (.r .seq none) (.s (.r .seq (some [52])) (.cj [9] (.r (.held 5) none) .z))))) (.r .seq none))))))))) (.r .seq none))))))) (.s (.r .seq none) (.r .seq none))))))))) (.s (.r .seq none) .z))))) Try.func18 (by kernel_rfl) (by kernel_rfl) h (by kernel_rfl)

theorem eq_blref1_BegunOf (a0 a1 a2 w : _) (R : Value → World → Prop) (h : wp_blref1_BegunOf cfg a0 a1 a2 w R) : Ret cfg.P cfg.f_blref1_BegunOf #[a0, a1, a2] w R :=
  ret_of_fn cfg_mixed Try.f19 (.s (.r .seq none) (.s (.r .seq none) .z)) Try.func19 (by kernel_rfl) (by kernel_rfl) h (by kernel_rfl)

theorem eq_blref1_ImprovedOf (a0 a1 a2 w : _) (R : Value → World → Prop) (h : wp_blref1_ImprovedOf cfg a0 a1 a2 w R) : Ret cfg.P cfg.f_blref1_ImprovedOf #[a0, a1, a2] w R :=
  ret_of_fn cfg_mixed Try.f20 (.s (.r .seq none) (.s (.r .seq none) (.s (.r .seq none) (.s (.i (.l [] (.s (.s (.r .seq none) (.c .z .z)) (.i .z)))) (.s (.r (.held 6) none) .z))))) Try.func20 (by kernel_rfl) (by kernel_rfl) h (by kernel_rfl)

theorem eq_slices_Equal_sl_api_Visit_api_Visit (a0 a1 w : _) (R : Value → World → Prop) (h : wp_slices_Equal_sl_api_Visit_api_Visit cfg a0 a1 w R) : Ret cfg.P cfg.f_slices_Equal_sl_api_Visit_api_Visit #[a0, a1] w R :=
  ret_of_fn cfg_mixed Try.f21 (.s (.r .seq none) (.s (.s (.r .seq none) (.c (.s (.r .seq none) .z) .z)) (.s (.s (.r .seq none) (.i (.l [13] (.s (.r .seq none) (.s (.c .z .z) (.s (.i (.s (.r .seq none) (.s (.r (.quiet 9) none) (.c (.s (.r .seq none) .z) .z)))) (.r .seq none))))))) (.s (.r .seq none) .z)))) Try.func21 (by kernel_rfl) (by kernel_rfl) h (by kernel_rfl)

theorem eq_p_blmake_Stream_Flip (a0 a1 w : _) (R : Value → World → Prop) (h : wp_p_blmake_Stream_Flip cfg a0 a1 w R) : Ret cfg.P cfg.f_p_blmake_Stream_Flip #[a0, a1] w R :=
  ret_of_fn cfg_mixed Try.f22 (.s (.r .seq none) (.s (.r .seq none) .z)) Try.func22 (by kernel_rfl) (by kernel_rfl) h (by kernel_rfl)

theorem eq_slices_Repeat_sl_api_Path_api_Path (a0 a1 w : _) (R : Value → World → Prop) (h : wp_slices_Repeat_sl_api_Path_api_Path cfg a0 a1 w R) : Ret cfg.P cfg.f_slices_Repeat_sl_api_Path_api_Path #[a0, a1] w R :=
  ret_of_fn cfg_mixed Try.f23 (.s (.r .seq none) (.s (.s (.r .seq none) (.cj [] (.r .seq none) .z)) (.s (.r .seq none) (.s (.s (.r .seq (some [26])) (.cj [] (.r .seq none) .z)) (.s (.r .seq none) (.s (.r .seq none) (.s (.i (.l [8] (.s (.s (.r .seq none) (.c .z .z)) (.i (.r (.quiet 7) none))))) (.s (.r .seq none) .z)))))))) Try.func23 (by kernel_rfl) (by kernel_rfl) h (by kernel_rfl)

theorem eq_bllaw1_pathed ( w : _) (R : Value → World → Prop) (h : wp_bllaw1_pathed cfg  w R) : Ret cfg.P cfg.f_bllaw1_pathed #[] w R :=
  ret_of_fn cfg_mixed Try.f24 (.s (.r .seq none) (.s (.r .seq none) (.s (.r .seq (some [0])) .z))) Try.func24 (by kernel_rfl) (by kernel_rfl) h (by kernel_rfl)

theorem eq_p_blmake_Stream_Range (a0 a1 a2 w : _) (R : Value → World → Prop) (h : wp_p_blmake_Stream_Range cfg a0 a1 a2 w R) : Ret cfg.P cfg.f_p_blmake_Stream_Range #[a0, a1, a2] w R :=
  ret_of_fn cfg_mixed Try.f25 (.s (.r .seq none) (.s (.s (.r .seq none) (.c (.s (.r .seq none) .z) .z)) (.s (.r .seq none) .z))) Try.func25 (by kernel_rfl) (by kernel_rfl) h (by kernel_rfl)

theorem eq_p_blmake_Stream_Odd (a0 a1 a2 w : _) (R : Value → World → Prop) (h : wp_p_blmake_Stream_Odd cfg a0 a1 a2 w R) : Ret cfg.P cfg.f_p_blmake_Stream_Odd #[a0, a1, a2] w R :=
  ret_of_fn cfg_mixed Try.f26 (.s (.r .seq none) (.s (.s (.r .seq none) (.c (.s (.r .seq none) .z) .z)) (.s (.r .seq none) .z))) Try.func26 (by kernel_rfl) (by kernel_rfl) h (by kernel_rfl)

theorem eq_p_blmake_Stream_Pick (a0 a1 w : _) (R : Value → World → Prop) (h : wp_p_blmake_Stream_Pick cfg a0 a1 w R) : Ret cfg.P cfg.f_p_blmake_Stream_Pick #[a0, a1] w R :=
  ret_of_fn cfg_mixed Try.f27 (.s (.r .seq none) (.s (.r .seq none) .z)) Try.func27 (by kernel_rfl) (by kernel_rfl) h (by kernel_rfl)

theorem eq_p_blmake_Stream_Next (a0 a1 w : _) (R : Value → World → Prop) (h : wp_p_blmake_Stream_Next cfg a0 a1 w R) : Ret cfg.P cfg.f_p_blmake_Stream_Next #[a0, a1] w R :=
  ret_of_fn cfg_mixed Try.f28 (.s (.r .seq none) (.s (.r .seq none) (.s (.s (.r .seq none) (.c (.s (.r .seq none) .z) .z)) (.s (.r (.quiet 12) none) (.s (.r (.quiet 12) none) (.s (.r .seq none) .z)))))) Try.func28 (by kernel_rfl) (by kernel_rfl) h (by kernel_rfl)

theorem eq_p_blmake_Stream_Order (a0 a1 w : _) (R : Value → World → Prop) (h : wp_p_blmake_Stream_Order cfg a0 a1 w R) : Ret cfg.P cfg.f_p_blmake_Stream_Order #[a0, a1] w R :=
  ret_of_fn cfg_mixed Try.f29 (.s (.r .seq none) (.s (.r .seq none) (.s (.s (.r .seq none) (.i (.l [5, 10] (.s (.r .seq none) (.s (.c .z .z) (.s (.i (.s (.r .seq none) (.r .seq none))) (.r .seq none))))))) (.s (.s (.r .seq none) (.i (.l [7] (.s (.s (.r .seq none) (.c .z .z)) (.s (.i (.s (.r .seq none) (.r (.quiet 13) none))) (.r .seq none)))))) (.s (.r .seq none) .z))))) Try.func29 (by kernel_rfl) (by kernel_rfl) h (by kernel_rfl)

theorem eq_p_blmake_Stream_AVisit (a0 a1 a2 w : _) (R : Value → World → Prop) (h : wp_p_blmake_Stream_AVisit cfg a0 a1 a2 w R) : Ret cfg.P cfg.f_p_blmake_Stream_AVisit #[a0, a1, a2] w R :=
  ret_of_fn cfg_mixed Try.f30 (.s (.r .seq none) (.s (.r .seq none) (.s (.s (.r .seq (some [17])) (.cj [] (.s (.r .seq none) (.cj [] (.r .seq none) (.r .seq none))) .z)) (.s (.s (.r .seq none) (.cj [] (.r (.held 15) (some [])) .z)) (.s (.r .seq none) .z))))) Try.func30 (by kernel_rfl) (by kernel_rfl) h (by kernel_rfl)

theorem eq_blref1_in (a0 a1 a2 w : _) (R : Value → World → Prop) (h : wp_blref1_in cfg a0 a1 a2 w R) : Ret cfg.P cfg.f_blref1_in #[a0, a1, a2] w R :=
  ret_of_fn cfg_mixed Try.f31 (.s (.r .seq none) (.s (.r .seq (some [6])) .z)) Try.func31 (by kernel_rfl) (by kernel_rfl) h (by kernel_rfl)

theorem eq_blref1_pathFault (a0 w : _) (R : Value → World → Prop) (h : wp_blref1_pathFault cfg a0 w R) : Ret cfg.P cfg.f_blref1_pathFault #[a0] w R :=
  ret_of_fn cfg_mixed Try.f32 (.s (.r .seq none) (.s (.i (.s (.r .seq none) (.c (.s (.r .seq none) .z) (.s (.r .seq none) (.c (.s (.r .seq none) .z) (.s (.r .seq (some [13])) (.c (.s (.r .seq none) .z) .z))))))) (.s (.r .seq none) .z))) Try.func32 (by kernel_rfl) (by kernel_rfl) h (by kernel_rfl)

theorem eq_slices_Contains_sl_int_int (a0 a1 w : _) (R : Value → World → Prop) (h : wp_slices_Contains_sl_int_int cfg a0 a1 w R) : Ret cfg.P cfg.f_slices_Contains_sl_int_int #[a0, a1] w R :=
  ret_of_fn cfg_mixed Try.f33 (.s (.r .seq none) (.s (.r .seq none) .z)) Try.func33 (by kernel_rfl) (by kernel_rfl) h (by kernel_rfl)

theorem eq_blref1_visitFault (a0 a1 a2 w : _) (R : Value → World → Prop) (h : wp_blref1_visitFault cfg a0 a1 a2 w R) : Ret cfg.P cfg.f_blref1_visitFault #[a0, a1, a2] w R :=
  ret_of_fn cfg_mixed Try.f34 (.s (.r .seq none) (.s (.s (.r .seq none) (.c (.s (.r .seq none) .z) .z)) (.s (.r .seq none) (.s (.i (.s (.r .seq none) (.c (.s (.r .seq none) .z) (.s (.r .seq (some [24])) (.c (.s (.r .seq none) .z) .z))))) (.s (.r .seq none) .z))))) Try.func34 (by kernel_rfl) (by kernel_rfl) h (by kernel_rfl)

theorem eq_path_startPathsFault (a0 a1 w : _) (R : Value → World → Prop) (h : wp_path_startPathsFault cfg a0 a1 w R) : Ret cfg.P cfg.f_path_startPathsFault #[a0, a1] w R :=
  ret_of_fn cfg_mixed Try.f35 (.s (.r .seq none) (.s (.s (.r .seq none) (.c (.s (.r .seq none) .z) .z)) (.s (.r .seq none) .z))) Try.func35 (by kernel_rfl) (by kernel_rfl) h (by kernel_rfl)

theorem eq_path_choices (a0 a1 w : _) (R : Value → World → Prop) (h : wp_path_choices cfg a0 a1 w R) : Ret cfg.P cfg.f_path_choices #[a0, a1] w R :=
  ret_of_fn cfg_mixed Try.f36 (.s (.r .seq none) (.s (.r .seq none) (.s (.s (.r .seq none) (.cj [5] (.s (.r .seq none) (.i (.l [5, 23] (.s (.r .seq none) (.s (.c .z .z) (.s (.i (.s (.r .seq none) (.r .seq none))) (.r .seq none))))))) (.r .seq none))) (.s (.r .seq none) (.s (.s (.r .seq none) (.i (.l [7, 40] (.s (.r .seq none) (.s (.c .z .z) (.s (.i (.s (.r .seq none) (.s (.r .seq none) (.r .seq none)))) (.r .seq none))))))) (.s (.r .seq none) .z)))))) Try.func36 (by kernel_rfl) (by kernel_rfl) h (by kernel_rfl)

theorem eq_p_path_finder_next (a0 a1 a2 w : _) (R : Value → World → Prop) (h : wp_p_path_finder_next cfg a0 a1 a2 w R) : Ret cfg.P cfg.f_p_path_finder_next #[a0, a1, a2] w R :=
  ret_of_fn cfg_mixed Try.f37 (.s (.r .seq none) (.s (.r .seq none) (.s (.s (.r .seq none) (.i (.l [6, 7, 16] (.s (.r .seq none) (.s (.c .z .z) (.s (.b [6, 7] (.s (.r .seq none) (.s (.s (.r .seq none) (.c .z .z)) (.s (.r (.held 19) (some [10])) (.s (.r .seq (some [53])) (.cj [6, 7] (.r .seq none) .z)))))) (.r .seq none))))))) (.s (.r .seq none) .z)))) Try.func37 (by kernel_rfl) (by kernel_rfl) h (by kernel_rfl)

theorem eq_path_travel (a0 a1 a2 w : _) (R : Value → World → Prop) (h : wp_path_travel cfg a0 a1 a2 w R) : Ret cfg.P cfg.f_path_travel #[a0, a1, a2] w R :=
  ret_of_fn cfg_mixed Try.f38 (.s (.r .seq none) (.s (.r .seq none) (.s (.s (.r .seq none) (.i (.l [7, 14] (.s (.r .seq none) (.s (.c .z .z) (.s (.i (.s (.r .seq none) (.s (.r .seq none) (.s (.r .seq none) (.r .seq none))))) (.r .seq none))))))) (.s (.r .seq none) .z)))) Try.func38 (by kernel_rfl) (by kernel_rfl) h (by kernel_rfl)

theorem eq_path_Distance (a0 a1 w : _) (R : Value → World → Prop) (h : wp_path_Distance cfg a0 a1 w R) : Ret cfg.P cfg.f_path_Distance #[a0, a1] w R :=
  ret_of_fn cfg_mixed Try.f39 (.s (.r .seq none) (.s (.r (.held 13) none) .z)) Try.func39 (by kernel_rfl) (by kernel_rfl) h (by kernel_rfl)

theorem eq_path_indicesFault (a0 a1 w : _) (R : Value → World → Prop) (h : wp_path_indicesFault cfg a0 a1 w R) : Ret cfg.P cfg.f_path_indicesFault #[a0, a1] w R :=
  ret_of_fn cfg_mixed Try.f40 (.s (.r .seq none) (.s (.s (.r .seq none) (.c (.s (.r .seq none) .z) .z)) (.s (.r .seq none) (.s (.s (.r .seq none) (.i (.l [16] (.s (.r .seq none) (.s (.c .z .z) (.s (.i (.s (.r .seq none) (.s (.s (.r .seq (some [26])) (.c (.s (.r .seq none) .z) .z)) (.s (.s (.r .seq none) (.c (.s (.r .seq none) .z) .z)) (.r .seq none))))) (.r .seq none))))))) (.s (.r .seq none) .z))))) Try.func40 (by kernel_rfl) (by kernel_rfl) h (by kernel_rfl)

theorem eq_path_nearest (a0 a1 a2 w : _) (R : Value → World → Prop) (h : wp_path_nearest cfg a0 a1 a2 w R) : Ret cfg.P cfg.f_path_nearest #[a0, a1, a2] w R :=
  ret_of_fn cfg_mixed Try.f41 (.s (.r .seq none) (.s (.r .seq none) (.s (.s (.r .seq none) (.i (.l [14] (.s (.r .seq none) (.s (.c .z .z) (.s (.b [] (.s (.r .seq none) (.s (.r (.held 9) none) (.s (.r .seq (some [36])) (.cj [] (.r .seq none) .z))))) (.r .seq none))))))) (.s (.r .seq none) .z)))) Try.func41 (by kernel_rfl) (by kernel_rfl) h (by kernel_rfl)

theorem eq_path_startFault (a0 a1 a2 w : _) (R : Value → World → Prop) (h : wp_path_startFault cfg a0 a1 a2 w R) : Ret cfg.P cfg.f_path_startFault #[a0, a1, a2] w R :=
  ret_of_fn cfg_mixed Try.f42 (.s (.r .seq none) (.s (.s (.r .seq none) (.c (.s (.r .seq none) .z) .z)) (.s (.r .seq none) .z))) Try.func42 (by kernel_rfl) (by kernel_rfl) h (by kernel_rfl)

theorem eq_slices_Clone_sl_api_Visit_api_Visit (a0 w : _) (R : Value → World → Prop) (h : wp_slices_Clone_sl_api_Visit_api_Visit cfg a0 w R) : Ret cfg.P cfg.f_slices_Clone_sl_api_Visit_api_Visit #[a0] w R :=
  ret_of_fn cfg_mixed Try.f43 (.s (.r .seq none) (.s (.s (.r .seq none) (.c (.s (.r .seq none) .z) .z)) (.s (.r .seq none) .z))) Try.func43 (by kernel_rfl) (by kernel_rfl) h (by kernel_rfl)

theorem eq_path_exchange (a0 a1 a2 w : _) (R : Value → World → Prop) (h : wp_path_exchange cfg a0 a1 a2 w R) : Ret cfg.P cfg.f_path_exchange #[a0, a1, a2] w R :=
  ret_of_fn cfg_mixed Try.f44 (.s (.r .seq none) (.s (.r .seq none) (.s (.s (.r .seq none) (.i (.l [16] (.s (.r .seq none) (.s (.c .z .z) (.s (.i (.s (.r .seq none) (.s (.r .seq none) (.i (.l [9] (.s (.s (.r .seq none) (.c .z .z)) (.s (.i (.s (.r (.quiet 13) none) (.s (.s (.r .seq none) (.c (.s (.r .seq none) .z) .z)) (.r (.quiet 13) none)))) (.r .seq none)))))))) (.r .seq none))))))) (.s (.r .seq none) .z)))) Try.func44 (by kernel_rfl) (by kernel_rfl) h (by kernel_rfl)

theorem eq_blref1_search (a0 a1 a2 a3 w : _) (R : Value → World → Prop) (h : wp_blref1_search cfg a0 a1 a2 a3 w R) : Ret cfg.P cfg.f_blref1_search #[a0, a1, a2, a3] w R :=
  ret_of_fn cfg_mixed Try.f45 (.s (.r .seq none) (.s (.r .seq none) (.s (.r .seq none) (.s (.r .seq none) (.s (.r .seq none) (.s (.r .seq none) (.s (.r (.quiet 4) none) .z))))))) Try.func45 (by kernel_rfl) (by kernel_rfl) h (by kernel_rfl)

theorem eq_blref1_BestOf_1 (a0 a1 w : _) (R : Value → World → Prop) (h : wp_blref1_BestOf_1 cfg a0 a1 w R) : Ret cfg.P cfg.f_blref1_BestOf_1 #[a0, a1] w R :=
  ret_of_fn cfg_mixed Try.f46 (.s (.r .seq none) (.s (.r .seq none) .z)) Try.func46 (by kernel_rfl) (by kernel_rfl) h (by kernel_rfl)

theorem eq_blref1_left (a0 a1 w : _) (R : Value → World → Prop) (h : wp_blref1_left cfg a0 a1 w R) : Ret cfg.P cfg.f_blref1_left #[a0, a1] w R :=
  ret_of_fn cfg_mixed Try.f47 (.s (.r .seq none) (.s (.r .seq none) (.s (.s (.r .seq none) (.i (.l [5, 9] (.s (.r .seq none) (.s (.c .z .z) (.s (.b [5] (.s (.r .seq none) (.s (.r .seq none) (.cj [5] (.r .seq none) .z)))) (.r .seq none))))))) (.s (.r .seq none) .z)))) Try.func47 (by kernel_rfl) (by kernel_rfl) h (by kernel_rfl)

theorem eq_blref1_ways (a0 a1 w : _) (R : Value → World → Prop) (h : wp_blref1_ways cfg a0 a1 w R) : Ret cfg.P cfg.f_blref1_ways #[a0, a1] w R :=
  ret_of_fn cfg_mixed Try.f48 (.s (.r .seq none) (.s (.r .seq none) (.s (.s (.r .seq none) (.c (.s (.r .seq none) .z) .z)) (.s (.s (.r .seq none) (.i (.l [5, 24] (.s (.r .seq none) (.s (.c .z .z) (.s (.i (.s (.r .seq none) (.r .seq none))) (.r .seq none))))))) (.s (.r .seq none) .z))))) Try.func48 (by kernel_rfl) (by kernel_rfl) h (by kernel_rfl)

theorem eq_blref1_EndsOf (a0 a1 w : _) (R : Value → World → Prop) (h : wp_blref1_EndsOf cfg a0 a1 w R) : Ret cfg.P cfg.f_blref1_EndsOf #[a0, a1] w R :=
  ret_of_fn cfg_mixed Try.f49 (.s (.r .seq none) (.s (.r .seq none) (.s (.r (.held 10) none) .z))) Try.func49 (by kernel_rfl) (by kernel_rfl) h (by kernel_rfl)

theorem eq_blref1_Apart (a0 a1 w : _) (R : Value → World → Prop) (h : wp_blref1_Apart cfg a0 a1 w R) : Ret cfg.P cfg.f_blref1_Apart #[a0, a1] w R :=
  ret_of_fn cfg_mixed Try.f50 (.s (.r .seq none) (.s (.r .seq none) .z)) Try.func50 (by kernel_rfl) (by kernel_rfl) h (by kernel_rfl)

theorem eq_blref1_TravelOf (a0 a1 a2 w : _) (R : Value → World → Prop) (h : wp_blref1_TravelOf cfg a0 a1 a2 w R) : Ret cfg.P cfg.f_blref1_TravelOf #[a0, a1, a2] w R :=
  ret_of_fn cfg_mixed Try.f51 (.s (.r .seq none) (.s (.r .seq none) (.s (.s (.r .seq none) (.i (.l [7, 14] (.s (.r .seq none) (.s (.c .z .z) (.s (.i (.s (.r .seq none) (.s (.r .seq none) (.s (.r .seq none) (.r .seq none))))) (.r .seq none))))))) (.s (.r .seq none) .z)))) Try.func51 (by kernel_rfl) (by kernel_rfl) h (by kernel_rfl)

theorem eq_blref1_BegunOf_1 (a0 a1 w : _) (R : Value → World → Prop) (h : wp_blref1_BegunOf_1 cfg a0 a1 w R) : Ret cfg.P cfg.f_blref1_BegunOf_1 #[a0, a1] w R :=
  ret_of_fn cfg_mixed Try.f52 (.s (.r .seq none) (.s (.r .seq none) .z)) Try.func52 (by kernel_rfl) (by kernel_rfl) h (by kernel_rfl)

theorem eq_blref1_ImprovedOf_1 (a0 a1 a2 w : _) (R : Value → World → Prop) (h : wp_blref1_ImprovedOf_1 cfg a0 a1 a2 w R) : Ret cfg.P cfg.f_blref1_ImprovedOf_1 #[a0, a1, a2] w R :=
  ret_of_fn cfg_mixed Try.f53 (.s (.r .seq none) (.s (.s (.r .seq none) (.i (.l [9] (.s (.r .seq none) (.s (.c .z .z) (.s (.i (.s (.r .seq none) (.s (.r .seq none) (.i (.l [5] (.s (.s (.r .seq none) (.c .z .z)) (.s (.i (.s (.r .seq none) (.s (.r (.quiet 13) none) (.s (.r (.held 9) none) (.c (.s (.r .seq none) (.s (.r .seq none) .z)) .z))))) (.r .seq none)))))))) (.r .seq none))))))) (.s (.r .seq none) .z))) Try.func53 (by kernel_rfl) (by kernel_rfl) h (by kernel_rfl)

theorem eq_math_bits_Mul (a0 a1 w : _) (R : Value → World → Prop) (h : wp_math_bits_Mul cfg a0 a1 w R) : Ret cfg.P cfg.f_math_bits_Mul #[a0, a1] w R :=
  ret_of_fn cfg_mixed Try.f54 (.s (.r .seq none) (.s (.c (.s (.r .seq none) (.s (.r .seq none) .z)) .z) (.s (.r .seq none) (.s (.r .seq none) .z)))) Try.func54 (by kernel_rfl) (by kernel_rfl) h (by kernel_rfl)

theorem eq_path_Long (a0 w : _) (R : Value → World → Prop) (h : wp_path_Long cfg a0 w R) : Ret cfg.P cfg.f_path_Long #[a0] w R :=
  ret_of_fn cfg_mixed Try.f55 (.s (.r .seq none) (.s (.s (.r .seq none) (.s (.r .seq none) (.c (.s (.r .seq none) .z) .z))) (.s (.r .seq none) (.s (.r .seq none) (.s (.s (.r .seq none) (.i (.l [6, 7, 20] (.s (.r .seq none) (.s (.c .z .z) (.s (.i (.s (.r .seq none) (.s (.r .seq none) (.s (.s (.r .seq none) (.i (.l [10, 27] (.s (.r .seq none) (.s (.c .z .z) (.s (.b [10] (.s (.r .seq none) (.s (.r .seq none) (.cj [10] (.r (.held 10) none) (.s (.r .seq none) (.cj [10] (.r (.held 12) none) .z)))))) (.r .seq none))))))) (.s (.r .seq none) (.r .seq none)))))) (.r .seq none))))))) (.s (.r .seq none) .z)))))) Try.func55 (by kernel_rfl) (by kernel_rfl) h (by kernel_rfl)

theorem eq_slices_Equal_sl_int_int (a0 a1 w : _) (R : Value → World → Prop) (h : wp_slices_Equal_sl_int_int cfg a0 a1 w R) : Ret cfg.P cfg.f_slices_Equal_sl_int_int #[a0, a1] w R :=
  ret_of_fn cfg_mixed Try.f56 (.s (.r .seq none) (.s (.s (.r .seq none) (.c (.s (.r .seq none) .z) .z)) (.s (.s (.r .seq none) (.i (.l [13] (.s (.r .seq none) (.s (.c .z .z) (.s (.i (.s (.r .seq none) (.s (.r (.quiet 9) none) (.c (.s (.r .seq none) .z) .z)))) (.r .seq none))))))) (.s (.r .seq none) .z)))) Try.func56 (by kernel_rfl) (by kernel_rfl) h (by kernel_rfl)

theorem eq_blmake_Below (a0 a1 w : _) (R : Value → World → Prop) (h : wp_blmake_Below cfg a0 a1 w R) : Ret cfg.P cfg.f_blmake_Below #[a0, a1] w R :=
  ret_of_fn cfg_mixed Try.f57 (.s (.r .seq none) (.s (.s (.r .seq none) (.c (.s (.r .seq none) .z) .z)) (.s (.r .seq none) (.s (.s (.r .seq none) (.cj [0] (.r .seq none) .z)) (.s (.r .seq none) .z))))) Try.func57 (by kernel_rfl) (by kernel_rfl) h (by kernel_rfl)

theorem eq_slices_Index_sl_int_int (a0 a1 w : _) (R : Value → World → Prop) (h : wp_slices_Index_sl_int_int cfg a0 a1 w R) : Ret cfg.P cfg.f_slices_Index_sl_int_int #[a0, a1] w R :=
  ret_of_fn cfg_mixed Try.f58 (.s (.r .seq none) (.s (.s (.r .seq none) (.i (.l [8] (.s (.r .seq none) (.s (.c .z .z) (.s (.i (.s (.r .seq none) (.s (.r .seq none) (.c (.s (.r .seq none) .z) .z)))) (.r .seq none))))))) (.s (.r .seq none) .z))) Try.func58 (by kernel_rfl) (by kernel_rfl) h (by kernel_rfl)

theorem eq_slices_ContainsFunc_sl_api_Visit_api_Visit (a0 a1 w : _) (R : Value → World → Prop) (h : wp_slices_ContainsFunc_sl_api_Visit_api_Visit cfg a0 a1 w R) : Ret cfg.P cfg.f_slices_ContainsFunc_sl_api_Visit_api_Visit #[a0, a1] w R :=
  ret_of_fn cfg_mixed Try.f59 (.s (.r .seq none) (.s (.r .seq none) .z)) Try.func59 (by kernel_rfl) (by kernel_rfl) h (by kernel_rfl)

theorem eq_blref1_visitFault_1 (a0 a1 w : _) (R : Value → World → Prop) (h : wp_blref1_visitFault_1 cfg a0 a1 w R) : Ret cfg.P cfg.f_blref1_visitFault_1 #[a0, a1] w R :=
  ret_of_fn cfg_mixed Try.f60 (.s (.r .seq none) (.s (.r .seq none) .z)) Try.func60 (by kernel_rfl) (by kernel_rfl) h (by kernel_rfl)

theorem eq_blref1_SpanFault (a0 a1 a2 w : _) (R : Value → World → Prop) (h : wp_blref1_SpanFault cfg a0 a1 a2 w R) : Ret cfg.P cfg.f_blref1_SpanFault #[a0, a1, a2] w R :=
  ret_of_fn cfg_mixed Try.f61 (.s (.r .seq none) (.s (.s (.r .seq none) (.c (.s (.r .seq none) .z) .z)) (.s (.r .seq none) .z))) Try.func61 (by kernel_rfl) (by kernel_rfl) h (by kernel_rfl)

theorem eq_region_IsFar (a0 w : _) (R : Value → World → Prop) (h : wp_region_IsFar cfg a0 w R) : Ret cfg.P cfg.f_region_IsFar #[a0] w R :=
  ret_of_fn cfg_mixed Try.f62 (.s (.r .seq none) (.s (.r .seq (some [2])) .z)) Try.func62 (by kernel_rfl) (by kernel_rfl) h (by kernel_rfl)

theorem eq_path_CheckPaths (a0 w : _) (R : Value → World → Prop) (h : wp_path_CheckPaths cfg a0 w R) : Ret cfg.P cfg.f_path_CheckPaths #[a0] w R :=
  ret_of_fn cfg_mixed Try.f63 (.s (.r .seq none) (.s (.s (.r .seq none) (.c (.s (.r .seq none) .z) .z)) (.s (.s (.r .seq none) (.i (.l [11] (.s (.r .seq none) (.s (.c .z .z) (.s (.i (.s (.r .seq none) (.s (.r .seq none) (.s (.r .seq none) (.c (.s (.r .seq none) .z) .z))))) (.r .seq none))))))) (.s (.r .seq none) .z)))) Try.func63 (by kernel_rfl) (by kernel_rfl) h (by kernel_rfl)

theorem eq_path_ends (a0 a1 w : _) (R : Value → World → Prop) (h : wp_path_ends cfg a0 a1 w R) : Ret cfg.P cfg.f_path_ends #[a0, a1] w R :=
  ret_of_fn cfg_mixed Try.f64 (.s (.r .seq none) (.s (.r .seq none) (.s (.i (.s (.r .seq none) (.c (.s (.r (.held 11) none) .z) (.s (.r .seq none) (.c (.s (.r (.held 10) none) .z) .z))))) (.s (.r (.held 10) none) .z)))) Try.func64 (by kernel_rfl) (by kernel_rfl) h (by kernel_rfl)

theorem eq_path_abs (a0 w : _) (R : Value → World → Prop) (h : wp_path_abs cfg a0 w R) : Ret cfg.P cfg.f_path_abs #[a0] w R :=
  ret_of_fn cfg_mixed Try.f65 (.s (.r .seq none) (.s (.r .seq none) .z)) Try.func65 (by kernel_rfl) (by kernel_rfl) h (by kernel_rfl)

theorem eq_path_CheckOrder (a0 a1 w : _) (R : Value → World → Prop) (h : wp_path_CheckOrder cfg a0 a1 w R) : Ret cfg.P cfg.f_path_CheckOrder #[a0, a1] w R :=
  ret_of_fn cfg_mixed Try.f66 (.s (.r .seq none) (.s (.s (.r .seq none) (.s (.r .seq none) (.c (.s (.r .seq none) .z) .z))) (.s (.r .seq none) .z))) Try.func66 (by kernel_rfl) (by kernel_rfl) h (by kernel_rfl)

theorem eq_blref1_search_1 (a0 a1 a2 a3 a4 a5 a6 a7 a8 w : _) (R : Value → World → Prop) (h : wp_blref1_search_1 cfg a0 a1 a2 a3 a4 a5 a6 a7 a8 w R) : Ret cfg.P cfg.f_blref1_search_1 #[a0, a1, a2, a3, a4, a5, a6, a7, a8] w R :=
  ret_of_fn cfg_mixed Try.f67 (.s (.r .seq none) (.s (.s (.r .seq (some [24])) (.c .z .z)) (.s (.s (.r .seq none) (.c (.s (.r .seq none) .z) .z)) (.s (.r .seq none) (.i (.l [35] (.s (.r .seq none) (.s (.c .z .z) (.s (.i (.s (.r .seq none) (.s (.r .seq none) (.i (.l [43] (.s (.r .seq none) (.s (.c .z .z) (.s (.i (.s (.r .seq none) (.s (.r .seq none) (.r (.held 13) (some []))))) (.r .seq none))))))))) (.r .seq none)))))))))) Try.func67 (by kernel_rfl) (by kernel_rfl) h (by kernel_rfl)

theorem eq_blref1_left_1 (a0 a1 w : _) (R : Value → World → Prop) (h : wp_blref1_left_1 cfg a0 a1 w R) : Ret cfg.P cfg.f_blref1_left_1 #[a0, a1] w R :=
  ret_of_fn cfg_mixed Try.f68 (.s (.r .seq none) (.s (.r .seq none) .z)) Try.func68 (by kernel_rfl) (by kernel_rfl) h (by kernel_rfl)

theorem eq_blref1_printed (a0 a1 w : _) (R : Value → World → Prop) (h : wp_blref1_printed cfg a0 a1 w R) : Ret cfg.P cfg.f_blref1_printed #[a0, a1] w R :=
  ret_of_fn cfg_mixed Try.f69 (.s (.r .seq none) (.s (.r .seq none) (.s (.r (.held 12) none) (.s (.b [6] (.s (.r .seq none) (.cj [6] (.r .seq none) (.s (.r .seq none) (.cj [] (.r .seq none) .z))))) (.s (.r .seq none) .z))))) Try.func69 (by kernel_rfl) (by kernel_rfl) h (by kernel_rfl)

theorem eq_math_bits_Mul32 (a0 a1 w : _) (R : Value → World → Prop) (h : wp_math_bits_Mul32 cfg a0 a1 w R) : Ret cfg.P cfg.f_math_bits_Mul32 #[a0, a1] w R :=
  ret_of_fn cfg_mixed Try.f70 (.s (.r .seq none) (.s (.r .seq none) (.s (.r .seq none) .z))) Try.func70 (by kernel_rfl) (by kernel_rfl) h (by kernel_rfl)

theorem eq_math_bits_Mul64 (a0 a1 w : _) (R : Value → World → Prop) (h : wp_math_bits_Mul64 cfg a0 a1 w R) : Ret cfg.P cfg.f_math_bits_Mul64 #[a0, a1] w R :=
  ret_of_fn cfg_mixed Try.f71 (.s (.r .seq none) (.s (.r .seq none) (.s (.r .seq none) (.s (.r .seq none) (.s (.r .seq none) (.s (.r .seq none) (.s (.r .seq none) (.s (.r .seq none) (.s (.r .seq none) (.s (.r .seq none) (.s (.r .seq none) (.s (.r .seq none) .z)))))))))))) Try.func71 (by kernel_rfl) (by kernel_rfl) h (by kernel_rfl)

theorem eq_slices_IndexFunc_sl_api_Visit_api_Visit (a0 a1 w : _) (R : Value → World → Prop) (h : wp_slices_IndexFunc_sl_api_Visit_api_Visit cfg a0 a1 w R) : Ret cfg.P cfg.f_slices_IndexFunc_sl_api_Visit_api_Visit #[a0, a1] w R :=
  ret_of_fn cfg_mixed Try.f72 (.s (.r .seq none) (.s (.s (.r .seq none) (.i (.l [8] (.s (.r .seq none) (.s (.c .z .z) (.s (.i (.s (.r .seq none) (.s (.r .seq none) (.c (.s (.r .seq none) .z) .z)))) (.r .seq none))))))) (.s (.r .seq none) .z))) Try.func72 (by kernel_rfl) (by kernel_rfl) h (by kernel_rfl)

theorem eq_kit_Outside (a0 a1 a2 w : _) (R : Value → World → Prop) (h : wp_kit_Outside cfg a0 a1 a2 w R) : Ret cfg.P cfg.f_kit_Outside #[a0, a1, a2] w R :=
  ret_of_fn cfg_mixed Try.f73 (.s (.r .seq none) (.s (.r .seq (some [6])) .z)) Try.func73 (by kernel_rfl) (by kernel_rfl) h (by kernel_rfl)

theorem eq_path_PathFault (a0 w : _) (R : Value → World → Prop) (h : wp_path_PathFault cfg a0 w R) : Ret cfg.P cfg.f_path_PathFault #[a0] w R :=
  ret_of_fn cfg_mixed Try.f74 (.s (.r .seq none) (.s (.i (.s (.r .seq none) (.c (.s (.r .seq none) .z) (.s (.r .seq none) (.c (.s (.r .seq none) .z) (.s (.r .seq (some [13])) (.c (.s (.r .seq none) .z) (.s (.r .seq none) (.c (.s (.r .seq none) .z) .z))))))))) (.s (.r .seq none) .z))) Try.func74 (by kernel_rfl) (by kernel_rfl) h (by kernel_rfl)

theorem eq_path_orderFault (a0 a1 w : _) (R : Value → World → Prop) (h : wp_path_orderFault cfg a0 a1 w R) : Ret cfg.P cfg.f_path_orderFault #[a0, a1] w R :=
  ret_of_fn cfg_mixed Try.f75 (.s (.r .seq none) (.s (.s (.r .seq none) (.c (.s (.r .seq none) .z) .z)) (.s (.r .seq none) (.s (.s (.r .seq none) (.i (.l [19] (.s (.r .seq none) (.s (.c .z .z) (.s (.i (.s (.r .seq none) (.s (.s (.r .seq (some [32])) (.c (.s (.r .seq none) .z) .z)) (.s (.s (.r .seq none) (.c (.s (.r .seq none) .z) .z)) (.s (.r .seq none) (.s (.r .seq none) (.s (.r .seq none) (.c (.s (.r .seq none) .z) .z)))))))) (.r .seq none))))))) (.s (.r .seq none) .z))))) Try.func75 (by kernel_rfl) (by kernel_rfl) h (by kernel_rfl)

theorem eq_slices_Clone_sl_api_Point_api_Point (a0 w : _) (R : Value → World → Prop) (h : wp_slices_Clone_sl_api_Point_api_Point cfg a0 w R) : Ret cfg.P cfg.f_slices_Clone_sl_api_Point_api_Point #[a0] w R :=
  ret_of_fn cfg_mixed Try.f76 (.s (.r .seq none) (.s (.s (.r .seq none) (.c (.s (.r .seq none) .z) .z)) (.s (.r .seq none) .z))) Try.func76 (by kernel_rfl) (by kernel_rfl) h (by kernel_rfl)

theorem eq_slices_Reverse_sl_api_Point_api_Point (a0 w : _) (R : Value → World → Prop) (h : wp_slices_Reverse_sl_api_Point_api_Point cfg a0 w R) : Ret cfg.P cfg.f_slices_Reverse_sl_api_Point_api_Point #[a0] w R :=
  ret_of_fn cfg_mixed Try.f77 (.s (.r .seq none) (.i (.l [2, 3] (.s (.s (.r .seq none) (.c .z .z)) (.s (.i (.r (.quiet 13) none)) (.r .seq none)))))) Try.func77 (by kernel_rfl) (by kernel_rfl) h (by kernel_rfl)

theorem eq_slices_ContainsFunc_sl_api_Point_api_Point (a0 a1 w : _) (R : Value → World → Prop) (h : wp_slices_ContainsFunc_sl_api_Point_api_Point cfg a0 a1 w R) : Ret cfg.P cfg.f_slices_ContainsFunc_sl_api_Point_api_Point #[a0, a1] w R :=
  ret_of_fn cfg_mixed Try.f78 (.s (.r .seq none) (.s (.r .seq none) .z)) Try.func78 (by kernel_rfl) (by kernel_rfl) h (by kernel_rfl)

theorem eq_path_visitFault (a0 a1 w : _) (R : Value → World → Prop) (h : wp_path_visitFault cfg a0 a1 w R) : Ret cfg.P cfg.f_path_visitFault #[a0, a1] w R :=
  ret_of_fn cfg_mixed Try.f79 (.s (.r .seq none) (.s (.r .seq none) (.s (.s (.r .seq (some [26])) (.c (.s (.r .seq none) .z) .z)) (.s (.s (.r .seq (some [37])) (.c (.s (.r .seq none) .z) .z)) (.s (.r .seq none) .z))))) Try.func79 (by kernel_rfl) (by kernel_rfl) h (by kernel_rfl)

theorem eq_slices_IndexFunc_sl_api_Point_api_Point (a0 a1 w : _) (R : Value → World → Prop) (h : wp_slices_IndexFunc_sl_api_Point_api_Point cfg a0 a1 w R) : Ret cfg.P cfg.f_slices_IndexFunc_sl_api_Point_api_Point #[a0, a1] w R :=
  ret_of_fn cfg_mixed Try.f80 (.s (.r .seq none) (.s (.s (.r .seq none) (.i (.l [8] (.s (.r .seq none) (.s (.c .z .z) (.s (.i (.s (.r .seq none) (.s (.r .seq none) (.c (.s (.r .seq none) .z) .z)))) (.r .seq none))))))) (.s (.r .seq none) .z))) Try.func80 (by kernel_rfl) (by kernel_rfl) h (by kernel_rfl)

theorem eqs : Eqs cfg := {
  dummy := trivial
  bllaw1_OrdersChosen := fun a0 w R h => eq_bllaw1_OrdersChosen a0 w R h
  p_blmake_Stream_APoint := fun a0 w R h => eq_p_blmake_Stream_APoint a0 w R h
  p_blmake_Stream_PathList := fun a0 a1 w R h => eq_p_blmake_Stream_PathList a0 a1 w R h
  p_blmake_Stream_AnOrder := fun a0 a1 w R h => eq_p_blmake_Stream_AnOrder a0 a1 w R h
  p_blmake_Stream_Indices := fun a0 a1 w R h => eq_p_blmake_Stream_Indices a0 a1 w R h
  cmp_Or_api_Errno := fun a0 w R h => eq_cmp_Or_api_Errno a0 w R h
  blref1_PointFault := fun a0 w R h => eq_blref1_PointFault a0 w R h
  blref1_PathsFault := fun a0 w R h => eq_blref1_PathsFault a0 w R h
  blref1_IndicesFault := fun a0 a1 w R h => eq_blref1_IndicesFault a0 a1 w R h
  blref1_OrderFault := fun a0 a1 w R h => eq_blref1_OrderFault a0 a1 w R h
  path_Best := fun a0 a1 w R h => eq_path_Best a0 a1 w R h
  path_Nearest := fun a0 a1 w R h => eq_path_Nearest a0 a1 w R h
  path_Begun := fun a0 a1 a2 w R h => eq_path_Begun a0 a1 a2 w R h
  path_Improved := fun a0 a1 a2 w R h => eq_path_Improved a0 a1 a2 w R h
  blref1_BestOf := fun a0 a1 w R h => eq_blref1_BestOf a0 a1 w R h
  blref1_NearestOf := fun a0 a1 w R h => eq_blref1_NearestOf a0 a1 w R h
  blref1_BegunOf := fun a0 a1 a2 w R h => eq_blref1_BegunOf a0 a1 a2 w R h
  blref1_ImprovedOf := fun a0 a1 a2 w R h => eq_blref1_ImprovedOf a0 a1 a2 w R h
  slices_Equal_sl_api_Visit_api_Visit := fun a0 a1 w R h => eq_slices_Equal_sl_api_Visit_api_Visit a0 a1 w R h
  p_blmake_Stream_Flip := fun a0 a1 w R h => eq_p_blmake_Stream_Flip a0 a1 w R h
  slices_Repeat_sl_api_Path_api_Path := fun a0 a1 w R h => eq_slices_Repeat_sl_api_Path_api_Path a0 a1 w R h
  bllaw1_pathed := fun _ w R h => eq_bllaw1_pathed  w R h
  p_blmake_Stream_Range := fun a0 a1 a2 w R h => eq_p_blmake_Stream_Range a0 a1 a2 w R h
  p_blmake_Stream_Odd := fun a0 a1 a2 w R h => eq_p_blmake_Stream_Odd a0 a1 a2 w R h
  p_blmake_Stream_Pick := fun a0 a1 w R h => eq_p_blmake_Stream_Pick a0 a1 w R h
  p_blmake_Stream_Next := fun a0 a1 w R h => eq_p_blmake_Stream_Next a0 a1 w R h
  p_blmake_Stream_Order := fun a0 a1 w R h => eq_p_blmake_Stream_Order a0 a1 w R h
  p_blmake_Stream_AVisit := fun a0 a1 a2 w R h => eq_p_blmake_Stream_AVisit a0 a1 a2 w R h
  blref1_in := fun a0 a1 a2 w R h => eq_blref1_in a0 a1 a2 w R h
  blref1_pathFault := fun a0 w R h => eq_blref1_pathFault a0 w R h
  slices_Contains_sl_int_int := fun a0 a1 w R h => eq_slices_Contains_sl_int_int a0 a1 w R h
  blref1_visitFault := fun a0 a1 a2 w R h => eq_blref1_visitFault a0 a1 a2 w R h
  path_startPathsFault := fun a0 a1 w R h => eq_path_startPathsFault a0 a1 w R h
  path_choices := fun a0 a1 w R h => eq_path_choices a0 a1 w R h
  p_path_finder_next := fun a0 a1 a2 w R h => eq_p_path_finder_next a0 a1 a2 w R h
  path_travel := fun a0 a1 a2 w R h => eq_path_travel a0 a1 a2 w R h
  path_Distance := fun a0 a1 w R h => eq_path_Distance a0 a1 w R h
  path_indicesFault := fun a0 a1 w R h => eq_path_indicesFault a0 a1 w R h
  path_nearest := fun a0 a1 a2 w R h => eq_path_nearest a0 a1 a2 w R h
  path_startFault := fun a0 a1 a2 w R h => eq_path_startFault a0 a1 a2 w R h
  slices_Clone_sl_api_Visit_api_Visit := fun a0 w R h => eq_slices_Clone_sl_api_Visit_api_Visit a0 w R h
  path_exchange := fun a0 a1 a2 w R h => eq_path_exchange a0 a1 a2 w R h
  blref1_search := fun a0 a1 a2 a3 w R h => eq_blref1_search a0 a1 a2 a3 w R h
  blref1_BestOf_1 := fun a0 a1 w R h => eq_blref1_BestOf_1 a0 a1 w R h
  blref1_left := fun a0 a1 w R h => eq_blref1_left a0 a1 w R h
  blref1_ways := fun a0 a1 w R h => eq_blref1_ways a0 a1 w R h
  blref1_EndsOf := fun a0 a1 w R h => eq_blref1_EndsOf a0 a1 w R h
  blref1_Apart := fun a0 a1 w R h => eq_blref1_Apart a0 a1 w R h
  blref1_TravelOf := fun a0 a1 a2 w R h => eq_blref1_TravelOf a0 a1 a2 w R h
  blref1_BegunOf_1 := fun a0 a1 w R h => eq_blref1_BegunOf_1 a0 a1 w R h
  blref1_ImprovedOf_1 := fun a0 a1 a2 w R h => eq_blref1_ImprovedOf_1 a0 a1 a2 w R h
  math_bits_Mul := fun a0 a1 w R h => eq_math_bits_Mul a0 a1 w R h
  path_Long := fun a0 w R h => eq_path_Long a0 w R h
  slices_Equal_sl_int_int := fun a0 a1 w R h => eq_slices_Equal_sl_int_int a0 a1 w R h
  blmake_Below := fun a0 a1 w R h => eq_blmake_Below a0 a1 w R h
  slices_Index_sl_int_int := fun a0 a1 w R h => eq_slices_Index_sl_int_int a0 a1 w R h
  slices_ContainsFunc_sl_api_Visit_api_Visit := fun a0 a1 w R h => eq_slices_ContainsFunc_sl_api_Visit_api_Visit a0 a1 w R h
  blref1_visitFault_1 := fun a0 a1 w R h => eq_blref1_visitFault_1 a0 a1 w R h
  blref1_SpanFault := fun a0 a1 a2 w R h => eq_blref1_SpanFault a0 a1 a2 w R h
  region_IsFar := fun a0 w R h => eq_region_IsFar a0 w R h
  path_CheckPaths := fun a0 w R h => eq_path_CheckPaths a0 w R h
  path_ends := fun a0 a1 w R h => eq_path_ends a0 a1 w R h
  path_abs := fun a0 w R h => eq_path_abs a0 w R h
  path_CheckOrder := fun a0 a1 w R h => eq_path_CheckOrder a0 a1 w R h
  blref1_search_1 := fun a0 a1 a2 a3 a4 a5 a6 a7 a8 w R h => eq_blref1_search_1 a0 a1 a2 a3 a4 a5 a6 a7 a8 w R h
  blref1_left_1 := fun a0 a1 w R h => eq_blref1_left_1 a0 a1 w R h
  blref1_printed := fun a0 a1 w R h => eq_blref1_printed a0 a1 w R h
  math_bits_Mul32 := fun a0 a1 w R h => eq_math_bits_Mul32 a0 a1 w R h
  math_bits_Mul64 := fun a0 a1 w R h => eq_math_bits_Mul64 a0 a1 w R h
  slices_IndexFunc_sl_api_Visit_api_Visit := fun a0 a1 w R h => eq_slices_IndexFunc_sl_api_Visit_api_Visit a0 a1 w R h
  kit_Outside := fun a0 a1 a2 w R h => eq_kit_Outside a0 a1 a2 w R h
  path_PathFault := fun a0 w R h => eq_path_PathFault a0 w R h
  path_orderFault := fun a0 a1 w R h => eq_path_orderFault a0 a1 w R h
  slices_Clone_sl_api_Point_api_Point := fun a0 w R h => eq_slices_Clone_sl_api_Point_api_Point a0 w R h
  slices_Reverse_sl_api_Point_api_Point := fun a0 w R h => eq_slices_Reverse_sl_api_Point_api_Point a0 w R h
  slices_ContainsFunc_sl_api_Point_api_Point := fun a0 a1 w R h => eq_slices_ContainsFunc_sl_api_Point_api_Point a0 a1 w R h
  path_visitFault := fun a0 a1 w R h => eq_path_visitFault a0 a1 w R h
  slices_IndexFunc_sl_api_Point_api_Point := fun a0 a1 w R h => eq_slices_IndexFunc_sl_api_Point_api_Point a0 a1 w R h }

end Go.Eng

/-! The type facts of this program. -/
namespace Go.Eng
open Go Go.Proofs
theorem ty_mi : ∃ kt et, cfg.P.underlying cfg.t_map_int_int = some (.map kt et) ∧ KeyT cfg.P kt vi ∧ ∀ w, (zeroValue et).run cfg.P w = .ok (vi 0) w := by
  obtain ⟨et, h1, h2⟩ := map_of (P := cfg.P) (t := cfg.t_map_int_int) (k := cfg.t_int) (z := vi 0) (by kernel_rfl)
  exact ⟨_, et, h1, .int (isIntT_some (P := cfg.P) (by kernel_rfl)).choose_spec, h2⟩
theorem ty_pair : PairT cfg.P cfg.t_api_Point := .of (by kernel_rfl) (by kernel_rfl)
theorem ty_mp : ∃ kt et, cfg.P.underlying cfg.t_map_api_Point_int = some (.map kt et) ∧ KeyT cfg.P kt (fun p : Pt => .agg (eP p).toArray) ∧ ∀ w, (zeroValue et).run cfg.P w = .ok (vi 0) w := by
  obtain ⟨et, h1, h2⟩ := map_of (P := cfg.P) (t := cfg.t_map_api_Point_int) (k := cfg.t_api_Point) (z := vi 0) (by kernel_rfl)
  exact ⟨_, et, h1, .pair ty_pair Pt.x Pt.y (fun a b h1 h2 => by cases a; cases b; simp_all), h2⟩
theorem ty : Ty cfg := {
  sl_int := .of (by kernel_rfl) (by kernel_rfl) rfl (by omega) (by omega)
  sl_pt := .of (by kernel_rfl) (by kernel_rfl) rfl (by omega) (by omega)
  sl_path := .of (by kernel_rfl) (by kernel_rfl) rfl (by omega) (by omega)
  sl_bool := SliceT.ex (by kernel_rfl) rfl (by omega) (by omega)
  st_visit := .of (sz := 3) (by_ := 24) (by kernel_rfl) (by kernel_rfl)
  st_choice := .of (sz := 7) (by_ := 56) (by kernel_rfl) (by kernel_rfl)
  st_way := .of (sz := 2) (by_ := 16) (by kernel_rfl) (by kernel_rfl)
  sl_choice := .of (by kernel_rfl) (by kernel_rfl) rfl (by omega) (by omega)
  ssl_choice := SliceT.ex (by kernel_rfl) rfl (by omega) (by omega)
  ssl_int := SliceT.ex (by kernel_rfl) rfl (by omega) (by omega)
  st_finder := .of (sz := 2) (by_ := 48) (by kernel_rfl) (by kernel_rfl)
  sl_map := .of (by kernel_rfl) (by kernel_rfl) rfl (by omega) (by omega)
  mi := ty_mi
  mp := ty_mp
  eq_visit := .of (by kernel_rfl) (by kernel_rfl) (by kernel_rfl)
  st_point := .of (sz := 2) (by_ := 16) (by kernel_rfl) (by kernel_rfl)
  st_path := .of (sz := 2) (by_ := 32) (by kernel_rfl) (by kernel_rfl)
  st_stream := .of (sz := 2) (by_ := 32) (by kernel_rfl) (by kernel_rfl)
  ssl_pt := SliceT.ex (by kernel_rfl) rfl (by omega) (by omega)
  sl_errno := SliceT.ex (by kernel_rfl) rfl (by omega) (by omega)
  sl_visit := .of (by kernel_rfl) (by kernel_rfl) rfl (by omega) (by omega) }
end Go.Eng

