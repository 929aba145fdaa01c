/- Part of a proof: the law OrdersChosen gives true for every list of integers and leaves its argument as it was; there are no conditions beyond those that the given row states. -/
import Derived.Test.YtnmfdbadmkbknaaEng
set_option linter.unusedVariables false
set_option linter.unusedSimpArgs false
/-! The numbers of functions and types. -/
namespace Go.Eng
open Go
structure Cfg where
  P : Program
  f_bllaw1_OrdersChosen : Nat
  f_bllaw1_pathed : Nat
  f_blmake_Below : Nat
  f_blref1_Apart : Nat
  f_blref1_BegunOf : Nat
  f_blref1_BegunOf_1 : Nat
  f_blref1_BestOf : Nat
  f_blref1_BestOf_1 : Nat
  f_blref1_EndsOf : Nat
  f_blref1_ImprovedOf : Nat
  f_blref1_ImprovedOf_1 : Nat
  f_blref1_IndicesFault : Nat
  f_blref1_NearestOf : Nat
  f_blref1_OrderFault : Nat
  f_blref1_PathsFault : Nat
  f_blref1_PointFault : Nat
  f_blref1_SpanFault : Nat
  f_blref1_TravelOf : Nat
  f_blref1_in : Nat
  f_blref1_left : Nat
  f_blref1_left_1 : Nat
  f_blref1_pathFault : Nat
  f_blref1_printed : Nat
  f_blref1_search : Nat
  f_blref1_search_1 : Nat
  f_blref1_visitFault : Nat
  f_blref1_visitFault_1 : Nat
  f_blref1_ways : Nat
  f_cmp_Or_api_Errno : Nat
  f_kit_Outside : Nat
  f_math_bits_Mul : Nat
  f_math_bits_Mul32 : Nat
  f_math_bits_Mul64 : Nat
  f_p_blmake_Stream_APoint : Nat
  f_p_blmake_Stream_AVisit : Nat
  f_p_blmake_Stream_AnOrder : Nat
  f_p_blmake_Stream_Flip : Nat
  f_p_blmake_Stream_Indices : Nat
  f_p_blmake_Stream_Next : Nat
  f_p_blmake_Stream_Odd : Nat
  f_p_blmake_Stream_Order : Nat
  f_p_blmake_Stream_PathList : Nat
  f_p_blmake_Stream_Pick : Nat
  f_p_blmake_Stream_Range : Nat
  f_p_path_finder_next : Nat
  f_path_Begun : Nat
  f_path_Best : Nat
  f_path_CheckOrder : Nat
  f_path_CheckPaths : Nat
  f_path_Distance : Nat
  f_path_Improved : Nat
  f_path_Long : Nat
  f_path_Nearest : Nat
  f_path_PathFault : Nat
  f_path_abs : Nat
  f_path_choices : Nat
  f_path_ends : Nat
  f_path_exchange : Nat
  f_path_indicesFault : Nat
  f_path_nearest : Nat
  f_path_orderFault : Nat
  f_path_startFault : Nat
  f_path_startPathsFault : Nat
  f_path_travel : Nat
  f_path_visitFault : Nat
  f_region_IsFar : Nat
  f_slices_Clone_sl_api_Point_api_Point : Nat
  f_slices_Clone_sl_api_Visit_api_Visit : Nat
  f_slices_ContainsFunc_sl_api_Point_api_Point : Nat
  f_slices_ContainsFunc_sl_api_Visit_api_Visit : Nat
  f_slices_Contains_sl_int_int : Nat
  f_slices_Equal_sl_api_Visit_api_Visit : Nat
  f_slices_Equal_sl_int_int : Nat
  f_slices_IndexFunc_sl_api_Point_api_Point : Nat
  f_slices_IndexFunc_sl_api_Visit_api_Visit : Nat
  f_slices_Index_sl_int_int : Nat
  f_slices_Repeat_sl_api_Path_api_Path : Nat
  f_slices_Reverse_sl_api_Point_api_Point : Nat
  t_api_Path : Nat
  t_api_Point : Nat
  t_api_Visit : Nat
  t_blmake_Stream : Nat
  t_func_sl_api_Visit_api_Point_int : Nat
  t_func_sl_api_Visit_sl_int : Nat
  t_int : Nat
  t_map_api_Point_int : Nat
  t_map_int_int : Nat
  t_path_choice : Nat
  t_path_finder : Nat
  t_path_way : Nat
  t_sl_api_Errno : Nat
  t_sl_api_Path : Nat
  t_sl_api_Point : Nat
  t_sl_api_Visit : Nat
  t_sl_bool : Nat
  t_sl_int : Nat
  t_sl_map_int_int : Nat
  t_sl_path_choice : Nat
  t_sl_sl_api_Point : Nat
  t_sl_sl_int : Nat
  t_sl_sl_path_choice : Nat
  t_string : Nat
  t_uint64 : Nat

/-- a slot of a list of values -/
def g (vs : List Value) (i : Nat) : Value := vs.getD i undef
/-- bytes -/
def S (l : List Nat) : ByteArray := ⟨(l.map UInt8.ofNat).toArray⟩
end Go.Eng

/-! What each function comes to (printed by gen.py). -/
namespace Go.Eng
open Go

/-- beadlayer/bllaw1.OrdersChosen -/
def wp_bllaw1_OrdersChosen (c : Cfg) (a0 : Value) (w : World) (R : Value → World → Prop) : Prop :=
  pureP c.P (Instr.build c.t_blmake_Stream #[(0, a0)]) fun v36 =>
  newP c.t_blmake_Stream (Value.cells v36) w fun v37 w1 =>
  Ret c.P c.f_p_blmake_Stream_APoint #[v37] w1 fun v39 w2 =>
  Ret c.P c.f_p_blmake_Stream_PathList #[v37, (.int .i64 4)] w2 fun v41 w3 =>
  newP c.t_api_Point #[(.int .i64 0), (.int .i64 0)] w3 fun v4 w4 =>
  stA 2 v4 v39 w4 fun w5 =>
  Ret c.P c.f_p_blmake_Stream_AnOrder #[v37, v41] w5 fun v44 w6 =>
  lenP v41 fun v47 =>
  Ret c.P c.f_p_blmake_Stream_Indices #[v37, v47] w6 fun v48 w7 =>
  ldA 2 v4 w7 fun v49 =>
  semP c.P (Instr.buildSlice c.t_sl_api_Point 1 #[(0, v49)]) w7 fun v50 w8 =>
  Ret c.P c.f_blref1_PointFault #[v50] w8 fun v51 w9 =>
  Ret c.P c.f_blref1_PathsFault #[v41] w9 fun v53 w10 =>
  semP c.P (Instr.buildSlice c.t_sl_api_Errno 2 #[(0, v51), (1, v53)]) w10 fun v54 w11 =>
  Ret c.P c.f_cmp_Or_api_Errno #[v54] w11 fun v55 w12 =>
  joinP (fun k0 =>
    heldP fun S => S w12.drew ∧
    lenP v41 fun v58 =>
    ldAS S 2 v4 fun v63 =>
    (Ret c.P c.f_blref1_IndicesFault #[v58, v48] w12.drew fun v60 w14 => S w14 ∧
      (semP c.P (Instr.buildSlice c.t_sl_api_Errno 2 #[(0, v55), (1, v60)]) w14 fun v61 w15 => S w15 ∧
        (Ret c.P c.f_cmp_Or_api_Errno #[v61] w15 fun v62 w16 => S w16 ∧
          semP c.P (Instr.buildSlice c.t_sl_api_Point 1 #[(0, v63)]) w16 fun v64 w17 => S w17 ∧
          Ret c.P c.f_blref1_PointFault #[v64] w17 fun v65 w18 => S w18 ∧
          Ret c.P c.f_blref1_OrderFault #[v41, v44] w18 fun v68 w19 => S w19 ∧
          semP c.P (Instr.buildSlice c.t_sl_api_Errno 2 #[(0, v65), (1, v68)]) w19 fun v69 w20 => S w20 ∧
          Ret c.P c.f_cmp_Or_api_Errno #[v69] w20 fun v70 w21 => S w21 ∧
          k0 [v62, v70] w21)
        ∧ (semP c.P (Instr.buildSlice c.t_sl_api_Point 1 #[(0, v63)]) w15 fun v64_1 w22 => S w22 ∧
          Ret c.P c.f_cmp_Or_api_Errno #[v61] w22 fun v62_1 w23 => S w23 ∧
          Ret c.P c.f_blref1_PointFault #[v64_1] w23 fun v65_1 w24 => S w24 ∧
          Ret c.P c.f_blref1_OrderFault #[v41, v44] w24 fun v68_1 w25 => S w25 ∧
          semP c.P (Instr.buildSlice c.t_sl_api_Errno 2 #[(0, v65_1), (1, v68_1)]) w25 fun v69_1 w26 => S w26 ∧
          Ret c.P c.f_cmp_Or_api_Errno #[v69_1] w26 fun v70_1 w27 => S w27 ∧
          k0 [v62_1, v70_1] w27))
      ∧ (semP c.P (Instr.buildSlice c.t_sl_api_Point 1 #[(0, v63)]) w14 fun v64_2 w28 => S w28 ∧
        semP c.P (Instr.buildSlice c.t_sl_api_Errno 2 #[(0, v55), (1, v60)]) w28 fun v61_1 w29 => S w29 ∧
        Ret c.P c.f_cmp_Or_api_Errno #[v61_1] w29 fun v62_2 w30 => S w30 ∧
        Ret c.P c.f_blref1_PointFault #[v64_2] w30 fun v65_2 w31 => S w31 ∧
        Ret c.P c.f_blref1_OrderFault #[v41, v44] w31 fun v68_2 w32 => S w32 ∧
        semP c.P (Instr.buildSlice c.t_sl_api_Errno 2 #[(0, v65_2), (1, v68_2)]) w32 fun v69_2 w33 => S w33 ∧
        Ret c.P c.f_cmp_Or_api_Errno #[v69_2] w33 fun v70_2 w34 => S w34 ∧
        k0 [v62_2, v70_2] w34))
    ∧ (semP c.P (Instr.buildSlice c.t_sl_api_Point 1 #[(0, v63)]) w12.drew fun v64_3 w35 => S w35 ∧
      Ret c.P c.f_blref1_IndicesFault #[v58, v48] w35 fun v60_1 w36 => S w36 ∧
      semP c.P (Instr.buildSlice c.t_sl_api_Errno 2 #[(0, v55), (1, v60_1)]) w36 fun v61_2 w37 => S w37 ∧
      Ret c.P c.f_cmp_Or_api_Errno #[v61_2] w37 fun v62_3 w38 => S w38 ∧
      Ret c.P c.f_blref1_PointFault #[v64_3] w38 fun v65_3 w39 => S w39 ∧
      Ret c.P c.f_blref1_OrderFault #[v41, v44] w39 fun v68_3 w40 => S w40 ∧
      semP c.P (Instr.buildSlice c.t_sl_api_Errno 2 #[(0, v65_3), (1, v68_3)]) w40 fun v69_3 w41 => S w41 ∧
      Ret c.P c.f_cmp_Or_api_Errno #[v69_3] w41 fun v70_3 w42 => S w42 ∧
      k0 [v62_3, v70_3] w42)) fun s0 j0 w13 =>
  ldA 2 v4 w13 fun v72 =>
  Ret c.P c.f_path_Best #[v72, v41] w13 fun v74 w43 =>
  exP 0 v74 fun v75 =>
  exP 1 v74 fun v76 =>
  exP 2 v74 fun v77 =>
  ldA 2 v4 w43 fun v79 =>
  Ret c.P c.f_path_Nearest #[v79, v41] w43 fun v81 w44 =>
  exP 0 v81 fun v82 =>
  exP 1 v81 fun v83 =>
  exP 2 v81 fun v84 =>
  ldA 2 v4 w44 fun v86 =>
  Ret c.P c.f_path_Begun #[v86, v41, v48] w44 fun v89 w45 =>
  exP 0 v89 fun v90 =>
  exP 1 v89 fun v91 =>
  exP 2 v89 fun v92 =>
  ldA 2 v4 w45 fun v94 =>
  Ret c.P c.f_path_Improved #[v94, v41, v44] w45 fun v97 w46 =>
  exP 0 v97 fun v98 =>
  exP 1 v97 fun v99 =>
  exP 2 v97 fun v100 =>
  binP .eql v55 (.int .i64 0) fun v102 =>
  joinP (fun k1 => condP v102
    (ldA 2 v4 w46 fun v104 =>
      Ret c.P c.f_blref1_BestOf #[v104, v41] w46 fun v106 w48 =>
      exP 0 v106 fun v107 =>
      exP 1 v106 fun v108 =>
      ldA 2 v4 w48 fun v110 =>
      Ret c.P c.f_blref1_NearestOf #[v110, v41] w48 fun v112 w49 =>
      exP 0 v112 fun v113 =>
      exP 1 v112 fun v114 =>
      k1 [v107, v113, v108, v114] w49)
    (k1 [(.slice none 0 0), (.slice none 0 0), (.int .i64 0), (.int .i64 0)] w46)) fun s1 j1 w47 =>
  binP .eql (g s0 0) (.int .i64 0) fun v116 =>
  joinP (fun k2 => condP v116
    (ldA 2 v4 w47 fun v118 =>
      Ret c.P c.f_blref1_BegunOf #[v118, v41, v48] w47 fun v121 w51 =>
      exP 0 v121 fun v122 =>
      exP 1 v121 fun v123 =>
      k2 [v122, v123] w51)
    (k2 [(.slice none 0 0), (.int .i64 0)] w47)) fun s2 j2 w50 =>
  binP .eql (g s0 1) (.int .i64 0) fun v125 =>
  joinP (fun k3 => condP v125
    (ldA 2 v4 w50 fun v127 =>
      Ret c.P c.f_blref1_ImprovedOf #[v127, v41, v44] w50 fun v130 w53 =>
      exP 0 v130 fun v131 =>
      exP 1 v130 fun v132 =>
      k3 [v131, v132] w53)
    (k3 [(.slice none 0 0), (.int .i64 0)] w50)) fun s3 j3 w52 =>
  joinP (fun k4 =>
    binP .neq v77 v55 fun v135 =>
    guardP v135 false
      (Ret c.P c.f_slices_Equal_sl_api_Visit_api_Visit #[v75, (g s1 0)] w52 fun v139 w55 =>
        notP v139 fun v140 =>
        guardP v140 false
          (binP .neq v76 (g s1 2) fun v145 =>
            guardP v145 false
              (binP .neq v84 v55 fun v150 =>
                guardP v150 false
                  (Ret c.P c.f_slices_Equal_sl_api_Visit_api_Visit #[v82, (g s1 1)] w55 fun v155 w56 =>
                    notP v155 fun v156 =>
                    guardP v156 false
                      (binP .neq v83 (g s1 3) fun v161 =>
                        guardP v161 false
                          (binP .neq v92 (g s0 0) fun v166 =>
                            guardP v166 false
                              (Ret c.P c.f_slices_Equal_sl_api_Visit_api_Visit #[v90, (g s2 0)] w56 fun v171 w57 =>
                                notP v171 fun v172 =>
                                guardP v172 false
                                  (binP .neq v91 (g s2 1) fun v177 =>
                                    guardP v177 false
                                      (binP .neq v100 (g s0 1) fun v182 =>
                                        guardP v182 false
                                          (Ret c.P c.f_slices_Equal_sl_api_Visit_api_Visit #[v98, (g s3 0)] w57 fun v187 w58 =>
                                            notP v187 fun v188 =>
                                            guardP v188 false
                                              (binP .neq v99 (g s3 1) fun v193 =>
                                                k4 [v193] w58)
                                              (k4 [(.bool true)] w58))
                                          (k4 [(.bool true)] w57))
                                      (k4 [(.bool true)] w57))
                                  (k4 [(.bool true)] w57))
                              (k4 [(.bool true)] w56))
                          (k4 [(.bool true)] w56))
                      (k4 [(.bool true)] w56))
                  (k4 [(.bool true)] w55))
              (k4 [(.bool true)] w55))
          (k4 [(.bool true)] w55))
      (k4 [(.bool true)] w52)) fun s4 j4 w54 =>
  condP (g s4 0)
    (R (.bool false) w54)
    (Ret c.P c.f_p_blmake_Stream_Flip #[v37, (.int .i64 10)] w54 fun v196 w59 =>
      joinP (fun k5 => condP v196
        (pureP c.P (Instr.build c.t_api_Point #[(0, (.int .i64 1))]) fun v197 =>
          semP c.P (Instr.buildSlice c.t_sl_api_Point 1 #[(0, v197)]) w59 fun v198 w61 =>
          pureP c.P (Instr.build c.t_api_Path #[(0, v198)]) fun v199 =>
          semP c.P (Instr.buildSlice c.t_sl_api_Path 1 #[(0, v199)]) w61 fun v200 w62 =>
          Ret c.P c.f_slices_Repeat_sl_api_Path_api_Path #[v200, (.int .i64 7)] w62 fun v201 w63 =>
          pureP c.P (Instr.build c.t_api_Point #[]) fun v203 =>
          Ret c.P c.f_path_Best #[v203, v201] w63 fun v205 w64 =>
          exP 0 v205 fun v206 =>
          exP 1 v205 fun v207 =>
          exP 2 v205 fun v208 =>
          binP .neq v208 (.int .i64 2) fun v210 =>
          condP v210
            (R (.bool false) w64)
            (k5 [] w64))
        (k5 [] w59)) fun s5 j5 w60 =>
      Ret c.P c.f_bllaw1_pathed #[] w60 fun v211 w65 =>
      R v211 w65)

/-- (*beadlayer/blmake.Stream).APoint -/
def wp_p_blmake_Stream_APoint (c : Cfg) (a0 : Value) (w : World) (R : Value → World → Prop) : Prop :=
  newP c.t_api_Point #[(.int .i64 0), (.int .i64 0)] w fun v2 w1 =>
  Ret c.P c.f_p_blmake_Stream_Range #[a0, (.int .i64 (-3)), (.int .i64 14)] w1 fun v5 w2 =>
  Ret c.P c.f_p_blmake_Stream_Range #[a0, (.int .i64 (-3)), (.int .i64 14)] w2 fun v7 w3 =>
  pureP c.P (Instr.build c.t_api_Point #[(0, v5), (1, v7)]) fun v8 =>
  newP c.t_api_Point #[(.int .i64 0), (.int .i64 0)] w3 fun v3 w4 =>
  stA 2 v3 v8 w4 fun w5 =>
  Ret c.P c.f_p_blmake_Stream_Flip #[a0, (.int .i64 40)] w5 fun v10 w6 =>
  joinP (fun k0 => condP v10
    (Ret c.P c.f_p_blmake_Stream_Odd #[a0, (.int .i64 (-100000)), (.int .i64 100000)] w6 fun v12 w8 =>
      offP 0 v3 fun v13 =>
      st v13 v12 w8 fun w9 =>
      k0 [] w9)
    (k0 [] w6)) fun s0 j0 w7 =>
  ldA 2 v3 w7 fun v14 =>
  stA 2 v2 v14 w7 fun w10 =>
  ldA 2 v2 w10 fun v2_1 =>
  R v2_1 w10

/-- (*beadlayer/blmake.Stream).PathList -/
def wp_p_blmake_Stream_PathList (c : Cfg) (a0 a1 : Value) (w : World) (R : Value → World → Prop) : Prop :=
  Ret c.P c.f_p_blmake_Stream_Range #[a0, (.int .i64 0), a1] w fun v10 w1 =>
  loopP (fun nx0 s0 j0 w2 =>
    binP .lss (g s0 1) v10 fun v12 =>
    condP v12
      (newP c.t_api_Path #[(.slice none 0 0), (.bool false)] w2 fun v6 w3 =>
        Ret c.P c.f_p_blmake_Stream_Range #[a0, (.int .i64 1), (.int .i64 4)] w3 fun v14 w4 =>
        loopP (fun nx1 s1 j1 w5 =>
          binP .lss (g s1 0) v14 fun v16 =>
          condP v16
            (joinP (fun k2 =>
                heldP fun S => S w5.drew ∧
                offP 0 v6 fun v17 =>
                ldS S v17 fun v18 =>
                (semP c.P (Instr.buildSlice c.t_sl_int 5 #[(0, (.int .i64 0)), (1, (.int .i64 1)), (2, (.int .i64 2)), (3, (.int .i64 5)), (4, (.int .i64 9))]) w5.drew fun v20 w7 => S w7 ∧
                  (Ret c.P c.f_p_blmake_Stream_Pick #[a0, v20] w7 fun v21 w8 => S w8 ∧
                    semP c.P (Instr.buildSlice c.t_sl_int 4 #[(0, (.int .i64 0)), (1, (.int .i64 0)), (2, (.int .i64 1)), (3, (.int .i64 4))]) w8 fun v23 w9 => S w9 ∧
                    Ret c.P c.f_p_blmake_Stream_Pick #[a0, v23] w9 fun v24 w10 => S w10 ∧
                    pureP c.P (Instr.build c.t_api_Point #[(0, v21), (1, v24)]) fun v25 =>
                    semP c.P (Instr.buildSlice c.t_sl_api_Point 1 #[(0, v25)]) w10 fun v26 w11 => S w11 ∧
                    semP c.P (Builtin.append_ #[c.t_sl_api_Point, c.t_sl_api_Point] c.t_sl_api_Point #[v18, v26]) w11 fun v27 w12 =>
                    offP 0 v6 fun v28 =>
                    st v28 v27 w12 fun w13 =>
                    k2 [] w13)
                  ∧ (semP c.P (Instr.buildSlice c.t_sl_int 4 #[(0, (.int .i64 0)), (1, (.int .i64 0)), (2, (.int .i64 1)), (3, (.int .i64 4))]) w7 fun v23_1 w14 => S w14 ∧
                    Ret c.P c.f_p_blmake_Stream_Pick #[a0, v20] w14 fun v21_1 w15 => S w15 ∧
                    Ret c.P c.f_p_blmake_Stream_Pick #[a0, v23_1] w15 fun v24_1 w16 => S w16 ∧
                    pureP c.P (Instr.build c.t_api_Point #[(0, v21_1), (1, v24_1)]) fun v25_1 =>
                    semP c.P (Instr.buildSlice c.t_sl_api_Point 1 #[(0, v25_1)]) w16 fun v26_1 w17 => S w17 ∧
                    semP c.P (Builtin.append_ #[c.t_sl_api_Point, c.t_sl_api_Point] c.t_sl_api_Point #[v18, v26_1]) w17 fun v27_1 w18 =>
                    offP 0 v6 fun v28_1 =>
                    st v28_1 v27_1 w18 fun w19 =>
                    k2 [] w19))
                ∧ (semP c.P (Instr.buildSlice c.t_sl_int 4 #[(0, (.int .i64 0)), (1, (.int .i64 0)), (2, (.int .i64 1)), (3, (.int .i64 4))]) w5.drew fun v23_2 w20 => S w20 ∧
                  semP c.P (Instr.buildSlice c.t_sl_int 5 #[(0, (.int .i64 0)), (1, (.int .i64 1)), (2, (.int .i64 2)), (3, (.int .i64 5)), (4, (.int .i64 9))]) w20 fun v20_1 w21 => S w21 ∧
                  Ret c.P c.f_p_blmake_Stream_Pick #[a0, v20_1] w21 fun v21_2 w22 => S w22 ∧
                  Ret c.P c.f_p_blmake_Stream_Pick #[a0, v23_2] w22 fun v24_2 w23 => S w23 ∧
                  pureP c.P (Instr.build c.t_api_Point #[(0, v21_2), (1, v24_2)]) fun v25_2 =>
                  semP c.P (Instr.buildSlice c.t_sl_api_Point 1 #[(0, v25_2)]) w23 fun v26_2 w24 => S w24 ∧
                  semP c.P (Builtin.append_ #[c.t_sl_api_Point, c.t_sl_api_Point] c.t_sl_api_Point #[v18, v26_2]) w24 fun v27_2 w25 =>
                  offP 0 v6 fun v28_2 =>
                  st v28_2 v27_2 w25 fun w26 =>
                  k2 [] w26)) fun s2 j2 w6 =>
              binP .add (g s1 0) (.int .i64 1) fun v29 =>
              nx1 [v29] w6)
            (joinP (fun k3 =>
                offP 0 v6 fun v30 =>
                ld v30 w5 fun v31 =>
                lenP v31 fun v32 =>
                binP .gtr v32 (.int .i64 2) fun v33 =>
                guardP v33 true
                  (Ret c.P c.f_p_blmake_Stream_Flip #[a0, (.int .i64 2)] w5 fun v36 w28 =>
                    offP 1 v6 fun v38 =>
                    st v38 v36 w28 fun w29 =>
                    k3 [] w29)
                  (offP 1 v6 fun v38_1 =>
                    st v38_1 (.bool false) w5 fun w30 =>
                    k3 [] w30)) fun s3 j3 w27 =>
              ldA 2 v6 w27 fun v40 =>
              semP c.P (Instr.buildSlice c.t_sl_api_Path 1 #[(0, v40)]) w27 fun v41 w31 =>
              semP c.P (Builtin.append_ #[c.t_sl_api_Path, c.t_sl_api_Path] c.t_sl_api_Path #[(g s0 0), v41]) w31 fun v42 w32 =>
              binP .add (g s0 1) (.int .i64 1) fun v43 =>
              nx0 [v42, v43] w32)) [(.int .i64 0)] w4)
      (joinP (fun k4 =>
          lenP (g s0 0) fun v45 =>
          binP .gtr v45 (.int .i64 0) fun v46 =>
          guardP v46 true
            (Ret c.P c.f_p_blmake_Stream_Flip #[a0, (.int .i64 15)] w2 fun v49 w34 =>
              k4 [v49] w34)
            (k4 [(.bool false)] w2)) fun s4 j4 w33 =>
        joinP (fun k5 => condP (g s4 0)
          (lenP (g s0 0) fun v54 =>
            Ret c.P c.f_p_blmake_Stream_Next #[a0, v54] w33 fun v55 w36 =>
            idxP 2 (g s0 0) v55 fun v56 =>
            Ret c.P c.f_p_blmake_Stream_Flip #[a0, (.int .i64 2)] w36 fun v60 w37 =>
            pureP c.P (Instr.build c.t_api_Point #[(0, (.int .i64 1))]) fun v61 =>
            semP c.P (Instr.buildSlice c.t_sl_api_Point 1 #[(0, v61)]) w37 fun v62 w38 =>
            pureP c.P (Instr.build c.t_api_Point #[(0, (.int .i64 1))]) fun v63 =>
            Ret c.P c.f_p_blmake_Stream_Odd #[a0, (.int .i64 (-100000)), (.int .i64 100000)] w38 fun v65 w39 =>
            pureP c.P (Instr.build c.t_api_Point #[(0, v65)]) fun v66 =>
            semP c.P (Instr.buildSlice c.t_sl_api_Point 2 #[(0, v63), (1, v66)]) w39 fun v67 w40 =>
            semP c.P (Instr.buildSlice c.t_sl_sl_api_Point 3 #[(0, (.slice none 0 0)), (1, v62), (2, v67)]) w40 fun v68 w41 =>
            Ret c.P c.f_p_blmake_Stream_Next #[a0, (.int .i64 3)] w41 fun v70 w42 =>
            idxP 1 v68 v70 fun v71 =>
            ld v71 w42 fun v72 =>
            nilP v56 fun v73 =>
            offP 1 v73 fun v74 =>
            st v74 v60 w42 fun w43 =>
            nilP v56 fun v75 =>
            offP 0 v75 fun v76 =>
            st v76 v72 w43 fun w44 =>
            k5 [] w44)
          (k5 [] w33)) fun s5 j5 w35 =>
        R (g s0 0) w35)) [(.slice none 0 0), (.int .i64 0)] w1

/-- (*beadlayer/blmake.Stream).AnOrder -/
def wp_p_blmake_Stream_AnOrder (c : Cfg) (a0 a1 : Value) (w : World) (R : Value → World → Prop) : Prop :=
  lenP a1 fun v10 =>
  Ret c.P c.f_p_blmake_Stream_Order #[a0, v10] w fun v11 w1 =>
  lenP v11 fun v12 =>
  loopP (fun nx0 s0 j0 w2 =>
    binP .lss (g s0 1) v12 fun v14 =>
    condP v14
      (idxP 1 v11 (g s0 1) fun v15 =>
        ld v15 w2 fun v16 =>
        Ret c.P c.f_p_blmake_Stream_AVisit #[a0, a1, v16] w2 fun v21 w3 =>
        semP c.P (Instr.buildSlice c.t_sl_api_Visit 1 #[(0, v21)]) w3 fun v22 w4 =>
        semP c.P (Builtin.append_ #[c.t_sl_api_Visit, c.t_sl_api_Visit] c.t_sl_api_Visit #[(g s0 0), v22]) w4 fun v23 w5 =>
        binP .add (g s0 1) (.int .i64 1) fun v24 =>
        nx0 [v23, v24] w5)
      (Ret c.P c.f_p_blmake_Stream_Flip #[a0, (.int .i64 30)] w2 fun v26 w6 =>
        joinP (fun k1 => condP v26
          (pureP c.P (Instr.build c.t_api_Visit #[]) fun v28 =>
            semP c.P (Instr.buildSlice c.t_sl_api_Visit 1 #[(0, v28)]) w6 fun v29 w8 =>
            semP c.P (Builtin.append_ #[c.t_sl_api_Visit, c.t_sl_api_Visit] c.t_sl_api_Visit #[(g s0 0), v29]) w8 fun v30 w9 =>
            k1 [v30] w9)
          (k1 [(g s0 0)] w6)) fun s1 j1 w7 =>
        R (g s1 0) w7)) [(.slice none 0 0), (.int .i64 0)] w1

/-- (*beadlayer/blmake.Stream).Indices -/
def wp_p_blmake_Stream_Indices (c : Cfg) (a0 a1 : Value) (w : World) (R : Value → World → Prop) : Prop :=
  Ret c.P c.f_p_blmake_Stream_Order #[a0, a1] w fun v8 w1 =>
  joinP (fun k0 =>
    binP .gtr a1 (.int .i64 0) fun v10 =>
    guardP v10 true
      (Ret c.P c.f_p_blmake_Stream_Flip #[a0, (.int .i64 12)] w1 fun v13 w3 =>
        k0 [v13] w3)
      (k0 [(.bool false)] w1)) fun s0 j0 w2 =>
  joinP (fun k1 => condP (g s0 0)
    (Ret c.P c.f_p_blmake_Stream_Next #[a0, a1] w2 fun v18 w5 =>
      semP c.P (Instr.buildSlice c.t_sl_int 3 #[(0, (.int .i64 (-1))), (1, a1), (2, (.int .i64 0))]) w5 fun v21 w6 =>
      Ret c.P c.f_p_blmake_Stream_Pick #[a0, v21] w6 fun v22 w7 =>
      idxP 1 v8 v18 fun v23 =>
      st v23 v22 w7 fun w8 =>
      k1 [] w8)
    (k1 [] w2)) fun s1 j1 w4 =>
  Ret c.P c.f_p_blmake_Stream_Flip #[a0, (.int .i64 30)] w4 fun v25 w9 =>
  joinP (fun k2 => condP v25
    (semP c.P (Instr.buildSlice c.t_sl_int 1 #[(0, (.int .i64 0))]) w9 fun v27 w11 =>
      semP c.P (Builtin.append_ #[c.t_sl_int, c.t_sl_int] c.t_sl_int #[v8, v27]) w11 fun v28 w12 =>
      k2 [v28] w12)
    (k2 [v8] w9)) fun s2 j2 w10 =>
  R (g s2 0) w10

/-- cmp.Or[beadlayer/api.Errno] -/
def wp_cmp_Or_api_Errno (c : Cfg) (a0 : Value) (w : World) (R : Value → World → Prop) : Prop :=
  lenP a0 fun v7 =>
  loopP (fun nx0 s0 j0 w1 =>
    binP .lss (g s0 0) v7 fun v9 =>
    condP v9
      (idxP 1 a0 (g s0 0) fun v10 =>
        ld v10 w1 fun v11 =>
        binP .neq v11 (.int .i64 0) fun v14 =>
        condP v14
          (R v11 w1)
          (binP .add (g s0 0) (.int .i64 1) fun v16 =>
            nx0 [v16] w1))
      (R (.int .i64 0) w1)) [(.int .i64 0)] w

/-- beadlayer/blref1.PointFault -/
def wp_blref1_PointFault (c : Cfg) (a0 : Value) (w : World) (R : Value → World → Prop) : Prop :=
  lenP a0 fun v6 =>
  loopP (fun nx0 s0 j0 w1 =>
    binP .lss (g s0 0) v6 fun v8 =>
    condP v8
      (idxP 2 a0 (g s0 0) fun v9 =>
        ldA 2 v9 w1 fun v10 =>
        newP c.t_api_Point #[(.int .i64 0), (.int .i64 0)] w1 fun v4 w2 =>
        stA 2 v4 v10 w2 fun w3 =>
        joinP (fun k1 =>
          offP 0 v4 fun v11 =>
          ld v11 w3 fun v12 =>
          Ret c.P c.f_blref1_in #[v12, (.int .i64 (-100000)), (.int .i64 100000)] w3 fun v13 w5 =>
          notP v13 fun v14 =>
          guardP v14 false
            (offP 1 v4 fun v16 =>
              ld v16 w5 fun v17 =>
              Ret c.P c.f_blref1_in #[v17, (.int .i64 (-100000)), (.int .i64 100000)] w5 fun v18 w6 =>
              notP v18 fun v19 =>
              k1 [v19] w6)
            (k1 [(.bool true)] w5)) fun s1 j1 w4 =>
        condP (g s1 0)
          (R (.int .i64 1) w4)
          (binP .add (g s0 0) (.int .i64 1) fun v21 =>
            nx0 [v21] w4))
      (R (.int .i64 0) w1)) [(.int .i64 0)] w

/-- beadlayer/blref1.PathsFault -/
def wp_blref1_PathsFault (c : Cfg) (a0 : Value) (w : World) (R : Value → World → Prop) : Prop :=
  lenP a0 fun v7 =>
  binP .gtr v7 (.int .i64 200) fun v8 =>
  condP v8
    (R (.int .i64 2) w)
    (lenP a0 fun v10 =>
      loopP (fun nx0 s0 j0 w1 =>
        binP .lss (g s0 0) v10 fun v12 =>
        condP v12
          (idxP 2 a0 (g s0 0) fun v13 =>
            ldA 2 v13 w1 fun v14 =>
            newP c.t_api_Path #[(.slice none 0 0), (.bool false)] w1 fun v4 w2 =>
            stA 2 v4 v14 w2 fun w3 =>
            ldA 2 v4 w3 fun v15 =>
            Ret c.P c.f_blref1_pathFault #[v15] w3 fun v16 w4 =>
            binP .neq v16 (.int .i64 0) fun v18 =>
            condP v18
              (R v16 w4)
              (binP .add (g s0 0) (.int .i64 1) fun v20 =>
                nx0 [v20] w4))
          (R (.int .i64 0) w1)) [(.int .i64 0)] w)

/-- beadlayer/blref1.IndicesFault -/
def wp_blref1_IndicesFault (c : Cfg) (a0 a1 : Value) (w : World) (R : Value → World → Prop) : Prop :=
  lenP a1 fun v8 =>
  binP .neq v8 a0 fun v10 =>
  condP v10
    (R (.int .i64 3) w)
    (lenP a1 fun v12 =>
      loopP (fun nx0 s0 j0 w1 =>
        binP .lss (g s0 0) v12 fun v14 =>
        condP v14
          (idxP 1 a1 (g s0 0) fun v16 =>
            ld v16 w1 fun v17 =>
            binP .sub a0 (.int .i64 1) fun v21 =>
            Ret c.P c.f_blref1_in #[v17, (.int .i64 0), v21] w1 fun v22 w2 =>
            notP v22 fun v23 =>
            condP v23
              (R (.int .i64 1) w2)
              (pureP c.P (Instr.sliceAt c.t_sl_int a1 none (some (g s0 0)) none) fun v27 =>
                Ret c.P c.f_slices_Contains_sl_int_int #[v27, v17] w2 fun v29 w3 =>
                condP v29
                  (R (.int .i64 6) w3)
                  (binP .add (g s0 0) (.int .i64 1) fun v30 =>
                    nx0 [v30] w3)))
          (R (.int .i64 0) w1)) [(.int .i64 0)] w)

/-- beadlayer/blref1.OrderFault -/
def wp_blref1_OrderFault (c : Cfg) (a0 a1 : Value) (w : World) (R : Value → World → Prop) : Prop :=
  Ret c.P c.f_blref1_PathsFault #[a0] w fun v10 w1 =>
  binP .neq v10 (.int .i64 0) fun v12 =>
  condP v12
    (R v10 w1)
    (lenP a1 fun v15 =>
      lenP a0 fun v17 =>
      binP .neq v15 v17 fun v18 =>
      condP v18
        (R (.int .i64 3) w1)
        (lenP a1 fun v20 =>
          loopP (fun nx0 s0 j0 w2 =>
            binP .lss (g s0 0) v20 fun v22 =>
            condP v22
              (idxP 3 a1 (g s0 0) fun v24 =>
                ldA 3 v24 w2 fun v25 =>
                newP c.t_api_Visit #[(.int .i64 0), (.int .i64 0), (.bool false)] w2 fun v7 w3 =>
                stA 3 v7 v25 w3 fun w4 =>
                pureP c.P (Instr.sliceAt c.t_sl_api_Visit a1 none (some (g s0 0)) none) fun v29 =>
                ldA 3 v7 w4.drew fun v30 =>
                Ret c.P c.f_blref1_visitFault #[a0, v29, v30] w4.drew fun v31 w5 =>
                binP .neq v31 (.int .i64 0) fun v33 =>
                condP v33
                  (R v31 w5)
                  (binP .add (g s0 0) (.int .i64 1) fun v35 =>
                    nx0 [v35] w5))
              (R (.int .i64 0) w2)) [(.int .i64 0)] w1))

/-- beadlayer/path.Best -/
def wp_path_Best (c : Cfg) (a0 a1 : Value) (w : World) (R : Value → World → Prop) : Prop :=
  newP c.t_api_Point (Value.cells a0) w fun v2 w1 =>
  ldA 2 v2 w1 fun v22 =>
  Ret c.P c.f_path_startPathsFault #[v22, a1] w1 fun v24 w2 =>
  binP .neq v24 (.int .i64 0) fun v26 =>
  condP v26
    (R (.tuple #[(.slice none 0 0), (.int .i64 0), v24]) w2)
    (lenP a1 fun v29 =>
      binP .gtr v29 (.int .i64 6) fun v30 =>
      condP v30
        (R (.tuple #[(.slice none 0 0), (.int .i64 0), (.int .i64 2)]) w2)
        (pureP c.P (Instr.build c.t_path_finder #[]) fun v31 =>
          newP c.t_path_finder (Value.cells v31) w2 fun v32 w3 =>
          lenP a1 fun v34 =>
          loopP (fun nx0 s0 j0 w4 =>
            binP .lss (g s0 0) v34 fun v36 =>
            condP v36
              (heldP fun S => S w4.drew ∧
                nilP v32 fun v40 =>
                offP 0 v40 fun v41 =>
                ldS S v41 fun v42 =>
                Ret c.P c.f_path_choices #[a1, (g s0 0)] w4.drew fun v45 w5 => S w5 ∧
                semP c.P (Builtin.append_ #[c.t_sl_path_choice, c.t_sl_path_choice] c.t_sl_path_choice #[v42, v45]) w5 fun v46 w6 =>
                nilP v32 fun v47 =>
                offP 0 v47 fun v48 =>
                st v48 v46 w6 fun w7 =>
                binP .add (g s0 0) (.int .i64 1) fun v49 =>
                nx0 [v49] w7)
              (nilP v32 fun v51 =>
                offP 0 v51 fun v52 =>
                ld v52 w4 fun v53 =>
                lenP v53 fun v54 =>
                loopP (fun nx1 s1 j1 w8 =>
                  binP .lss (g s1 0) v54 fun v56 =>
                  condP v56
                    (nilP v32 fun v59 =>
                      offP 1 v59 fun v60 =>
                      ld v60 w8 fun v61 =>
                      semP c.P (Instr.makeMap c.t_map_int_int none) w8 fun v62 w9 =>
                      semP c.P (Instr.mapUpdate c.t_map_int_int v62 (.int .i64 0) (.int .i64 0)) w9 fun _ w10 =>
                      semP c.P (Instr.buildSlice c.t_sl_map_int_int 1 #[(0, v62)]) w10 fun v64 w11 =>
                      semP c.P (Builtin.append_ #[c.t_sl_map_int_int, c.t_sl_map_int_int] c.t_sl_map_int_int #[v61, v64]) w11 fun v65 w12 =>
                      nilP v32 fun v66 =>
                      offP 1 v66 fun v67 =>
                      st v67 v65 w12 fun w13 =>
                      binP .add (g s1 0) (.int .i64 1) fun v68 =>
                      nx1 [v68] w13)
                    (loopP (fun nx2 s2 j2 w14 =>
                        lenP a1 fun v71 =>
                        pureP c.P (do eqGuard .shl c.t_int (.const (.int .i64 1)) (.tmp 71) (.int .i64 1) v71; binOp .shl c.t_int (.int .i64 1) v71) fun v72 =>
                        binP .lss (g s2 0) v72 fun v73 =>
                        condP v73
                          (semP c.P (Instr.makeMap c.t_map_api_Point_int none) w14 fun v76 w15 =>
                            nilP v32 fun v78 =>
                            offP 0 v78 fun v79 =>
                            ld v79 w15 fun v80 =>
                            lenP v80 fun v81 =>
                            loopP (fun nx3 s3 j3 w16 =>
                              binP .lss (g s3 0) v81 fun v83 =>
                              condP v83
                                (joinP (fun k4 =>
                                    idxP 7 v80 (g s3 0) fun v85 =>
                                    ldA 7 v85 w16 fun v86 =>
                                    newP c.t_path_choice #[(.int .i64 0), (.int .i64 0), (.bool false), (.int .i64 0), (.int .i64 0), (.int .i64 0), (.int .i64 0)] w16 fun v13 w18 =>
                                    stA 7 v13 v86 w18 fun w19 =>
                                    offP 0 v13 fun v88 =>
                                    offP 0 v88 fun v89 =>
                                    ld v89 w19 fun v90 =>
                                    pureP c.P (do eqGuard .shr c.t_int (.tmp 87) (.tmp 90) (g s2 0) v90; binOp .shr c.t_int (g s2 0) v90) fun v91 =>
                                    pureP c.P (do eqGuard .and c.t_int (.tmp 91) (.const (.int .i64 1)) v91 (.int .i64 1); binOp .and c.t_int v91 (.int .i64 1)) fun v92 =>
                                    binP .eql v92 (.int .i64 1) fun v93 =>
                                    condP v93
                                      (k4 [] w19)
                                      (offP 5 v13 fun v96 =>
                                        ldA 2 v96 w19 fun v97 =>
                                        semP c.P (Instr.lookup c.t_map_api_Point_int v76 v97 true) w19 fun v98 w20 =>
                                        exP 0 v98 fun v99 =>
                                        exP 1 v98 fun v100 =>
                                        notP v100 fun v102 =>
                                        joinP (fun k5 => condP v102
                                          (offP 5 v13 fun v105 =>
                                            ldA 2 v105 w20 fun v106 =>
                                            Ret c.P c.f_p_path_finder_next #[v32, v106, (g s2 0)] w20 fun v108 w22 =>
                                            exP 0 v108 fun v109 =>
                                            exP 1 v108 fun v110 =>
                                            offP 5 v13 fun v112 =>
                                            ldA 2 v112 w22 fun v113 =>
                                            semP c.P (Instr.mapUpdate c.t_map_api_Point_int v76 v113 v110) w22 fun _ w23 =>
                                            k5 [v110] w23)
                                          (k5 [v99] w20)) fun s5 j5 w21 =>
                                        nilP v32 fun v116 =>
                                        offP 1 v116 fun v117 =>
                                        ld v117 w21 fun v118 =>
                                        idxP 1 v118 (g s3 0) fun v120 =>
                                        ld v120 w21 fun v121 =>
                                        semP c.P (Instr.mapUpdate c.t_map_int_int v121 (g s2 0) (g s5 0)) w21 fun _ w24 =>
                                        k4 [] w24)) fun s4 j4 w17 =>
                                  binP .add (g s3 0) (.int .i64 1) fun v124 =>
                                  nx3 [v124] w17)
                                (binP .add (g s2 0) (.int .i64 1) fun v75 =>
                                  nx2 [v75] w16)) [(.int .i64 0)] w15)
                          (ldA 2 v2 w14 fun v125 =>
                            newP c.t_api_Point #[(.int .i64 0), (.int .i64 0)] w14 fun v17 w25 =>
                            stA 2 v17 v125 w25 fun w26 =>
                            lenP a1 fun v127 =>
                            pureP c.P (do eqGuard .shl c.t_int (.const (.int .i64 1)) (.tmp 127) (.int .i64 1) v127; binOp .shl c.t_int (.int .i64 1) v127) fun v128 =>
                            binP .sub v128 (.int .i64 1) fun v129 =>
                            loopP (fun nx6 s6 j6 w27 =>
                              binP .gtr (g s6 1) (.int .i64 0) fun v131 =>
                              condP v131
                                (ldA 2 v17 w27 fun v134 =>
                                  Ret c.P c.f_p_path_finder_next #[v32, v134, (g s6 1)] w27 fun v136 w28 =>
                                  exP 0 v136 fun v137 =>
                                  exP 1 v136 fun v138 =>
                                  nilP v32 fun v140 =>
                                  offP 0 v140 fun v141 =>
                                  ld v141 w28 fun v142 =>
                                  idxP 7 v142 v137 fun v144 =>
                                  ldA 7 v144 w28 fun v145 =>
                                  newP c.t_path_choice #[(.int .i64 0), (.int .i64 0), (.bool false), (.int .i64 0), (.int .i64 0), (.int .i64 0), (.int .i64 0)] w28 fun v21 w29 =>
                                  stA 7 v21 v145 w29 fun w30 =>
                                  offP 0 v21 fun v147 =>
                                  ldA 3 v147 w30 fun v148 =>
                                  semP c.P (Instr.buildSlice c.t_sl_api_Visit 1 #[(0, v148)]) w30 fun v149 w31 =>
                                  semP c.P (Builtin.append_ #[c.t_sl_api_Visit, c.t_sl_api_Visit] c.t_sl_api_Visit #[(g s6 0), v149]) w31 fun v150 w32 =>
                                  heldP fun S => S w32.drew ∧
                                  offP 5 v21 fun v151 =>
                                  ldAS S 2 v151 fun v152 =>
                                  offP 0 v21 fun v154 =>
                                  offP 0 v154 fun v155 =>
                                  ldS S v155 fun v156 =>
                                  pureP c.P (do eqGuard .shl c.t_int (.const (.int .i64 1)) (.tmp 156) (.int .i64 1) v156; binOp .shl c.t_int (.int .i64 1) v156) fun v157 =>
                                  pureP c.P (do eqGuard .andNot c.t_int (.tmp 153) (.tmp 157) (g s6 1) v157; binOp .andNot c.t_int (g s6 1) v157) fun v158 =>
                                  stA 2 v17 v152 w32.drew fun w33 => S w33 ∧
                                  nx6 [v150, v158] w33)
                                (ldA 2 v2 w27 fun v160 =>
                                  Ret c.P c.f_path_travel #[v160, a1, (g s6 0)] w27 fun v163 w34 =>
                                  R (.tuple #[(g s6 0), v163, (.int .i64 0)]) w34)) [(.slice none 0 0), v129] w26)) [(.int .i64 1)] w8)) [(.int .i64 0)] w4)) [(.int .i64 0)] w3))

/-- beadlayer/path.Nearest -/
def wp_path_Nearest (c : Cfg) (a0 a1 : Value) (w : World) (R : Value → World → Prop) : Prop :=
  newP c.t_api_Point (Value.cells a0) w fun v2 w1 =>
  ldA 2 v2 w1 fun v16 =>
  Ret c.P c.f_path_startPathsFault #[v16, a1] w1 fun v18 w2 =>
  binP .neq v18 (.int .i64 0) fun v20 =>
  condP v20
    (R (.tuple #[(.slice none 0 0), (.int .i64 0), v18]) w2)
    (lenP a1 fun v23 =>
      semP c.P (Instr.makeSlice c.t_sl_bool v23 v23) w2 fun v24 w3 =>
      ldA 2 v2 w3 fun v25 =>
      newP c.t_api_Point #[(.int .i64 0), (.int .i64 0)] w3 fun v10 w4 =>
      stA 2 v10 v25 w4 fun w5 =>
      lenP a1 fun v27 =>
      loopP (fun nx0 s0 j0 w6 =>
        binP .lss (g s0 1) v27 fun v29 =>
        condP v29
          (newP c.t_path_choice #[(.int .i64 0), (.int .i64 0), (.bool false), (.int .i64 0), (.int .i64 0), (.int .i64 0), (.int .i64 0)] w6 fun v11 w7 =>
            lenP a1 fun v31 =>
            loopP (fun nx1 s1 j1 w8 =>
              binP .lss (g s1 1) v31 fun v33 =>
              condP v33
                (joinP (fun k2 =>
                    idxP 1 v24 (g s1 1) fun v37 =>
                    ld v37 w8 fun v38 =>
                    condP v38
                      (k2 [(g s1 0)] w8)
                      (Ret c.P c.f_path_choices #[a1, (g s1 1)] w8 fun v41 w10 =>
                        lenP v41 fun v42 =>
                        loopP (fun nx3 s3 j3 w11 =>
                          binP .lss (g s3 1) v42 fun v44 =>
                          condP v44
                            (joinP (fun k4 =>
                                idxP 7 v41 (g s3 1) fun v45 =>
                                ldA 7 v45 w11 fun v46 =>
                                newP c.t_path_choice #[(.int .i64 0), (.int .i64 0), (.bool false), (.int .i64 0), (.int .i64 0), (.int .i64 0), (.int .i64 0)] w11 fun v15 w13 =>
                                stA 7 v15 v46 w13 fun w14 =>
                                joinP (fun k5 =>
                                  heldP fun S => S w14.drew ∧
                                  notP (g s3 0) fun v48 =>
                                  guardP v48 false
                                    (ldAS S 2 v10 fun v50 =>
                                      offP 3 v15 fun v51 =>
                                      ldAS S 2 v51 fun v52 =>
                                      ldAS S 2 v10 fun v54 =>
                                      offP 3 v11 fun v55 =>
                                      ldAS S 2 v55 fun v56 =>
                                      Ret c.P c.f_path_Distance #[v50, v52] w14.drew fun v53 w16 => S w16 ∧
                                      Ret c.P c.f_path_Distance #[v54, v56] w16 fun v57 w17 => S w17 ∧
                                      binP .lss v53 v57 fun v58 =>
                                      k5 [v58] w17)
                                    (k5 [(.bool true)] w14.drew)) fun s5 j5 w15 =>
                                joinP (fun k6 => condP (g s5 0)
                                  (ldA 7 v15 w15 fun v60 =>
                                    stA 7 v11 v60 w15 fun w19 =>
                                    k6 [(.bool true)] w19)
                                  (k6 [(g s3 0)] w15)) fun s6 j6 w18 =>
                                k4 [(g s6 0)] w18) fun s4 j4 w12 =>
                              binP .add (g s3 1) (.int .i64 1) fun v61 =>
                              nx3 [(g s4 0), v61] w12)
                            (k2 [(g s3 0)] w11)) [(g s1 0), (.int .i64 0)] w10)) fun s2 j2 w9 =>
                  binP .add (g s1 1) (.int .i64 1) fun v62 =>
                  nx1 [(g s2 0), v62] w9)
                (offP 0 v11 fun v64 =>
                  offP 0 v64 fun v65 =>
                  ld v65 w8 fun v66 =>
                  idxP 1 v24 v66 fun v67 =>
                  st v67 (.bool true) w8 fun w20 =>
                  offP 0 v11 fun v69 =>
                  ldA 3 v69 w20 fun v70 =>
                  semP c.P (Instr.buildSlice c.t_sl_api_Visit 1 #[(0, v70)]) w20 fun v71 w21 =>
                  semP c.P (Builtin.append_ #[c.t_sl_api_Visit, c.t_sl_api_Visit] c.t_sl_api_Visit #[(g s0 0), v71]) w21 fun v72 w22 =>
                  offP 5 v11 fun v73 =>
                  ldA 2 v73 w22 fun v74 =>
                  stA 2 v10 v74 w22 fun w23 =>
                  binP .add (g s0 1) (.int .i64 1) fun v75 =>
                  nx0 [v72, v75] w23)) [(.bool false), (.int .i64 0)] w7)
          (ldA 2 v2 w6 fun v77 =>
            Ret c.P c.f_path_travel #[v77, a1, (g s0 0)] w6 fun v80 w24 =>
            R (.tuple #[(g s0 0), v80, (.int .i64 0)]) w24)) [(.slice none 0 0), (.int .i64 0)] w5)

/-- beadlayer/path.Begun -/
def wp_path_Begun (c : Cfg) (a0 a1 a2 : Value) (w : World) (R : Value → World → Prop) : Prop :=
  newP c.t_api_Point (Value.cells a0) w fun v3 w1 =>
  ldA 2 v3 w1 fun v21 =>
  Ret c.P c.f_path_startPathsFault #[v21, a1] w1 fun v23 w2 =>
  binP .neq v23 (.int .i64 0) fun v25 =>
  condP v25
    (R (.tuple #[(.slice none 0 0), (.int .i64 0), v23]) w2)
    (lenP a1 fun v28 =>
      Ret c.P c.f_path_indicesFault #[v28, a2] w2 fun v30 w3 =>
      binP .neq v30 (.int .i64 0) fun v32 =>
      condP v32
        (R (.tuple #[(.slice none 0 0), (.int .i64 0), v30]) w3)
        (lenP a2 fun v35 =>
          semP c.P (Instr.makeSlice c.t_sl_sl_path_choice v35 v35) w3 fun v36 w4 =>
          lenP a2 fun v38 =>
          binP .add v38 (.int .i64 1) fun v39 =>
          semP c.P (Instr.makeSlice c.t_sl_sl_int v39 v39) w4 fun v40 w5 =>
          lenP a2 fun v42 =>
          binP .sub v42 (.int .i64 1) fun v43 =>
          loopP (fun nx0 s0 j0 w6 =>
            binP .geq (g s0 0) (.int .i64 0) fun v45 =>
            condP v45
              (idxP 1 a2 (g s0 0) fun v53 =>
                ld v53 w6 fun v54 =>
                Ret c.P c.f_path_choices #[a1, v54] w6 fun v55 w7 =>
                idxP 1 v36 (g s0 0) fun v56 =>
                st v56 v55 w7 fun w8 =>
                idxP 1 v36 (g s0 0) fun v59 =>
                ld v59 w8 fun v60 =>
                lenP v60 fun v61 =>
                loopP (fun nx1 s1 j1 w9 =>
                  binP .lss (g s1 0) v61 fun v63 =>
                  condP v63
                    (idxP 7 v60 (g s1 0) fun v64 =>
                      ldA 7 v64 w9 fun v65 =>
                      newP c.t_path_choice #[(.int .i64 0), (.int .i64 0), (.bool false), (.int .i64 0), (.int .i64 0), (.int .i64 0), (.int .i64 0)] w9 fun v15 w10 =>
                      stA 7 v15 v65 w10 fun w11 =>
                      binP .add (g s0 0) (.int .i64 1) fun v67 =>
                      lenP a2 fun v69 =>
                      binP .lss v67 v69 fun v70 =>
                      joinP (fun k2 => condP v70
                        (heldP fun S => S w11.drew ∧
                          offP 5 v15 fun v71 =>
                          ldAS S 2 v71 fun v72 =>
                          binP .add (g s0 0) (.int .i64 1) fun v75 =>
                          idxP 1 v36 v75 fun v76 =>
                          ldS S v76 fun v77 =>
                          binP .add (g s0 0) (.int .i64 1) fun v80 =>
                          idxP 1 v40 v80 fun v81 =>
                          ldS S v81 fun v82 =>
                          Ret c.P c.f_path_nearest #[v72, v77, v82] w11.drew fun v83 w13 => S w13 ∧
                          fld1 1 v83 fun v84 =>
                          k2 [v84] w13)
                        (k2 [(.int .i64 0)] w11)) fun s2 j2 w12 =>
                      idxP 1 v40 (g s0 0) fun v89 =>
                      ld v89 w12 fun v90 =>
                      semP c.P (Instr.buildSlice c.t_sl_int 1 #[(0, (g s2 0))]) w12 fun v92 w14 =>
                      semP c.P (Builtin.append_ #[c.t_sl_int, c.t_sl_int] c.t_sl_int #[v90, v92]) w14 fun v93 w15 =>
                      idxP 1 v40 (g s0 0) fun v94 =>
                      st v94 v93 w15 fun w16 =>
                      binP .add (g s1 0) (.int .i64 1) fun v95 =>
                      nx1 [v95] w16)
                    (binP .sub (g s0 0) (.int .i64 1) fun v47 =>
                      nx0 [v47] w9)) [(.int .i64 0)] w8)
              (ldA 2 v3 w6 fun v96 =>
                newP c.t_api_Point #[(.int .i64 0), (.int .i64 0)] w6 fun v18 w17 =>
                stA 2 v18 v96 w17 fun w18 =>
                lenP a2 fun v98 =>
                loopP (fun nx3 s3 j3 w19 =>
                  binP .lss (g s3 1) v98 fun v100 =>
                  condP v100
                    (joinP (fun k4 =>
                        heldP fun S => S w19.drew ∧
                        idxP 1 v36 (g s3 1) fun v104 =>
                        ldS S v104 fun v105 =>
                        ldAS S 2 v18 fun v106 =>
                        idxP 1 v36 (g s3 1) fun v109 =>
                        ldS S v109 fun v110 =>
                        idxP 1 v40 (g s3 1) fun v113 =>
                        ldS S v113 fun v114 =>
                        (Ret c.P c.f_path_nearest #[v106, v110, v114] w19.drew fun v115 w21 => S w21 ∧
                          fld1 0 v115 fun v116 =>
                          idxP 7 v105 v116 fun v117 =>
                          ldAS S 7 v117 fun v118 =>
                          newP c.t_path_choice #[(.int .i64 0), (.int .i64 0), (.bool false), (.int .i64 0), (.int .i64 0), (.int .i64 0), (.int .i64 0)] w21 fun v20 w22 => S w22 ∧
                          stA 7 v20 v118 w22 fun w23 =>
                          k4 [v20] w23)
                        ∧ (newP c.t_path_choice #[(.int .i64 0), (.int .i64 0), (.bool false), (.int .i64 0), (.int .i64 0), (.int .i64 0), (.int .i64 0)] w19.drew fun v20_1 w24 => S w24 ∧
                          Ret c.P c.f_path_nearest #[v106, v110, v114] w24 fun v115_1 w25 => S w25 ∧
                          fld1 0 v115_1 fun v116_1 =>
                          idxP 7 v105 v116_1 fun v117_1 =>
                          ldAS S 7 v117_1 fun v118_1 =>
                          stA 7 v20_1 v118_1 w25 fun w26 =>
                          k4 [v20_1] w26)) fun s4 j4 w20 =>
                      offP 0 (g s4 0) fun v120 =>
                      ldA 3 v120 w20 fun v121 =>
                      semP c.P (Instr.buildSlice c.t_sl_api_Visit 1 #[(0, v121)]) w20 fun v122 w27 =>
                      semP c.P (Builtin.append_ #[c.t_sl_api_Visit, c.t_sl_api_Visit] c.t_sl_api_Visit #[(g s3 0), v122]) w27 fun v123 w28 =>
                      offP 5 (g s4 0) fun v124 =>
                      ldA 2 v124 w28 fun v125 =>
                      stA 2 v18 v125 w28 fun w29 =>
                      binP .add (g s3 1) (.int .i64 1) fun v126 =>
                      nx3 [v123, v126] w29)
                    (ldA 2 v3 w19 fun v128 =>
                      Ret c.P c.f_path_travel #[v128, a1, (g s3 0)] w19 fun v131 w30 =>
                      R (.tuple #[(g s3 0), v131, (.int .i64 0)]) w30)) [(.slice none 0 0), (.int .i64 0)] w18)) [v43] w5))

/-- beadlayer/path.Improved -/
def wp_path_Improved (c : Cfg) (a0 a1 a2 : Value) (w : World) (R : Value → World → Prop) : Prop :=
  newP c.t_api_Point (Value.cells a0) w fun v3 w1 =>
  ldA 2 v3 w1 fun v10 =>
  Ret c.P c.f_path_startFault #[v10, a1, a2] w1 fun v13 w2 =>
  binP .neq v13 (.int .i64 0) fun v15 =>
  condP v15
    (R (.tuple #[(.slice none 0 0), (.int .i64 0), v13]) w2)
    (Ret c.P c.f_slices_Clone_sl_api_Visit_api_Visit #[a2] w2 fun v18 w3 =>
      loopP (fun nx0 s0 j0 w4 =>
        ldA 2 v3 w4 fun v19 =>
        Ret c.P c.f_path_exchange #[v19, a1, v18] w4 fun v22 w5 =>
        condP v22
          (nx0 [] w5)
          (ldA 2 v3 w5 fun v24 =>
            Ret c.P c.f_path_travel #[v24, a1, v18] w5 fun v27 w6 =>
            R (.tuple #[v18, v27, (.int .i64 0)]) w6)) [] w3)

/-- beadlayer/blref1.BestOf -/
def wp_blref1_BestOf (c : Cfg) (a0 a1 : Value) (w : World) (R : Value → World → Prop) : Prop :=
  newP c.t_api_Point (Value.cells a0) w fun v2 w1 =>
  newP c.t_sl_api_Path (Value.cells a1) w1 fun v3 w2 =>
  ldA 2 v2 w2 fun v6 =>
  ld v3 w2 fun v7 =>
  ld v3 w2 fun v8 =>
  lenP v8 fun v9 =>
  Ret c.P c.f_blref1_search #[v6, v7, v9, (.func (.func c.f_blref1_BestOf_1) #[] #[v3])] w2 fun v11 w3 =>
  exP 0 v11 fun v12 =>
  exP 1 v11 fun v13 =>
  R (.tuple #[v12, v13]) w3

/-- beadlayer/blref1.NearestOf -/
def wp_blref1_NearestOf (c : Cfg) (a0 a1 : Value) (w : World) (R : Value → World → Prop) : Prop :=
  newP c.t_api_Point (Value.cells a0) w fun v2 w1 =>
  ldA 2 v2 w1 fun v16 =>
  newP c.t_api_Point #[(.int .i64 0), (.int .i64 0)] w1 fun v7 w2 =>
  stA 2 v7 v16 w2 fun w3 =>
  loopP (fun nx0 s0 j0 w4 =>
    lenP (g s0 0) fun v18 =>
    lenP a1 fun v20 =>
    binP .lss v18 v20 fun v21 =>
    condP v21
      (newP c.t_api_Visit #[(.int .i64 0), (.int .i64 0), (.bool false)] w4 fun v8 w5 =>
        Ret c.P c.f_blref1_left #[a1, (g s0 0)] w5 fun v24 w6 =>
        lenP v24 fun v25 =>
        loopP (fun nx1 s1 j1 w7 =>
          binP .lss (g s1 1) v25 fun v27 =>
          condP v27
            (idxP 1 v24 (g s1 1) fun v28 =>
              ld v28 w7 fun v29 =>
              Ret c.P c.f_blref1_ways #[a1, v29] w7 fun v32 w8 =>
              lenP v32 fun v33 =>
              loopP (fun nx2 s2 j2 w9 =>
                binP .lss (g s2 1) v33 fun v35 =>
                condP v35
                  (joinP (fun k3 =>
                      idxP 3 v32 (g s2 1) fun v36 =>
                      ldA 3 v36 w9 fun v37 =>
                      newP c.t_api_Visit #[(.int .i64 0), (.int .i64 0), (.bool false)] w9 fun v13 w11 =>
                      stA 3 v13 v37 w11 fun w12 =>
                      ldA 3 v13 w12 fun v40 =>
                      Ret c.P c.f_blref1_EndsOf #[a1, v40] w12 fun v41 w13 =>
                      exP 0 v41 fun v42 =>
                      exP 1 v41 fun v43 =>
                      newP c.t_api_Point #[(.int .i64 0), (.int .i64 0)] w13 fun v14 w14 =>
                      newP c.t_api_Point #[(.int .i64 0), (.int .i64 0)] w14 fun v15 w15 =>
                      stA 2 v14 v42 w15 fun w16 =>
                      stA 2 v15 v43 w16 fun w17 =>
                      joinP (fun k4 =>
                        binP .lss (g s2 0) (.int .i64 0) fun v45 =>
                        guardP v45 false
                          (ldA 2 v7 w17 fun v47 =>
                            ldA 2 v14 w17 fun v48 =>
                            Ret c.P c.f_blref1_Apart #[v47, v48] w17 fun v49 w19 =>
                            binP .lss v49 (g s2 0) fun v51 =>
                            k4 [v51] w19)
                          (k4 [(.bool true)] w17)) fun s4 j4 w18 =>
                      joinP (fun k5 => condP (g s4 0)
                        (heldP fun S => S w18.drew ∧
                          ldAS S 3 v13 fun v53 =>
                          ldAS S 2 v7 fun v54 =>
                          ldAS S 2 v14 fun v55 =>
                          Ret c.P c.f_blref1_Apart #[v54, v55] w18.drew fun v56 w21 => S w21 ∧
                          stA 3 v8 v53 w21 fun w22 => S w22 ∧
                          k5 [v56] w22)
                        (k5 [(g s2 0)] w18)) fun s5 j5 w20 =>
                      k3 [(g s5 0)] w20) fun s3 j3 w10 =>
                    binP .add (g s2 1) (.int .i64 1) fun v57 =>
                    nx2 [(g s3 0), v57] w10)
                  (binP .add (g s1 1) (.int .i64 1) fun v58 =>
                    nx1 [(g s2 0), v58] w9)) [(g s1 0), (.int .i64 0)] w8)
            (ldA 3 v8 w7 fun v60 =>
              semP c.P (Instr.buildSlice c.t_sl_api_Visit 1 #[(0, v60)]) w7 fun v61 w23 =>
              semP c.P (Builtin.append_ #[c.t_sl_api_Visit, c.t_sl_api_Visit] c.t_sl_api_Visit #[(g s0 0), v61]) w23 fun v62 w24 =>
              ldA 3 v8 w24 fun v65 =>
              Ret c.P c.f_blref1_EndsOf #[a1, v65] w24 fun v66 w25 =>
              exP 0 v66 fun v67 =>
              exP 1 v66 fun v68 =>
              stA 2 v7 v68 w25 fun w26 =>
              nx0 [v62] w26)) [(.int .i64 (-1)), (.int .i64 0)] w6)
      (ldA 2 v2 w4 fun v70 =>
        Ret c.P c.f_blref1_TravelOf #[v70, a1, (g s0 0)] w4 fun v73 w27 =>
        R (.tuple #[(g s0 0), v73]) w27)) [(.slice none 0 0)] w3

/-- beadlayer/blref1.BegunOf -/
def wp_blref1_BegunOf (c : Cfg) (a0 a1 a2 : Value) (w : World) (R : Value → World → Prop) : Prop :=
  newP c.t_api_Point (Value.cells a0) w fun v3 w1 =>
  newP c.t_sl_int (Value.cells a2) w1 fun v5 w2 =>
  ldA 2 v3 w2 fun v8 =>
  lenP a1 fun v11 =>
  Ret c.P c.f_blref1_search #[v8, a1, v11, (.func (.func c.f_blref1_BegunOf_1) #[] #[v5])] w2 fun v13 w3 =>
  exP 0 v13 fun v14 =>
  exP 1 v13 fun v15 =>
  R (.tuple #[v14, v15]) w3

/-- beadlayer/blref1.ImprovedOf -/
def wp_blref1_ImprovedOf (c : Cfg) (a0 a1 a2 : Value) (w : World) (R : Value → World → Prop) : Prop :=
  newP c.t_api_Point (Value.cells a0) w fun v3 w1 =>
  newP c.t_sl_api_Path (Value.cells a1) w1 fun v4 w2 =>
  newP c.t_sl_api_Visit (Value.cells a2) w2 fun v5 w3 =>
  ld v5 w3 fun v9 =>
  Ret c.P c.f_slices_Clone_sl_api_Visit_api_Visit #[v9] w3 fun v10 w4 =>
  st v5 v10 w4 fun w5 =>
  loopP (fun nx0 s0 j0 w6 =>
    callV c.P (.func (.func c.f_blref1_ImprovedOf_1) #[] #[v5, v3, v4]) #[] w6 fun v13 w7 =>
    condP v13
      (nx0 [] w7)
      (heldP fun S => S w7.drew ∧
        ldS S v5 fun v14 =>
        ldAS S 2 v3 fun v15 =>
        ldS S v4 fun v16 =>
        ldS S v5 fun v17 =>
        Ret c.P c.f_blref1_TravelOf #[v15, v16, v17] w7.drew fun v18 w8 => S w8 ∧
        R (.tuple #[v14, v18]) w8)) [] w5

/-- slices.Equal[[]beadlayer/api.Visit,beadlayer/api.Visit] -/
def wp_slices_Equal_sl_api_Visit_api_Visit (c : Cfg) (a0 a1 : Value) (w : World) (R : Value → World → Prop) : Prop :=
  lenP a0 fun v7 =>
  lenP a1 fun v9 =>
  binP .neq v7 v9 fun v10 =>
  condP v10
    (R (.bool false) w)
    (lenP a0 fun v12 =>
      loopP (fun nx0 s0 j0 w1 =>
        binP .lss (g s0 0) v12 fun v14 =>
        condP v14
          (idxP 3 a0 (g s0 0) fun v18 =>
            ldA 3 v18 w1.drew fun v19 =>
            idxP 3 a1 (g s0 0) fun v22 =>
            ldA 3 v22 w1.drew fun v23 =>
            pureP c.P (do eqGuard .neq c.t_api_Visit (.tmp 19) (.tmp 23) v19 v23; binOp .neq c.t_api_Visit v19 v23) fun v24 =>
            condP v24
              (R (.bool false) w1.drew)
              (binP .add (g s0 0) (.int .i64 1) fun v25 =>
                nx0 [v25] w1.drew))
          (R (.bool true) w1)) [(.int .i64 0)] w)

/-- (*beadlayer/blmake.Stream).Flip -/
def wp_p_blmake_Stream_Flip (c : Cfg) (a0 a1 : Value) (w : World) (R : Value → World → Prop) : Prop :=
  Ret c.P c.f_p_blmake_Stream_Next #[a0, a1] w fun v7 w1 =>
  binP .eql v7 (.int .i64 0) fun v8 =>
  R v8 w1

/-- slices.Repeat[[]beadlayer/api.Path,beadlayer/api.Path] -/
def wp_slices_Repeat_sl_api_Path_api_Path (c : Cfg) (a0 a1 : Value) (w : World) (R : Value → World → Prop) : Prop :=
  binP .lss a1 (.int .i64 0) fun v10 =>
  joinP (fun k0 => condP v10
    (semP c.P (Instr.makeInterface c.t_string (.string (S [99, 97, 110, 110, 111, 116, 32, 98, 101, 32, 110, 101, 103, 97, 116, 105, 118, 101]))) w fun v11 w2 =>
      False)
    (k0 [] w)) fun s0 j0 w1 =>
  lenP a0 fun v14 =>
  convI .u64 v14 fun v15 =>
  convI .u64 a1 fun v17 =>
  Ret c.P c.f_math_bits_Mul #[v15, v17] w1 fun v18 w3 =>
  exP 0 v18 fun v19 =>
  exP 1 v18 fun v20 =>
  joinP (fun k1 =>
    binP .gtr v19 (.int .u64 0) fun v22 =>
    guardP v22 false
      (binP .gtr v20 (.int .u64 9223372036854775807) fun v25 =>
        k1 [v25] w3)
      (k1 [(.bool true)] w3)) fun s1 j1 w4 =>
  joinP (fun k2 => condP (g s1 0)
    (semP c.P (Instr.makeInterface c.t_string (.string (S [116, 104, 101, 32, 114, 101, 115, 117, 108, 116, 32, 111, 102, 32, 40, 108, 101, 110, 40, 120, 41, 32, 42, 32, 99, 111, 117, 110, 116, 41, 32, 111, 118, 101, 114, 102, 108, 111, 119, 115]))) w4 fun v27 w6 =>
      False)
    (k2 [] w4)) fun s2 j2 w5 =>
  convI .i64 v20 fun v29 =>
  semP c.P (Instr.makeSlice c.t_sl_api_Path v29 v29) w5 fun v30 w7 =>
  semP c.P (Builtin.copy_ #[c.t_sl_api_Path, c.t_sl_api_Path] c.t_int #[v30, a0]) w7 fun v33 w8 =>
  loopP (fun nx3 s3 j3 w9 =>
    lenP v30 fun v36 =>
    binP .lss (g s3 0) v36 fun v37 =>
    condP v37
      (pureP c.P (Instr.sliceAt c.t_sl_api_Path v30 (some (g s3 0)) none none) fun v41 =>
        pureP c.P (Instr.sliceAt c.t_sl_api_Path v30 none (some (g s3 0)) none) fun v44 =>
        semP c.P (Builtin.copy_ #[c.t_sl_api_Path, c.t_sl_api_Path] c.t_int #[v41, v44]) w9.drew fun v45 w10 =>
        binP .add (g s3 0) v45 fun v46 =>
        nx3 [v46] w10)
      (R v30 w9)) [v33] w8

/-- beadlayer/bllaw1.pathed -/
def wp_bllaw1_pathed (c : Cfg) (w : World) (R : Value → World → Prop) : Prop :=
  pureP c.P (Instr.build c.t_api_Point #[]) fun v5 =>
  pureP c.P (Instr.build c.t_api_Point #[(0, (.int .i64 3)), (1, (.int .i64 2))]) fun v6 =>
  semP c.P (Instr.buildSlice c.t_sl_api_Point 2 #[(0, v5), (1, v6)]) w fun v7 w1 =>
  pureP c.P (Instr.build c.t_api_Path #[(0, v7)]) fun v8 =>
  semP c.P (Instr.buildSlice c.t_sl_api_Path 1 #[(0, v8)]) w1 fun v9 w2 =>
  Ret c.P c.f_path_Long #[v9] w2 fun v10 w3 =>
  exP 0 v10 fun v11 =>
  exP 1 v10 fun v12 =>
  exP 2 v10 fun v13 =>
  joinP (fun k0 =>
    binP .eql v13 (.int .i64 0) fun v15 =>
    guardP v15 true
      (binP .eql v12 (.int .i64 3) fun v18 =>
        guardP v18 true
          (semP c.P (Instr.buildSlice c.t_sl_int 1 #[(0, (.int .i64 3))]) w3 fun v22 w5 =>
            Ret c.P c.f_slices_Equal_sl_int_int #[v11, v22] w5 fun v23 w6 =>
            k0 [v23] w6)
          (k0 [(.bool false)] w3))
      (k0 [(.bool false)] w3)) fun s0 j0 w4 =>
  R (g s0 0) w4

/-- (*beadlayer/blmake.Stream).Range -/
def wp_p_blmake_Stream_Range (c : Cfg) (a0 a1 a2 : Value) (w : World) (R : Value → World → Prop) : Prop :=
  binP .lss a2 a1 fun v9 =>
  condP v9
    (R a1 w)
    (binP .sub a2 a1 fun v15 =>
      binP .add v15 (.int .i64 1) fun v16 =>
      Ret c.P c.f_p_blmake_Stream_Next #[a0, v16] w fun v17 w1 =>
      binP .add a1 v17 fun v18 =>
      R v18 w1)

/-- (*beadlayer/blmake.Stream).Odd -/
def wp_p_blmake_Stream_Odd (c : Cfg) (a0 a1 a2 : Value) (w : World) (R : Value → World → Prop) : Prop :=
  Ret c.P c.f_p_blmake_Stream_Flip #[a0, (.int .i64 12)] w fun v8 w1 =>
  condP v8
    (binP .sub a1 (.int .i64 1) fun v11 =>
      binP .add a2 (.int .i64 1) fun v13 =>
      semP c.P (Instr.buildSlice c.t_sl_int 6 #[(0, v11), (1, v13), (2, a1), (3, a2), (4, (.int .i64 (-1099511627776))), (5, (.int .i64 1099511627776))]) w1 fun v16 w2 =>
      Ret c.P c.f_p_blmake_Stream_Pick #[a0, v16] w2 fun v17 w3 =>
      R v17 w3)
    (Ret c.P c.f_p_blmake_Stream_Range #[a0, a1, a2] w1 fun v21 w4 =>
      R v21 w4)

/-- (*beadlayer/blmake.Stream).Pick -/
def wp_p_blmake_Stream_Pick (c : Cfg) (a0 a1 : Value) (w : World) (R : Value → World → Prop) : Prop :=
  lenP a1 fun v8 =>
  Ret c.P c.f_p_blmake_Stream_Next #[a0, v8] w fun v9 w1 =>
  idxP 1 a1 v9 fun v10 =>
  ld v10 w1 fun v11 =>
  R v11 w1

/-- (*beadlayer/blmake.Stream).Next -/
def wp_p_blmake_Stream_Next (c : Cfg) (a0 a1 : Value) (w : World) (R : Value → World → Prop) : Prop :=
  nilP a0 fun v8 =>
  offP 1 v8 fun v9 =>
  ld v9 w fun v10 =>
  binP .add v10 (.int .i64 1) fun v11 =>
  nilP a0 fun v12 =>
  offP 1 v12 fun v13 =>
  st v13 v11 w fun w1 =>
  nilP a0 fun v15 =>
  offP 0 v15 fun v16 =>
  ld v16 w1 fun v17 =>
  lenP v17 fun v18 =>
  binP .eql v18 (.int .i64 0) fun v19 =>
  condP v19
    (nilP a0 fun v21 =>
      offP 1 v21 fun v22 =>
      ld v22 w1 fun v23 =>
      binP .mul v23 (.int .i64 7919) fun v24 =>
      Ret c.P c.f_blmake_Below #[v24, a1] w1 fun v26 w2 =>
      R v26 w2)
    (nilP a0 fun v28 =>
      offP 1 v28 fun v29 =>
      ld v29 w1.drew fun v30 =>
      binP .sub v30 (.int .i64 1) fun v31 =>
      nilP a0 fun v33 =>
      offP 0 v33 fun v34 =>
      ld v34 w1.drew fun v35 =>
      lenP v35 fun v36 =>
      binP .rem v31 v36 fun v37 =>
      nilP a0 fun v39 =>
      offP 1 v39 fun v40 =>
      ld v40 w1.drew.drew fun v41 =>
      binP .sub v41 (.int .i64 1) fun v42 =>
      nilP a0 fun v44 =>
      offP 0 v44 fun v45 =>
      ld v45 w1.drew.drew fun v46 =>
      lenP v46 fun v47 =>
      binP .quo v42 v47 fun v48 =>
      nilP a0 fun v50 =>
      offP 0 v50 fun v51 =>
      ld v51 w1.drew.drew fun v52 =>
      idxP 1 v52 v37 fun v54 =>
      ld v54 w1.drew.drew fun v55 =>
      Ret c.P c.f_blmake_Below #[v55, (.int .i64 1073741824)] w1.drew.drew fun v56 w3 =>
      binP .add (.int .i64 7919) v37 fun v59 =>
      binP .mul v48 v59 fun v60 =>
      binP .add v56 v60 fun v61 =>
      Ret c.P c.f_blmake_Below #[v61, a1] w3 fun v63 w4 =>
      R v63 w4)

/-- (*beadlayer/blmake.Stream).Order -/
def wp_p_blmake_Stream_Order (c : Cfg) (a0 a1 : Value) (w : World) (R : Value → World → Prop) : Prop :=
  loopP (fun nx0 s0 j0 w1 =>
    binP .lss (g s0 1) a1 fun v11 =>
    condP v11
      (semP c.P (Instr.buildSlice c.t_sl_int 1 #[(0, (g s0 1))]) w1 fun v15 w2 =>
        semP c.P (Builtin.append_ #[c.t_sl_int, c.t_sl_int] c.t_sl_int #[(g s0 0), v15]) w2 fun v16 w3 =>
        binP .add (g s0 1) (.int .i64 1) fun v17 =>
        nx0 [v16, v17] w3)
      (binP .sub a1 (.int .i64 1) fun v19 =>
        loopP (fun nx1 s1 j1 w4 =>
          binP .gtr (g s1 0) (.int .i64 0) fun v21 =>
          condP v21
            (binP .add (g s1 0) (.int .i64 1) fun v26 =>
              Ret c.P c.f_p_blmake_Stream_Next #[a0, v26] w4 fun v27 w5 =>
              idxP 1 (g s0 0) v27 fun v34 =>
              ld v34 w5.drew fun v35 =>
              idxP 1 (g s0 0) (g s1 0) fun v38 =>
              ld v38 w5.drew fun v39 =>
              idxP 1 (g s0 0) (g s1 0) fun v40 =>
              st v40 v35 w5.drew fun w6 =>
              idxP 1 (g s0 0) v27 fun v41 =>
              st v41 v39 w6 fun w7 =>
              binP .sub (g s1 0) (.int .i64 1) fun v23 =>
              nx1 [v23] w7)
            (R (g s0 0) w4)) [v19] w1)) [(.slice none 0 0), (.int .i64 0)] w

/-- (*beadlayer/blmake.Stream).AVisit -/
def wp_p_blmake_Stream_AVisit (c : Cfg) (a0 a1 a2 : Value) (w : World) (R : Value → World → Prop) : Prop :=
  newP c.t_api_Visit #[(.int .i64 0), (.int .i64 0), (.bool false)] w fun v6 w1 =>
  pureP c.P (Instr.build c.t_api_Visit #[(0, a2)]) fun v9 =>
  newP c.t_api_Visit #[(.int .i64 0), (.int .i64 0), (.bool false)] w1 fun v7 w2 =>
  stA 3 v7 v9 w2 fun w3 =>
  joinP (fun k0 =>
    binP .geq a2 (.int .i64 0) fun v11 =>
    guardP v11 true
      (lenP a1 fun v15 =>
        binP .lss a2 v15 fun v16 =>
        k0 [v16] w3)
      (k0 [(.bool false)] w3)) fun s0 j0 w4 =>
  joinP (fun k1 => condP (g s0 0)
    (idxP 2 a1 a2 fun v20 =>
      offP 1 v20 fun v21 =>
      ld v21 w4 fun v22 =>
      joinP (fun k2 => condP v22
        (idxP 2 a1 a2 fun v26 =>
          offP 0 v26 fun v27 =>
          ld v27 w4 fun v28 =>
          lenP v28 fun v29 =>
          Ret c.P c.f_p_blmake_Stream_Next #[a0, v29] w4 fun v30 w7 =>
          offP 1 v7 fun v31 =>
          st v31 v30 w7 fun w8 =>
          k2 [] w8)
        (Ret c.P c.f_p_blmake_Stream_Flip #[a0, (.int .i64 2)] w4 fun v33 w9 =>
          offP 2 v7 fun v34 =>
          st v34 v33 w9 fun w10 =>
          k2 [] w10)) fun s2 j2 w6 =>
      k1 [] w6)
    (k1 [] w4)) fun s1 j1 w5 =>
  Ret c.P c.f_p_blmake_Stream_Flip #[a0, (.int .i64 25)] w5 fun v36 w11 =>
  joinP (fun k3 => condP v36
    (joinP (fun k4 =>
        heldP fun S => S w11.drew ∧
        offP 0 v7 fun v38 =>
        ldS S v38 fun v39 =>
        lenP a1 fun v41 =>
        offP 1 v7 fun v45 =>
        ldS S v45 fun v46 =>
        (semP c.P (Instr.buildSlice c.t_sl_int 4 #[(0, v39), (1, (.int .i64 (-1))), (2, v41), (3, (.int .i64 0))]) w11.drew fun v42 w14 => S w14 ∧
          (Ret c.P c.f_p_blmake_Stream_Pick #[a0, v42] w14 fun v43 w15 => S w15 ∧
            offP 0 v7 fun v51 =>
            semP c.P (Instr.buildSlice c.t_sl_int 4 #[(0, v46), (1, (.int .i64 1)), (2, (.int .i64 (-1))), (3, (.int .i64 9))]) w15 fun v47 w16 => S w16 ∧
            Ret c.P c.f_p_blmake_Stream_Pick #[a0, v47] w16 fun v48 w17 => S w17 ∧
            Ret c.P c.f_p_blmake_Stream_Flip #[a0, (.int .i64 2)] w17 fun v50 w18 => S w18 ∧
            st v51 v43 w18 fun w19 =>
            offP 1 v7 fun v52 =>
            st v52 v48 w19 fun w20 =>
            offP 2 v7 fun v53 =>
            st v53 v50 w20 fun w21 =>
            k4 [] w21)
          ∧ (semP c.P (Instr.buildSlice c.t_sl_int 4 #[(0, v46), (1, (.int .i64 1)), (2, (.int .i64 (-1))), (3, (.int .i64 9))]) w14 fun v47_1 w22 => S w22 ∧
            Ret c.P c.f_p_blmake_Stream_Pick #[a0, v42] w22 fun v43_1 w23 => S w23 ∧
            offP 0 v7 fun v51_1 =>
            Ret c.P c.f_p_blmake_Stream_Pick #[a0, v47_1] w23 fun v48_1 w24 => S w24 ∧
            Ret c.P c.f_p_blmake_Stream_Flip #[a0, (.int .i64 2)] w24 fun v50_1 w25 => S w25 ∧
            st v51_1 v43_1 w25 fun w26 =>
            offP 1 v7 fun v52_1 =>
            st v52_1 v48_1 w26 fun w27 =>
            offP 2 v7 fun v53_1 =>
            st v53_1 v50_1 w27 fun w28 =>
            k4 [] w28))
        ∧ (semP c.P (Instr.buildSlice c.t_sl_int 4 #[(0, v46), (1, (.int .i64 1)), (2, (.int .i64 (-1))), (3, (.int .i64 9))]) w11.drew fun v47_2 w29 => S w29 ∧
          semP c.P (Instr.buildSlice c.t_sl_int 4 #[(0, v39), (1, (.int .i64 (-1))), (2, v41), (3, (.int .i64 0))]) w29 fun v42_1 w30 => S w30 ∧
          Ret c.P c.f_p_blmake_Stream_Pick #[a0, v42_1] w30 fun v43_2 w31 => S w31 ∧
          offP 0 v7 fun v51_2 =>
          Ret c.P c.f_p_blmake_Stream_Pick #[a0, v47_2] w31 fun v48_2 w32 => S w32 ∧
          Ret c.P c.f_p_blmake_Stream_Flip #[a0, (.int .i64 2)] w32 fun v50_2 w33 => S w33 ∧
          st v51_2 v43_2 w33 fun w34 =>
          offP 1 v7 fun v52_2 =>
          st v52_2 v48_2 w34 fun w35 =>
          offP 2 v7 fun v53_2 =>
          st v53_2 v50_2 w35 fun w36 =>
          k4 [] w36)) fun s4 j4 w13 =>
      k3 [] w13)
    (k3 [] w11)) fun s3 j3 w12 =>
  ldA 3 v7 w12 fun v54 =>
  stA 3 v6 v54 w12 fun w37 =>
  ldA 3 v6 w37 fun v6_1 =>
  R v6_1 w37

/-- beadlayer/blref1.in -/
def wp_blref1_in (c : Cfg) (a0 a1 a2 : Value) (w : World) (R : Value → World → Prop) : Prop :=
  joinP (fun k0 =>
    binP .leq a1 a0 fun v9 =>
    guardP v9 true
      (binP .leq a0 a2 fun v13 =>
        k0 [v13] w)
      (k0 [(.bool false)] w)) fun s0 j0 w1 =>
  R (g s0 0) w1

/-- beadlayer/blref1.pathFault -/
def wp_blref1_pathFault (c : Cfg) (a0 : Value) (w : World) (R : Value → World → Prop) : Prop :=
  newP c.t_api_Path (Value.cells a0) w fun v1 w1 =>
  offP 0 v1 fun v4 =>
  ld v4 w1 fun v5 =>
  lenP v5 fun v6 =>
  binP .eql v6 (.int .i64 0) fun v7 =>
  condP v7
    (R (.int .i64 8) w1)
    (offP 0 v1 fun v9 =>
      ld v9 w1 fun v10 =>
      lenP v10 fun v11 =>
      binP .gtr v11 (.int .i64 500) fun v12 =>
      condP v12
        (R (.int .i64 2) w1)
        (joinP (fun k0 =>
            offP 1 v1 fun v14 =>
            ld v14 w1 fun v15 =>
            guardP v15 true
              (offP 0 v1 fun v17 =>
                ld v17 w1 fun v18 =>
                lenP v18 fun v19 =>
                binP .lss v19 (.int .i64 3) fun v20 =>
                k0 [v20] w1)
              (k0 [(.bool false)] w1)) fun s0 j0 w2 =>
          condP (g s0 0)
            (R (.int .i64 3) w2)
            (offP 0 v1 fun v22 =>
              ld v22 w2 fun v23 =>
              Ret c.P c.f_blref1_PointFault #[v23] w2 fun v24 w3 =>
              R v24 w3)))

/-- slices.Contains[[]int,int] -/
def wp_slices_Contains_sl_int_int (c : Cfg) (a0 a1 : Value) (w : World) (R : Value → World → Prop) : Prop :=
  Ret c.P c.f_slices_Index_sl_int_int #[a0, a1] w fun v7 w1 =>
  binP .geq v7 (.int .i64 0) fun v8 =>
  R v8 w1

/-- beadlayer/blref1.visitFault -/
def wp_blref1_visitFault (c : Cfg) (a0 a1 a2 : Value) (w : World) (R : Value → World → Prop) : Prop :=
  newP c.t_api_Visit (Value.cells a2) w fun v5 w1 =>
  offP 0 v5 fun v8 =>
  ld v8 w1 fun v9 =>
  lenP a0 fun v11 =>
  binP .sub v11 (.int .i64 1) fun v12 =>
  Ret c.P c.f_blref1_in #[v9, (.int .i64 0), v12] w1 fun v13 w2 =>
  notP v13 fun v14 =>
  condP v14
    (R (.int .i64 1) w2)
    (offP 0 v5 fun v16 =>
      ld v16 w2 fun v17 =>
      idxP 2 a0 v17 fun v18 =>
      ldA 2 v18 w2 fun v19 =>
      newP c.t_api_Path #[(.slice none 0 0), (.bool false)] w2 fun v7 w3 =>
      stA 2 v7 v19 w3 fun w4 =>
      Ret c.P c.f_slices_ContainsFunc_sl_api_Visit_api_Visit #[a1, (.func (.func c.f_blref1_visitFault_1) #[] #[v5])] w4 fun v23 w5 =>
      condP v23
        (R (.int .i64 6) w5)
        (joinP (fun k0 =>
            offP 1 v7 fun v25 =>
            ld v25 w5 fun v26 =>
            guardP v26 true
              (offP 2 v5 fun v28 =>
                ld v28 w5 fun v29 =>
                guardP v29 false
                  (offP 1 v7 fun v32 =>
                    ld v32 w5 fun v33 =>
                    notP v33 fun v34 =>
                    guardP v34 true
                      (offP 1 v5 fun v36 =>
                        ld v36 w5 fun v37 =>
                        binP .neq v37 (.int .i64 0) fun v38 =>
                        k0 [v38] w5)
                      (k0 [(.bool false)] w5))
                  (k0 [(.bool true)] w5))
              (offP 1 v7 fun v32_1 =>
                ld v32_1 w5 fun v33_1 =>
                notP v33_1 fun v34_1 =>
                guardP v34_1 true
                  (offP 1 v5 fun v36_1 =>
                    ld v36_1 w5 fun v37_1 =>
                    binP .neq v37_1 (.int .i64 0) fun v38_1 =>
                    k0 [v38_1] w5)
                  (k0 [(.bool false)] w5))) fun s0 j0 w6 =>
          condP (g s0 0)
            (R (.int .i64 3) w6)
            (offP 1 v5 fun v41 =>
              ld v41 w6 fun v42 =>
              offP 0 v7 fun v43 =>
              ld v43 w6 fun v44 =>
              lenP v44 fun v45 =>
              binP .sub v45 (.int .i64 1) fun v46 =>
              Ret c.P c.f_blref1_SpanFault #[v42, (.int .i64 0), v46] w6 fun v47 w7 =>
              R v47 w7)))

/-- beadlayer/path.startPathsFault -/
def wp_path_startPathsFault (c : Cfg) (a0 a1 : Value) (w : World) (R : Value → World → Prop) : Prop :=
  newP c.t_api_Point (Value.cells a0) w fun v2 w1 =>
  ldA 2 v2 w1 fun v5 =>
  Ret c.P c.f_region_IsFar #[v5] w1 fun v6 w2 =>
  condP v6
    (R (.int .i64 1) w2)
    (Ret c.P c.f_path_CheckPaths #[a1] w2 fun v8 w3 =>
      R v8 w3)

/-- beadlayer/path.choices -/
def wp_path_choices (c : Cfg) (a0 a1 : Value) (w : World) (R : Value → World → Prop) : Prop :=
  idxP 2 a0 a1 fun v14 =>
  offP 1 v14 fun v15 =>
  ld v15 w fun v16 =>
  joinP (fun k0 => condP v16
    (idxP 2 a0 a1 fun v19 =>
      offP 0 v19 fun v20 =>
      ld v20 w fun v21 =>
      lenP v21 fun v22 =>
      loopP (fun nx1 s1 j1 w3 =>
        binP .lss (g s1 1) v22 fun v24 =>
        condP v24
          (pureP c.P (Instr.build c.t_api_Visit #[(0, a1), (1, (g s1 1))]) fun v29 =>
            semP c.P (Instr.buildSlice c.t_sl_api_Visit 1 #[(0, v29)]) w3 fun v30 w4 =>
            semP c.P (Builtin.append_ #[c.t_sl_api_Visit, c.t_sl_api_Visit] c.t_sl_api_Visit #[(g s1 0), v30]) w4 fun v31 w5 =>
            binP .add (g s1 1) (.int .i64 1) fun v32 =>
            nx1 [v31, v32] w5)
          (k0 [(g s1 0)] w3)) [(.slice none 0 0), (.int .i64 0)] w)
    (pureP c.P (Instr.build c.t_api_Visit #[(0, a1)]) fun v34 =>
      pureP c.P (Instr.build c.t_api_Visit #[(0, a1), (2, (.bool true))]) fun v36 =>
      semP c.P (Instr.buildSlice c.t_sl_api_Visit 2 #[(0, v34), (1, v36)]) w fun v37 w2 =>
      k0 [v37] w2)) fun s0 j0 w1 =>
  lenP (g s0 0) fun v39 =>
  loopP (fun nx2 s2 j2 w6 =>
    binP .lss (g s2 1) v39 fun v41 =>
    condP v41
      (idxP 3 (g s0 0) (g s2 1) fun v42 =>
        ldA 3 v42 w6 fun v43 =>
        newP c.t_api_Visit #[(.int .i64 0), (.int .i64 0), (.bool false)] w6 fun v9 w7 =>
        stA 3 v9 v43 w7 fun w8 =>
        ldA 3 v9 w8 fun v46 =>
        Ret c.P c.f_path_ends #[a0, v46] w8 fun v47 w9 =>
        exP 0 v47 fun v48 =>
        exP 1 v47 fun v49 =>
        newP c.t_api_Point #[(.int .i64 0), (.int .i64 0)] w9 fun v10 w10 =>
        newP c.t_api_Point #[(.int .i64 0), (.int .i64 0)] w10 fun v11 w11 =>
        stA 2 v10 v48 w11 fun w12 =>
        stA 2 v11 v49 w12 fun w13 =>
        ldA 3 v9 w13 fun v51 =>
        ldA 2 v10 w13 fun v52 =>
        ldA 2 v11 w13 fun v53 =>
        pureP c.P (Instr.build c.t_path_choice #[(0, v51), (1, v52), (2, v53)]) fun v54 =>
        semP c.P (Instr.buildSlice c.t_sl_path_choice 1 #[(0, v54)]) w13 fun v55 w14 =>
        semP c.P (Builtin.append_ #[c.t_sl_path_choice, c.t_sl_path_choice] c.t_sl_path_choice #[(g s2 0), v55]) w14 fun v56 w15 =>
        binP .add (g s2 1) (.int .i64 1) fun v57 =>
        nx2 [v56, v57] w15)
      (R (g s2 0) w6)) [(.slice none 0 0), (.int .i64 0)] w1

/-- (*beadlayer/path.finder).next -/
def wp_p_path_finder_next (c : Cfg) (a0 a1 a2 : Value) (w : World) (R : Value → World → Prop) : Prop :=
  newP c.t_api_Point (Value.cells a1) w fun v4 w1 =>
  nilP a0 fun v12 =>
  offP 0 v12 fun v13 =>
  ld v13 w1 fun v14 =>
  lenP v14 fun v15 =>
  loopP (fun nx0 s0 j0 w2 =>
    binP .lss (g s0 2) v15 fun v17 =>
    condP v17
      (joinP (fun k1 =>
          idxP 7 v14 (g s0 2) fun v19 =>
          ldA 7 v19 w2 fun v20 =>
          newP c.t_path_choice #[(.int .i64 0), (.int .i64 0), (.bool false), (.int .i64 0), (.int .i64 0), (.int .i64 0), (.int .i64 0)] w2 fun v9 w4 =>
          stA 7 v9 v20 w4 fun w5 =>
          offP 0 v9 fun v22 =>
          offP 0 v22 fun v23 =>
          ld v23 w5 fun v24 =>
          pureP c.P (do eqGuard .shr c.t_int (.tmp 21) (.tmp 24) a2 v24; binOp .shr c.t_int a2 v24) fun v25 =>
          pureP c.P (do eqGuard .and c.t_int (.tmp 25) (.const (.int .i64 1)) v25 (.int .i64 1); binOp .and c.t_int v25 (.int .i64 1)) fun v26 =>
          binP .eql v26 (.int .i64 0) fun v27 =>
          condP v27
            (k1 [(g s0 0), (g s0 1)] w5)
            (joinP (fun k2 =>
                heldP fun S => S w5.drew ∧
                ldAS S 2 v4 fun v28 =>
                offP 3 v9 fun v29 =>
                ldAS S 2 v29 fun v30 =>
                nilP a0 fun v33 =>
                offP 1 v33 fun v34 =>
                ldS S v34 fun v35 =>
                idxP 1 v35 (g s0 2) fun v37 =>
                ldS S v37 fun v38 =>
                offP 0 v9 fun v40 =>
                offP 0 v40 fun v41 =>
                ldS S v41 fun v42 =>
                pureP c.P (do eqGuard .shl c.t_int (.const (.int .i64 1)) (.tmp 42) (.int .i64 1) v42; binOp .shl c.t_int (.int .i64 1) v42) fun v43 =>
                pureP c.P (do eqGuard .andNot c.t_int (.tmp 39) (.tmp 43) a2 v43; binOp .andNot c.t_int a2 v43) fun v44 =>
                (Ret c.P c.f_path_Distance #[v28, v30] w5.drew fun v31 w7 => S w7 ∧
                  semP c.P (Instr.lookup c.t_map_int_int v38 v44 false) w7 fun v45 w8 => S w8 ∧
                  binP .add v31 v45 fun v46 =>
                  k2 [v46] w8)
                ∧ (semP c.P (Instr.lookup c.t_map_int_int v38 v44 false) w5.drew fun v45_1 w9 => S w9 ∧
                  Ret c.P c.f_path_Distance #[v28, v30] w9 fun v31_1 w10 => S w10 ∧
                  binP .add v31_1 v45_1 fun v46_1 =>
                  k2 [v46_1] w10)) fun s2 j2 w6 =>
              joinP (fun k3 =>
                binP .lss (g s0 0) (.int .i64 0) fun v48 =>
                guardP v48 false
                  (binP .lss (g s2 0) (g s0 1) fun v52 =>
                    k3 [v52] w6)
                  (k3 [(.bool true)] w6)) fun s3 j3 w11 =>
              joinP (fun k4 => condP (g s3 0)
                (k4 [(g s0 2), (g s2 0)] w11)
                (k4 [(g s0 0), (g s0 1)] w11)) fun s4 j4 w12 =>
              k1 [(g s4 0), (g s4 1)] w12)) fun s1 j1 w3 =>
        binP .add (g s0 2) (.int .i64 1) fun v56 =>
        nx0 [(g s1 0), (g s1 1), v56] w3)
      (R (.tuple #[(g s0 0), (g s0 1)]) w2)) [(.int .i64 (-1)), (.int .i64 0), (.int .i64 0)] w1

/-- beadlayer/path.travel -/
def wp_path_travel (c : Cfg) (a0 a1 a2 : Value) (w : World) (R : Value → World → Prop) : Prop :=
  newP c.t_api_Point (Value.cells a0) w fun v3 w1 =>
  lenP a2 fun v13 =>
  loopP (fun nx0 s0 j0 w2 =>
    binP .lss (g s0 1) v13 fun v15 =>
    condP v15
      (idxP 3 a2 (g s0 1) fun v16 =>
        ldA 3 v16 w2 fun v17 =>
        newP c.t_api_Visit #[(.int .i64 0), (.int .i64 0), (.bool false)] w2 fun v9 w3 =>
        stA 3 v9 v17 w3 fun w4 =>
        ldA 3 v9 w4 fun v20 =>
        Ret c.P c.f_path_ends #[a1, v20] w4 fun v21 w5 =>
        exP 0 v21 fun v22 =>
        exP 1 v21 fun v23 =>
        newP c.t_api_Point #[(.int .i64 0), (.int .i64 0)] w5 fun v10 w6 =>
        newP c.t_api_Point #[(.int .i64 0), (.int .i64 0)] w6 fun v11 w7 =>
        stA 2 v10 v22 w7 fun w8 =>
        stA 2 v11 v23 w8 fun w9 =>
        ldA 2 v3 w9 fun v25 =>
        ldA 2 v10 w9 fun v26 =>
        Ret c.P c.f_path_Distance #[v25, v26] w9 fun v27 w10 =>
        binP .add (g s0 0) v27 fun v28 =>
        ldA 2 v11 w10 fun v29 =>
        stA 2 v3 v29 w10 fun w11 =>
        binP .add (g s0 1) (.int .i64 1) fun v30 =>
        nx0 [v28, v30] w11)
      (R (g s0 0) w2)) [(.int .i64 0), (.int .i64 0)] w1

/-- beadlayer/path.Distance -/
def wp_path_Distance (c : Cfg) (a0 a1 : Value) (w : World) (R : Value → World → Prop) : Prop :=
  newP c.t_api_Point (Value.cells a0) w fun v2 w1 =>
  newP c.t_api_Point (Value.cells a1) w1 fun v3 w2 =>
  heldP fun S => S w2.drew ∧
  offP 0 v2 fun v5 =>
  ldS S v5 fun v6 =>
  offP 0 v3 fun v7 =>
  ldS S v7 fun v8 =>
  binP .sub v6 v8 fun v9 =>
  offP 1 v2 fun v11 =>
  ldS S v11 fun v12 =>
  offP 1 v3 fun v13 =>
  ldS S v13 fun v14 =>
  binP .sub v12 v14 fun v15 =>
  Ret c.P c.f_path_abs #[v9] w2.drew fun v10 w3 => S w3 ∧
  Ret c.P c.f_path_abs #[v15] w3 fun v16 w4 => S w4 ∧
  pureP c.P (Builtin.max_ #[c.t_int, c.t_int] c.t_int #[v10, v16]) fun v17 =>
  R v17 w4

/-- beadlayer/path.indicesFault -/
def wp_path_indicesFault (c : Cfg) (a0 a1 : Value) (w : World) (R : Value → World → Prop) : Prop :=
  lenP a1 fun v9 =>
  binP .neq v9 a0 fun v11 =>
  condP v11
    (R (.int .i64 3) w)
    (semP c.P (Instr.makeSlice c.t_sl_bool a0 a0) w fun v13 w1 =>
      lenP a1 fun v15 =>
      loopP (fun nx0 s0 j0 w2 =>
        binP .lss (g s0 0) v15 fun v17 =>
        condP v17
          (idxP 1 a1 (g s0 0) fun v18 =>
            ld v18 w2 fun v19 =>
            joinP (fun k1 =>
              binP .lss v19 (.int .i64 0) fun v21 =>
              guardP v21 false
                (binP .geq v19 a0 fun v25 =>
                  k1 [v25] w2)
                (k1 [(.bool true)] w2)) fun s1 j1 w3 =>
            condP (g s1 0)
              (R (.int .i64 1) w3)
              (idxP 1 v13 v19 fun v29 =>
                ld v29 w3 fun v30 =>
                condP v30
                  (R (.int .i64 6) w3)
                  (idxP 1 v13 v19 fun v33 =>
                    st v33 (.bool true) w3 fun w4 =>
                    binP .add (g s0 0) (.int .i64 1) fun v34 =>
                    nx0 [v34] w4)))
          (R (.int .i64 0) w2)) [(.int .i64 0)] w1)

/-- beadlayer/path.nearest -/
def wp_path_nearest (c : Cfg) (a0 a1 a2 : Value) (w : World) (R : Value → World → Prop) : Prop :=
  newP c.t_api_Point (Value.cells a0) w fun v3 w1 =>
  newP c.t_path_way #[(.int .i64 0), (.int .i64 0)] w1 fun v6 w2 =>
  pureP c.P (Instr.build c.t_path_way #[(0, (.int .i64 (-1))), (1, (.int .i64 0))]) fun v11 =>
  newP c.t_path_way #[(.int .i64 0), (.int .i64 0)] w2 fun v7 w3 =>
  stA 2 v7 v11 w3 fun w4 =>
  lenP a1 fun v13 =>
  loopP (fun nx0 s0 j0 w5 =>
    binP .lss (g s0 0) v13 fun v15 =>
    condP v15
      (joinP (fun k1 =>
          idxP 7 a1 (g s0 0) fun v17 =>
          ldA 7 v17 w5 fun v18 =>
          newP c.t_path_choice #[(.int .i64 0), (.int .i64 0), (.bool false), (.int .i64 0), (.int .i64 0), (.int .i64 0), (.int .i64 0)] w5 fun v9 w7 =>
          stA 7 v9 v18 w7 fun w8 =>
          heldP fun S => S w8.drew ∧
          ldAS S 2 v3 fun v19 =>
          offP 3 v9 fun v20 =>
          ldAS S 2 v20 fun v21 =>
          idxP 1 a2 (g s0 0) fun v25 =>
          ldS S v25 fun v26 =>
          Ret c.P c.f_path_Distance #[v19, v21] w8.drew fun v22 w9 => S w9 ∧
          binP .add v22 v26 fun v27 =>
          joinP (fun k2 =>
            offP 0 v7 fun v28 =>
            ld v28 w9 fun v29 =>
            binP .lss v29 (.int .i64 0) fun v30 =>
            guardP v30 false
              (offP 1 v7 fun v33 =>
                ld v33 w9 fun v34 =>
                binP .lss v27 v34 fun v35 =>
                k2 [v35] w9)
              (k2 [(.bool true)] w9)) fun s2 j2 w10 =>
          joinP (fun k3 => condP (g s2 0)
            (pureP c.P (Instr.build c.t_path_way #[(0, (g s0 0)), (1, v27)]) fun v39 =>
              stA 2 v7 v39 w10 fun w12 =>
              k3 [] w12)
            (k3 [] w10)) fun s3 j3 w11 =>
          k1 [] w11) fun s1 j1 w6 =>
        binP .add (g s0 0) (.int .i64 1) fun v40 =>
        nx0 [v40] w6)
      (ldA 2 v7 w5 fun v41 =>
        stA 2 v6 v41 w5 fun w13 =>
        ldA 2 v6 w13 fun v6_1 =>
        R v6_1 w13)) [(.int .i64 0)] w4

/-- beadlayer/path.startFault -/
def wp_path_startFault (c : Cfg) (a0 a1 a2 : Value) (w : World) (R : Value → World → Prop) : Prop :=
  newP c.t_api_Point (Value.cells a0) w fun v3 w1 =>
  ldA 2 v3 w1 fun v7 =>
  Ret c.P c.f_region_IsFar #[v7] w1 fun v8 w2 =>
  condP v8
    (R (.int .i64 1) w2)
    (Ret c.P c.f_path_CheckOrder #[a1, a2] w2 fun v11 w3 =>
      R v11 w3)

/-- slices.Clone[[]beadlayer/api.Visit,beadlayer/api.Visit] -/
def wp_slices_Clone_sl_api_Visit_api_Visit (c : Cfg) (a0 : Value) (w : World) (R : Value → World → Prop) : Prop :=
  pureP c.P (do eqGuard .eql c.t_sl_api_Visit (.tmp 3) (.const (.slice none 0 0)) a0 (.slice none 0 0); binOp .eql c.t_sl_api_Visit a0 (.slice none 0 0)) fun v4 =>
  condP v4
    (R (.slice none 0 0) w)
    (semP c.P (Instr.buildSlice c.t_sl_api_Visit 0 #[]) w fun v5 w1 =>
      semP c.P (Builtin.append_ #[c.t_sl_api_Visit, c.t_sl_api_Visit] c.t_sl_api_Visit #[v5, a0]) w1 fun v7 w2 =>
      R v7 w2)

/-- beadlayer/path.exchange -/
def wp_path_exchange (c : Cfg) (a0 a1 a2 : Value) (w : World) (R : Value → World → Prop) : Prop :=
  newP c.t_api_Point (Value.cells a0) w fun v3 w1 =>
  ldA 2 v3 w1 fun v10 =>
  Ret c.P c.f_path_travel #[v10, a1, a2] w1 fun v13 w2 =>
  lenP a2 fun v15 =>
  loopP (fun nx0 s0 j0 w3 =>
    binP .lss (g s0 0) v15 fun v17 =>
    condP v17
      (binP .add (g s0 0) (.int .i64 1) fun v20 =>
        loopP (fun nx1 s1 j1 w4 =>
          lenP a2 fun v23 =>
          binP .lss (g s1 0) v23 fun v24 =>
          condP v24
            (idxP 3 a2 (g s1 0) fun v33 =>
              ldA 3 v33 w4.drew fun v34 =>
              idxP 3 a2 (g s0 0) fun v37 =>
              ldA 3 v37 w4.drew fun v38 =>
              idxP 3 a2 (g s0 0) fun v39 =>
              stA 3 v39 v34 w4.drew fun w5 =>
              idxP 3 a2 (g s1 0) fun v40 =>
              stA 3 v40 v38 w5 fun w6 =>
              ldA 2 v3 w6 fun v41 =>
              Ret c.P c.f_path_travel #[v41, a1, a2] w6 fun v44 w7 =>
              binP .lss v44 v13 fun v46 =>
              condP v46
                (R (.bool true) w7)
                (idxP 3 a2 (g s1 0) fun v53 =>
                  ldA 3 v53 w7.drew fun v54 =>
                  idxP 3 a2 (g s0 0) fun v57 =>
                  ldA 3 v57 w7.drew fun v58 =>
                  idxP 3 a2 (g s0 0) fun v59 =>
                  stA 3 v59 v54 w7.drew fun w8 =>
                  idxP 3 a2 (g s1 0) fun v60 =>
                  stA 3 v60 v58 w8 fun w9 =>
                  binP .add (g s1 0) (.int .i64 1) fun v26 =>
                  nx1 [v26] w9))
            (binP .add (g s0 0) (.int .i64 1) fun v61 =>
              nx0 [v61] w4)) [v20] w3)
      (R (.bool false) w3)) [(.int .i64 0)] w2

/-- beadlayer/blref1.search -/
def wp_blref1_search (c : Cfg) (a0 a1 a2 a3 : Value) (w : World) (R : Value → World → Prop) : Prop :=
  newP c.t_api_Point (Value.cells a0) w fun v4 w1 =>
  newP c.t_sl_api_Path (Value.cells a1) w1 fun v5 w2 =>
  newP c.t_int (Value.cells a2) w2 fun v6 w3 =>
  newP c.t_func_sl_api_Visit_sl_int (Value.cells a3) w3 fun v7 w4 =>
  newP c.t_sl_api_Visit #[(.slice none 0 0)] w4 fun v10 w5 =>
  newP c.t_int #[(.int .i64 0)] w5 fun v11 w6 =>
  st v11 (.int .i64 (-1)) w6 fun w7 =>
  newP c.t_func_sl_api_Visit_api_Point_int #[.nilFunc] w7 fun v12 w8 =>
  st v12 (.func (.func c.f_blref1_search_1) #[] #[v11, v6, v10, v7, v5, v12]) w8 fun w9 =>
  ld v12 w9 fun v14 =>
  ldA 2 v4 w9 fun v15 =>
  callV c.P v14 #[(.slice none 0 0), v15, (.int .i64 0)] w9 fun v16 w10 =>
  ld v10 w10.drew fun v17 =>
  ld v11 w10.drew fun v18 =>
  R (.tuple #[v17, v18]) w10.drew

/-- beadlayer/blref1.BestOf$1 -/
def wp_blref1_BestOf_1 (c : Cfg) (a0 a1 : Value) (w : World) (R : Value → World → Prop) : Prop :=
  ld a1 w fun v4 =>
  Ret c.P c.f_blref1_left #[v4, a0] w fun v6 w1 =>
  R v6 w1

/-- beadlayer/blref1.left -/
def wp_blref1_left (c : Cfg) (a0 a1 : Value) (w : World) (R : Value → World → Prop) : Prop :=
  lenP a0 fun v8 =>
  loopP (fun nx0 s0 j0 w1 =>
    binP .lss (g s0 1) v8 fun v10 =>
    condP v10
      (joinP (fun k1 =>
          newP c.t_int #[(.int .i64 0)] w1 fun v6 w3 =>
          st v6 (g s0 1) w3 fun w4 =>
          Ret c.P c.f_slices_ContainsFunc_sl_api_Visit_api_Visit #[a1, (.func (.func c.f_blref1_left_1) #[] #[v6])] w4 fun v14 w5 =>
          notP v14 fun v15 =>
          joinP (fun k2 => condP v15
            (ld v6 w5 fun v17 =>
              semP c.P (Instr.buildSlice c.t_sl_int 1 #[(0, v17)]) w5 fun v18 w7 =>
              semP c.P (Builtin.append_ #[c.t_sl_int, c.t_sl_int] c.t_sl_int #[(g s0 0), v18]) w7 fun v19 w8 =>
              k2 [v19] w8)
            (k2 [(g s0 0)] w5)) fun s2 j2 w6 =>
          k1 [(g s2 0)] w6) fun s1 j1 w2 =>
        binP .add (g s0 1) (.int .i64 1) fun v20 =>
        nx0 [(g s1 0), v20] w2)
      (R (g s0 0) w1)) [(.slice none 0 0), (.int .i64 0)] w

/-- beadlayer/blref1.ways -/
def wp_blref1_ways (c : Cfg) (a0 a1 : Value) (w : World) (R : Value → World → Prop) : Prop :=
  idxP 2 a0 a1 fun v9 =>
  offP 1 v9 fun v10 =>
  ld v10 w fun v11 =>
  notP v11 fun v12 =>
  condP v12
    (pureP c.P (Instr.build c.t_api_Visit #[(0, a1)]) fun v14 =>
      pureP c.P (Instr.build c.t_api_Visit #[(0, a1), (2, (.bool true))]) fun v16 =>
      semP c.P (Instr.buildSlice c.t_sl_api_Visit 2 #[(0, v14), (1, v16)]) w fun v17 w1 =>
      R v17 w1)
    (idxP 2 a0 a1 fun v20 =>
      offP 0 v20 fun v21 =>
      ld v21 w fun v22 =>
      lenP v22 fun v23 =>
      loopP (fun nx0 s0 j0 w2 =>
        binP .lss (g s0 1) v23 fun v25 =>
        condP v25
          (pureP c.P (Instr.build c.t_api_Visit #[(0, a1), (1, (g s0 1))]) fun v30 =>
            semP c.P (Instr.buildSlice c.t_sl_api_Visit 1 #[(0, v30)]) w2 fun v31 w3 =>
            semP c.P (Builtin.append_ #[c.t_sl_api_Visit, c.t_sl_api_Visit] c.t_sl_api_Visit #[(g s0 0), v31]) w3 fun v32 w4 =>
            binP .add (g s0 1) (.int .i64 1) fun v33 =>
            nx0 [v32, v33] w4)
          (R (g s0 0) w2)) [(.slice none 0 0), (.int .i64 0)] w)

/-- beadlayer/blref1.EndsOf -/
def wp_blref1_EndsOf (c : Cfg) (a0 a1 : Value) (w : World) (R : Value → World → Prop) : Prop :=
  newP c.t_api_Visit (Value.cells a1) w fun v3 w1 =>
  newP c.t_api_Point #[(.int .i64 0), (.int .i64 0)] w1 fun v4 w2 =>
  newP c.t_api_Point #[(.int .i64 0), (.int .i64 0)] w2 fun v5 w3 =>
  ldA 3 v3 w3 fun v8 =>
  Ret c.P c.f_blref1_printed #[a0, v8] w3 fun v9 w4 =>
  heldP fun S => S w4.drew ∧
  idxP 2 v9 (.int .i64 0) fun v11 =>
  ldAS S 2 v11 fun v12 =>
  lenP v9 fun v15 =>
  binP .sub v15 (.int .i64 1) fun v16 =>
  idxP 2 v9 v16 fun v17 =>
  ldAS S 2 v17 fun v18 =>
  stA 2 v4 v12 w4.drew fun w5 => S w5 ∧
  stA 2 v5 v18 w5 fun w6 =>
  ldA 2 v4 w6 fun v4_1 =>
  ldA 2 v5 w6 fun v5_1 =>
  R (.tuple #[v4_1, v5_1]) w6

/-- beadlayer/blref1.Apart -/
def wp_blref1_Apart (c : Cfg) (a0 a1 : Value) (w : World) (R : Value → World → Prop) : Prop :=
  newP c.t_api_Point (Value.cells a0) w fun v2 w1 =>
  newP c.t_api_Point (Value.cells a1) w1 fun v3 w2 =>
  offP 0 v2 fun v5 =>
  ld v5 w2 fun v6 =>
  offP 0 v3 fun v7 =>
  ld v7 w2 fun v8 =>
  binP .sub v6 v8 fun v9 =>
  offP 0 v3 fun v10 =>
  ld v10 w2 fun v11 =>
  offP 0 v2 fun v12 =>
  ld v12 w2 fun v13 =>
  binP .sub v11 v13 fun v14 =>
  offP 1 v2 fun v15 =>
  ld v15 w2 fun v16 =>
  offP 1 v3 fun v17 =>
  ld v17 w2 fun v18 =>
  binP .sub v16 v18 fun v19 =>
  offP 1 v3 fun v20 =>
  ld v20 w2 fun v21 =>
  offP 1 v2 fun v22 =>
  ld v22 w2 fun v23 =>
  binP .sub v21 v23 fun v24 =>
  pureP c.P (Builtin.max_ #[c.t_int, c.t_int, c.t_int, c.t_int] c.t_int #[v9, v14, v19, v24]) fun v25 =>
  R v25 w2

/-- beadlayer/blref1.TravelOf -/
def wp_blref1_TravelOf (c : Cfg) (a0 a1 a2 : Value) (w : World) (R : Value → World → Prop) : Prop :=
  newP c.t_api_Point (Value.cells a0) w fun v3 w1 =>
  lenP a2 fun v13 =>
  loopP (fun nx0 s0 j0 w2 =>
    binP .lss (g s0 1) v13 fun v15 =>
    condP v15
      (idxP 3 a2 (g s0 1) fun v16 =>
        ldA 3 v16 w2 fun v17 =>
        newP c.t_api_Visit #[(.int .i64 0), (.int .i64 0), (.bool false)] w2 fun v9 w3 =>
        stA 3 v9 v17 w3 fun w4 =>
        ldA 3 v9 w4 fun v20 =>
        Ret c.P c.f_blref1_EndsOf #[a1, v20] w4 fun v21 w5 =>
        exP 0 v21 fun v22 =>
        exP 1 v21 fun v23 =>
        newP c.t_api_Point #[(.int .i64 0), (.int .i64 0)] w5 fun v10 w6 =>
        newP c.t_api_Point #[(.int .i64 0), (.int .i64 0)] w6 fun v11 w7 =>
        stA 2 v10 v22 w7 fun w8 =>
        stA 2 v11 v23 w8 fun w9 =>
        ldA 2 v3 w9 fun v25 =>
        ldA 2 v10 w9 fun v26 =>
        Ret c.P c.f_blref1_Apart #[v25, v26] w9 fun v27 w10 =>
        binP .add (g s0 0) v27 fun v28 =>
        ldA 2 v11 w10 fun v29 =>
        stA 2 v3 v29 w10 fun w11 =>
        binP .add (g s0 1) (.int .i64 1) fun v30 =>
        nx0 [v28, v30] w11)
      (R (g s0 0) w2)) [(.int .i64 0), (.int .i64 0)] w1

/-- beadlayer/blref1.BegunOf$1 -/
def wp_blref1_BegunOf_1 (c : Cfg) (a0 a1 : Value) (w : World) (R : Value → World → Prop) : Prop :=
  ld a1 w fun v4 =>
  lenP a0 fun v6 =>
  lenP a0 fun v8 =>
  binP .add v8 (.int .i64 1) fun v9 =>
  pureP c.P (Instr.sliceAt c.t_sl_int v4 (some v6) (some v9) none) fun v10 =>
  R v10 w

/-- beadlayer/blref1.ImprovedOf$1 -/
def wp_blref1_ImprovedOf_1 (c : Cfg) (a0 a1 a2 : Value) (w : World) (R : Value → World → Prop) : Prop :=
  ld a0 w fun v7 =>
  lenP v7 fun v8 =>
  loopP (fun nx0 s0 j0 w1 =>
    binP .lss (g s0 0) v8 fun v10 =>
    condP v10
      (binP .add (g s0 0) (.int .i64 1) fun v13 =>
        loopP (fun nx1 s1 j1 w2 =>
          ld a0 w2 fun v15 =>
          lenP v15 fun v16 =>
          binP .lss (g s1 0) v16 fun v17 =>
          condP v17
            (ld a0 w2 fun v20 =>
              Ret c.P c.f_slices_Clone_sl_api_Visit_api_Visit #[v20] w2 fun v21 w3 =>
              idxP 3 v21 (g s1 0) fun v28 =>
              ldA 3 v28 w3.drew fun v29 =>
              idxP 3 v21 (g s0 0) fun v32 =>
              ldA 3 v32 w3.drew fun v33 =>
              idxP 3 v21 (g s0 0) fun v34 =>
              stA 3 v34 v29 w3.drew fun w4 =>
              idxP 3 v21 (g s1 0) fun v35 =>
              stA 3 v35 v33 w4 fun w5 =>
              heldP fun S => S w5.drew ∧
              ldAS S 2 a1 fun v36 =>
              ldS S a2 fun v37 =>
              ldAS S 2 a1 fun v40 =>
              ldS S a2 fun v41 =>
              ldS S a0 fun v42 =>
              Ret c.P c.f_blref1_TravelOf #[v36, v37, v21] w5.drew fun v39 w6 => S w6 ∧
              Ret c.P c.f_blref1_TravelOf #[v40, v41, v42] w6 fun v43 w7 => S w7 ∧
              binP .lss v39 v43 fun v44 =>
              condP v44
                (st a0 v21 w7 fun w8 =>
                  R (.bool true) w8)
                (binP .add (g s1 0) (.int .i64 1) fun v19 =>
                  nx1 [v19] w7))
            (binP .add (g s0 0) (.int .i64 1) fun v46 =>
              nx0 [v46] w2)) [v13] w1)
      (R (.bool false) w1)) [(.int .i64 0)] w

/-- math/bits.Mul -/
def wp_math_bits_Mul (c : Cfg) (a0 a1 : Value) (w : World) (R : Value → World → Prop) : Prop :=
  condP (.bool false)
    (convI .u32 a0 fun v12 =>
      convI .u32 a1 fun v14 =>
      Ret c.P c.f_math_bits_Mul32 #[v12, v14] w fun v15 w1 =>
      exP 0 v15 fun v16 =>
      exP 1 v15 fun v17 =>
      convI .u64 v16 fun v19 =>
      convI .u64 v17 fun v21 =>
      R (.tuple #[v19, v21]) w1)
    (Ret c.P c.f_math_bits_Mul64 #[a0, a1] w fun v25 w2 =>
      exP 0 v25 fun v26 =>
      exP 1 v25 fun v27 =>
      R (.tuple #[v26, v27]) w2)

/-- beadlayer/path.Long -/
def wp_path_Long (c : Cfg) (a0 : Value) (w : World) (R : Value → World → Prop) : Prop :=
  Ret c.P c.f_path_CheckPaths #[a0] w fun v14 w1 =>
  binP .neq v14 (.int .i64 0) fun v16 =>
  condP v16
    (R (.tuple #[(.slice none 0 0), (.int .i64 0), v14]) w1)
    (lenP a0 fun v19 =>
      loopP (fun nx0 s0 j0 w2 =>
        binP .lss (g s0 2) v19 fun v21 =>
        condP v21
          (idxP 2 a0 (g s0 2) fun v22 =>
            ldA 2 v22 w2 fun v23 =>
            newP c.t_api_Path #[(.slice none 0 0), (.bool false)] w2 fun v9 w3 =>
            stA 2 v9 v23 w3 fun w4 =>
            offP 0 v9 fun v24 =>
            ld v24 w4 fun v25 =>
            lenP v25 fun v26 =>
            loopP (fun nx1 s1 j1 w5 =>
              binP .lss (g s1 1) v26 fun v28 =>
              condP v28
                (joinP (fun k2 =>
                    idxP 2 v25 (g s1 1) fun v30 =>
                    ldA 2 v30 w5 fun v31 =>
                    newP c.t_api_Point #[(.int .i64 0), (.int .i64 0)] w5 fun v12 w7 =>
                    stA 2 v12 v31 w7 fun w8 =>
                    binP .gtr (g s1 1) (.int .i64 0) fun v33 =>
                    joinP (fun k3 => condP v33
                      (heldP fun S => S w8.drew ∧
                        offP 0 v9 fun v35 =>
                        ldS S v35 fun v36 =>
                        binP .sub (g s1 1) (.int .i64 1) fun v38 =>
                        idxP 2 v36 v38 fun v39 =>
                        ldAS S 2 v39 fun v40 =>
                        ldAS S 2 v12 fun v41 =>
                        Ret c.P c.f_path_Distance #[v40, v41] w8.drew fun v42 w10 => S w10 ∧
                        binP .add (g s1 0) v42 fun v43 =>
                        k3 [v43] w10)
                      (offP 1 v9 fun v44 =>
                        ld v44 w8 fun v45 =>
                        joinP (fun k4 => condP v45
                          (heldP fun S => S w8.drew ∧
                            offP 0 v9 fun v47 =>
                            ldS S v47 fun v48 =>
                            offP 0 v9 fun v49 =>
                            ldS S v49 fun v50 =>
                            lenP v50 fun v51 =>
                            binP .sub v51 (.int .i64 1) fun v52 =>
                            idxP 2 v48 v52 fun v53 =>
                            ldAS S 2 v53 fun v54 =>
                            ldAS S 2 v12 fun v55 =>
                            Ret c.P c.f_path_Distance #[v54, v55] w8.drew fun v56 w12 => S w12 ∧
                            binP .add (g s1 0) v56 fun v57 =>
                            k4 [v57] w12)
                          (k4 [(g s1 0)] w8)) fun s4 j4 w11 =>
                        k3 [(g s4 0)] w11)) fun s3 j3 w9 =>
                    k2 [(g s3 0)] w9) fun s2 j2 w6 =>
                  binP .add (g s1 1) (.int .i64 1) fun v58 =>
                  nx1 [(g s2 0), v58] w6)
                (semP c.P (Instr.buildSlice c.t_sl_int 1 #[(0, (g s1 0))]) w5 fun v61 w13 =>
                  semP c.P (Builtin.append_ #[c.t_sl_int, c.t_sl_int] c.t_sl_int #[(g s0 0), v61]) w13 fun v62 w14 =>
                  binP .add (g s0 1) (g s1 0) fun v65 =>
                  binP .add (g s0 2) (.int .i64 1) fun v66 =>
                  nx0 [v62, v65, v66] w14)) [(.int .i64 0), (.int .i64 0)] w4)
          (R (.tuple #[(g s0 0), (g s0 1), (.int .i64 0)]) w2)) [(.slice none 0 0), (.int .i64 0), (.int .i64 0)] w1)

/-- slices.Equal[[]int,int] -/
def wp_slices_Equal_sl_int_int (c : Cfg) (a0 a1 : Value) (w : World) (R : Value → World → Prop) : Prop :=
  lenP a0 fun v7 =>
  lenP a1 fun v9 =>
  binP .neq v7 v9 fun v10 =>
  condP v10
    (R (.bool false) w)
    (lenP a0 fun v12 =>
      loopP (fun nx0 s0 j0 w1 =>
        binP .lss (g s0 0) v12 fun v14 =>
        condP v14
          (idxP 1 a0 (g s0 0) fun v18 =>
            ld v18 w1.drew fun v19 =>
            idxP 1 a1 (g s0 0) fun v22 =>
            ld v22 w1.drew fun v23 =>
            binP .neq v19 v23 fun v24 =>
            condP v24
              (R (.bool false) w1.drew)
              (binP .add (g s0 0) (.int .i64 1) fun v25 =>
                nx0 [v25] w1.drew))
          (R (.bool true) w1)) [(.int .i64 0)] w)

/-- beadlayer/blmake.Below -/
def wp_blmake_Below (c : Cfg) (a0 a1 : Value) (w : World) (R : Value → World → Prop) : Prop :=
  binP .lss a1 (.int .i64 1) fun v6 =>
  condP v6
    (R (.int .i64 0) w)
    (binP .rem a0 a1 fun v9 =>
      binP .lss v9 (.int .i64 0) fun v11 =>
      joinP (fun k0 => condP v11
        (binP .add v9 a1 fun v14 =>
          k0 [v14] w)
        (k0 [v9] w)) fun s0 j0 w1 =>
      R (g s0 0) w1)

/-- slices.Index[[]int,int] -/
def wp_slices_Index_sl_int_int (c : Cfg) (a0 a1 : Value) (w : World) (R : Value → World → Prop) : Prop :=
  lenP a0 fun v7 =>
  loopP (fun nx0 s0 j0 w1 =>
    binP .lss (g s0 0) v7 fun v9 =>
    condP v9
      (idxP 1 a0 (g s0 0) fun v14 =>
        ld v14 w1 fun v15 =>
        binP .eql a1 v15 fun v16 =>
        condP v16
          (R (g s0 0) w1)
          (binP .add (g s0 0) (.int .i64 1) fun v18 =>
            nx0 [v18] w1))
      (R (.int .i64 (-1)) w1)) [(.int .i64 0)] w

/-- slices.ContainsFunc[[]beadlayer/api.Visit,beadlayer/api.Visit] -/
def wp_slices_ContainsFunc_sl_api_Visit_api_Visit (c : Cfg) (a0 a1 : Value) (w : World) (R : Value → World → Prop) : Prop :=
  Ret c.P c.f_slices_IndexFunc_sl_api_Visit_api_Visit #[a0, a1] w fun v7 w1 =>
  binP .geq v7 (.int .i64 0) fun v8 =>
  R v8 w1

/-- beadlayer/blref1.visitFault$1 -/
def wp_blref1_visitFault_1 (c : Cfg) (a0 a1 : Value) (w : World) (R : Value → World → Prop) : Prop :=
  newP c.t_api_Visit (Value.cells a0) w fun v2 w1 =>
  offP 0 v2 fun v4 =>
  ld v4 w1 fun v5 =>
  offP 0 a1 fun v6 =>
  ld v6 w1 fun v7 =>
  binP .eql v5 v7 fun v8 =>
  R v8 w1

/-- beadlayer/blref1.SpanFault -/
def wp_blref1_SpanFault (c : Cfg) (a0 a1 a2 : Value) (w : World) (R : Value → World → Prop) : Prop :=
  Ret c.P c.f_blref1_in #[a0, a1, a2] w fun v10 w1 =>
  notP v10 fun v11 =>
  condP v11
    (R (.int .i64 1) w1)
    (R (.int .i64 0) w1)

/-- beadlayer/region.IsFar -/
def wp_region_IsFar (c : Cfg) (a0 : Value) (w : World) (R : Value → World → Prop) : Prop :=
  newP c.t_api_Point (Value.cells a0) w fun v1 w1 =>
  joinP (fun k0 =>
    offP 0 v1 fun v3 =>
    ld v3 w1 fun v4 =>
    Ret c.P c.f_kit_Outside #[v4, (.int .i64 (-100000)), (.int .i64 100000)] w1 fun v5 w3 =>
    guardP v5 false
      (offP 1 v1 fun v7 =>
        ld v7 w3 fun v8 =>
        Ret c.P c.f_kit_Outside #[v8, (.int .i64 (-100000)), (.int .i64 100000)] w3 fun v9 w4 =>
        k0 [v9] w4)
      (k0 [(.bool true)] w3)) fun s0 j0 w2 =>
  R (g s0 0) w2

/-- beadlayer/path.CheckPaths -/
def wp_path_CheckPaths (c : Cfg) (a0 : Value) (w : World) (R : Value → World → Prop) : Prop :=
  lenP a0 fun v7 =>
  binP .gtr v7 (.int .i64 200) fun v8 =>
  condP v8
    (R (.int .i64 2) w)
    (lenP a0 fun v10 =>
      loopP (fun nx0 s0 j0 w1 =>
        binP .lss (g s0 0) v10 fun v12 =>
        condP v12
          (idxP 2 a0 (g s0 0) fun v13 =>
            ldA 2 v13 w1 fun v14 =>
            newP c.t_api_Path #[(.slice none 0 0), (.bool false)] w1 fun v4 w2 =>
            stA 2 v4 v14 w2 fun w3 =>
            ldA 2 v4 w3 fun v15 =>
            Ret c.P c.f_path_PathFault #[v15] w3 fun v16 w4 =>
            binP .neq v16 (.int .i64 0) fun v18 =>
            condP v18
              (R v16 w4)
              (binP .add (g s0 0) (.int .i64 1) fun v20 =>
                nx0 [v20] w4))
          (R (.int .i64 0) w1)) [(.int .i64 0)] w)

/-- beadlayer/path.ends -/
def wp_path_ends (c : Cfg) (a0 a1 : Value) (w : World) (R : Value → World → Prop) : Prop :=
  newP c.t_api_Visit (Value.cells a1) w fun v3 w1 =>
  newP c.t_api_Point #[(.int .i64 0), (.int .i64 0)] w1 fun v4 w2 =>
  newP c.t_api_Point #[(.int .i64 0), (.int .i64 0)] w2 fun v5 w3 =>
  offP 0 v3 fun v8 =>
  ld v8 w3 fun v9 =>
  idxP 2 a0 v9 fun v10 =>
  offP 0 v10 fun v11 =>
  ld v11 w3 fun v12 =>
  offP 0 v3 fun v15 =>
  ld v15 w3 fun v16 =>
  idxP 2 a0 v16 fun v17 =>
  offP 1 v17 fun v18 =>
  ld v18 w3 fun v19 =>
  condP v19
    (heldP fun S => S w3.drew ∧
      offP 1 v3 fun v21 =>
      ldS S v21 fun v22 =>
      idxP 2 v12 v22 fun v23 =>
      ldAS S 2 v23 fun v24 =>
      offP 1 v3 fun v26 =>
      ldS S v26 fun v27 =>
      idxP 2 v12 v27 fun v28 =>
      ldAS S 2 v28 fun v29 =>
      stA 2 v4 v24 w3.drew fun w4 => S w4 ∧
      stA 2 v5 v29 w4 fun w5 =>
      ldA 2 v4 w5 fun v4_1 =>
      ldA 2 v5 w5 fun v5_1 =>
      R (.tuple #[v4_1, v5_1]) w5)
    (offP 2 v3 fun v31 =>
      ld v31 w3 fun v32 =>
      condP v32
        (heldP fun S => S w3.drew ∧
          lenP v12 fun v35 =>
          binP .sub v35 (.int .i64 1) fun v36 =>
          idxP 2 v12 v36 fun v37 =>
          ldAS S 2 v37 fun v38 =>
          idxP 2 v12 (.int .i64 0) fun v40 =>
          ldAS S 2 v40 fun v41 =>
          stA 2 v4 v38 w3.drew fun w6 => S w6 ∧
          stA 2 v5 v41 w6 fun w7 =>
          ldA 2 v4 w7 fun v4_2 =>
          ldA 2 v5 w7 fun v5_2 =>
          R (.tuple #[v4_2, v5_2]) w7)
        (heldP fun S => S w3.drew ∧
          idxP 2 v12 (.int .i64 0) fun v43 =>
          ldAS S 2 v43 fun v44 =>
          lenP v12 fun v47 =>
          binP .sub v47 (.int .i64 1) fun v48 =>
          idxP 2 v12 v48 fun v49 =>
          ldAS S 2 v49 fun v50 =>
          stA 2 v4 v44 w3.drew fun w8 => S w8 ∧
          stA 2 v5 v50 w8 fun w9 =>
          ldA 2 v4 w9 fun v4_3 =>
          ldA 2 v5 w9 fun v5_3 =>
          R (.tuple #[v4_3, v5_3]) w9))

/-- beadlayer/path.abs -/
def wp_path_abs (c : Cfg) (a0 : Value) (w : World) (R : Value → World → Prop) : Prop :=
  pureP c.P (Op.unary .neg a0) fun v5 =>
  pureP c.P (Builtin.max_ #[c.t_int, c.t_int] c.t_int #[a0, v5]) fun v6 =>
  R v6 w

/-- beadlayer/path.CheckOrder -/
def wp_path_CheckOrder (c : Cfg) (a0 a1 : Value) (w : World) (R : Value → World → Prop) : Prop :=
  Ret c.P c.f_path_CheckPaths #[a0] w fun v7 w1 =>
  binP .neq v7 (.int .i64 0) fun v9 =>
  condP v9
    (R v7 w1)
    (Ret c.P c.f_path_orderFault #[a0, a1] w1 fun v13 w2 =>
      R v13 w2)

/-- beadlayer/blref1.search$1 -/
def wp_blref1_search_1 (c : Cfg) (a0 a1 a2 a3 a4 a5 a6 a7 a8 : Value) (w : World) (R : Value → World → Prop) : Prop :=
  newP c.t_api_Point (Value.cells a1) w fun v10 w1 =>
  joinP (fun k0 =>
    ld a3 w1 fun v18 =>
    binP .geq v18 (.int .i64 0) fun v19 =>
    guardP v19 true
      (ld a3 w1 fun v22 =>
        binP .geq a2 v22 fun v23 =>
        k0 [v23] w1)
      (k0 [(.bool false)] w1)) fun s0 j0 w2 =>
  condP (g s0 0)
    (R (.tuple #[]) w2)
    (lenP a0 fun v26 =>
      ld a4 w2 fun v27 =>
      binP .eql v26 v27 fun v28 =>
      condP v28
        (st a5 a0 w2 fun w3 =>
          st a3 a2 w3 fun w4 =>
          R (.tuple #[]) w4)
        (ld a6 w2 fun v31 =>
          callV c.P v31 #[a0] w2 fun v33 w5 =>
          lenP v33 fun v34 =>
          loopP (fun nx1 s1 j1 w6 =>
            binP .lss (g s1 0) v34 fun v36 =>
            condP v36
              (idxP 1 v33 (g s1 0) fun v37 =>
                ld v37 w6 fun v38 =>
                ld a7 w6 fun v39 =>
                Ret c.P c.f_blref1_ways #[v39, v38] w6 fun v41 w7 =>
                lenP v41 fun v42 =>
                loopP (fun nx2 s2 j2 w8 =>
                  binP .lss (g s2 0) v42 fun v44 =>
                  condP v44
                    (idxP 3 v41 (g s2 0) fun v45 =>
                      ldA 3 v45 w8 fun v46 =>
                      newP c.t_api_Visit #[(.int .i64 0), (.int .i64 0), (.bool false)] w8 fun v15 w9 =>
                      stA 3 v15 v46 w9 fun w10 =>
                      ld a7 w10 fun v48 =>
                      ldA 3 v15 w10 fun v49 =>
                      Ret c.P c.f_blref1_EndsOf #[v48, v49] w10 fun v50 w11 =>
                      exP 0 v50 fun v51 =>
                      exP 1 v50 fun v52 =>
                      newP c.t_api_Point #[(.int .i64 0), (.int .i64 0)] w11 fun v16 w12 =>
                      newP c.t_api_Point #[(.int .i64 0), (.int .i64 0)] w12 fun v17 w13 =>
                      stA 2 v16 v51 w13 fun w14 =>
                      stA 2 v17 v52 w14 fun w15 =>
                      joinP (fun k3 =>
                        heldP fun S => S w15.drew ∧
                        ldS S a8 fun v53 =>
                        ldAS S 3 v15 fun v56 =>
                        ldAS S 2 v17 fun v59 =>
                        ldAS S 2 v10 fun v61 =>
                        ldAS S 2 v16 fun v62 =>
                        (Ret c.P c.f_slices_Clone_sl_api_Visit_api_Visit #[a0] w15.drew fun v55 w17 => S w17 ∧
                          semP c.P (Instr.buildSlice c.t_sl_api_Visit 1 #[(0, v56)]) w17 fun v57 w18 => S w18 ∧
                          semP c.P (Builtin.append_ #[c.t_sl_api_Visit, c.t_sl_api_Visit] c.t_sl_api_Visit #[v55, v57]) w18 fun v58 w19 => S w19 ∧
                          Ret c.P c.f_blref1_Apart #[v61, v62] w19 fun v63 w20 => S w20 ∧
                          binP .add a2 v63 fun v64 =>
                          callV c.P v53 #[v58, v59, v64] w20 fun v65 w21 => S w21 ∧
                          k3 [] w21)
                        ∧ (semP c.P (Instr.buildSlice c.t_sl_api_Visit 1 #[(0, v56)]) w15.drew fun v57_1 w22 => S w22 ∧
                          Ret c.P c.f_slices_Clone_sl_api_Visit_api_Visit #[a0] w22 fun v55_1 w23 => S w23 ∧
                          semP c.P (Builtin.append_ #[c.t_sl_api_Visit, c.t_sl_api_Visit] c.t_sl_api_Visit #[v55_1, v57_1]) w23 fun v58_1 w24 => S w24 ∧
                          Ret c.P c.f_blref1_Apart #[v61, v62] w24 fun v63_1 w25 => S w25 ∧
                          binP .add a2 v63_1 fun v64_1 =>
                          callV c.P v53 #[v58_1, v59, v64_1] w25 fun v65_1 w26 => S w26 ∧
                          k3 [] w26)) fun s3 j3 w16 =>
                      binP .add (g s2 0) (.int .i64 1) fun v66 =>
                      nx2 [v66] w16)
                    (binP .add (g s1 0) (.int .i64 1) fun v67 =>
                      nx1 [v67] w8)) [(.int .i64 0)] w7)
              (R (.tuple #[]) w6)) [(.int .i64 0)] w5))

/-- beadlayer/blref1.left$1 -/
def wp_blref1_left_1 (c : Cfg) (a0 a1 : Value) (w : World) (R : Value → World → Prop) : Prop :=
  newP c.t_api_Visit (Value.cells a0) w fun v2 w1 =>
  offP 0 v2 fun v4 =>
  ld v4 w1 fun v5 =>
  ld a1 w1 fun v6 =>
  binP .eql v5 v6 fun v7 =>
  R v7 w1

/-- beadlayer/blref1.printed -/
def wp_blref1_printed (c : Cfg) (a0 a1 : Value) (w : World) (R : Value → World → Prop) : Prop :=
  newP c.t_api_Visit (Value.cells a1) w fun v3 w1 =>
  offP 0 v3 fun v8 =>
  ld v8 w1 fun v9 =>
  idxP 2 a0 v9 fun v10 =>
  ldA 2 v10 w1 fun v11 =>
  newP c.t_api_Path #[(.slice none 0 0), (.bool false)] w1 fun v5 w2 =>
  stA 2 v5 v11 w2 fun w3 =>
  heldP fun S => S w3.drew ∧
  offP 0 v5 fun v12 =>
  ldS S v12 fun v13 =>
  offP 1 v3 fun v14 =>
  ldS S v14 fun v15 =>
  pureP c.P (Instr.sliceAt c.t_sl_api_Point v13 (some v15) none none) fun v16 =>
  offP 0 v5 fun v18 =>
  ldS S v18 fun v19 =>
  offP 1 v3 fun v20 =>
  ldS S v20 fun v21 =>
  pureP c.P (Instr.sliceAt c.t_sl_api_Point v19 none (some v21) none) fun v22 =>
  Ret c.P c.f_slices_Clone_sl_api_Point_api_Point #[v16] w3.drew fun v17 w4 => S w4 ∧
  semP c.P (Builtin.append_ #[c.t_sl_api_Point, c.t_sl_api_Point] c.t_sl_api_Point #[v17, v22]) w4 fun v23 w5 => S w5 ∧
  joinP (fun k0 =>
    offP 1 v5 fun v25 =>
    ld v25 w5 fun v26 =>
    joinP (fun k1 => condP v26
      (idxP 2 v23 (.int .i64 0) fun v29 =>
        ldA 2 v29 w5 fun v30 =>
        semP c.P (Instr.buildSlice c.t_sl_api_Point 1 #[(0, v30)]) w5 fun v31 w8 =>
        semP c.P (Builtin.append_ #[c.t_sl_api_Point, c.t_sl_api_Point] c.t_sl_api_Point #[v23, v31]) w8 fun v32 w9 =>
        k1 [v32] w9)
      (offP 2 v3 fun v34 =>
        ld v34 w5 fun v35 =>
        joinP (fun k2 => condP v35
          (Ret c.P c.f_slices_Reverse_sl_api_Point_api_Point #[v23] w5 fun v37 w11 =>
            k2 [] w11)
          (k2 [] w5)) fun s2 j2 w10 =>
        k1 [v23] w10)) fun s1 j1 w7 =>
    k0 [(g s1 0)] w7) fun s0 j0 w6 =>
  R (g s0 0) w6

/-- math/bits.Mul32 -/
def wp_math_bits_Mul32 (c : Cfg) (a0 a1 : Value) (w : World) (R : Value → World → Prop) : Prop :=
  convI .u64 a0 fun v8 =>
  convI .u64 a1 fun v10 =>
  binP .mul v8 v10 fun v11 =>
  pureP c.P (do eqGuard .shr c.t_uint64 (.tmp 12) (.const (.int .u64 32)) v11 (.int .u64 32); binOp .shr c.t_uint64 v11 (.int .u64 32)) fun v13 =>
  convI .u32 v13 fun v14 =>
  convI .u32 v11 fun v16 =>
  R (.tuple #[v14, v16]) w

/-- math/bits.Mul64 -/
def wp_math_bits_Mul64 (c : Cfg) (a0 a1 : Value) (w : World) (R : Value → World → Prop) : Prop :=
  pureP c.P (do eqGuard .and c.t_uint64 (.tmp 14) (.const (.int .u64 4294967295)) a0 (.int .u64 4294967295); binOp .and c.t_uint64 a0 (.int .u64 4294967295)) fun v15 =>
  pureP c.P (do eqGuard .shr c.t_uint64 (.tmp 16) (.const (.int .u64 32)) a0 (.int .u64 32); binOp .shr c.t_uint64 a0 (.int .u64 32)) fun v17 =>
  pureP c.P (do eqGuard .and c.t_uint64 (.tmp 18) (.const (.int .u64 4294967295)) a1 (.int .u64 4294967295); binOp .and c.t_uint64 a1 (.int .u64 4294967295)) fun v19 =>
  pureP c.P (do eqGuard .shr c.t_uint64 (.tmp 20) (.const (.int .u64 32)) a1 (.int .u64 32); binOp .shr c.t_uint64 a1 (.int .u64 32)) fun v21 =>
  binP .mul v15 v19 fun v24 =>
  binP .mul v17 v19 fun v27 =>
  pureP c.P (do eqGuard .shr c.t_uint64 (.tmp 28) (.const (.int .u64 32)) v24 (.int .u64 32); binOp .shr c.t_uint64 v24 (.int .u64 32)) fun v29 =>
  binP .add v27 v29 fun v30 =>
  pureP c.P (do eqGuard .and c.t_uint64 (.tmp 31) (.const (.int .u64 4294967295)) v30 (.int .u64 4294967295); binOp .and c.t_uint64 v30 (.int .u64 4294967295)) fun v32 =>
  pureP c.P (do eqGuard .shr c.t_uint64 (.tmp 33) (.const (.int .u64 32)) v30 (.int .u64 32); binOp .shr c.t_uint64 v30 (.int .u64 32)) fun v34 =>
  binP .mul v15 v21 fun v38 =>
  binP .add v32 v38 fun v39 =>
  binP .mul v17 v21 fun v42 =>
  binP .add v42 v34 fun v44 =>
  pureP c.P (do eqGuard .shr c.t_uint64 (.tmp 45) (.const (.int .u64 32)) v39 (.int .u64 32); binOp .shr c.t_uint64 v39 (.int .u64 32)) fun v46 =>
  binP .add v44 v46 fun v47 =>
  binP .mul a0 a1 fun v50 =>
  R (.tuple #[v47, v50]) w

/-- slices.IndexFunc[[]beadlayer/api.Visit,beadlayer/api.Visit] -/
def wp_slices_IndexFunc_sl_api_Visit_api_Visit (c : Cfg) (a0 a1 : Value) (w : World) (R : Value → World → Prop) : Prop :=
  lenP a0 fun v7 =>
  loopP (fun nx0 s0 j0 w1 =>
    binP .lss (g s0 0) v7 fun v9 =>
    condP v9
      (idxP 3 a0 (g s0 0) fun v14 =>
        ldA 3 v14 w1 fun v15 =>
        callV c.P a1 #[v15] w1 fun v16 w2 =>
        condP v16
          (R (g s0 0) w2)
          (binP .add (g s0 0) (.int .i64 1) fun v18 =>
            nx0 [v18] w2))
      (R (.int .i64 (-1)) w1)) [(.int .i64 0)] w

/-- beadlayer/kit.Outside -/
def wp_kit_Outside (c : Cfg) (a0 a1 a2 : Value) (w : World) (R : Value → World → Prop) : Prop :=
  joinP (fun k0 =>
    binP .lss a0 a1 fun v9 =>
    guardP v9 false
      (binP .gtr a0 a2 fun v13 =>
        k0 [v13] w)
      (k0 [(.bool true)] w)) fun s0 j0 w1 =>
  R (g s0 0) w1

/-- beadlayer/path.PathFault -/
def wp_path_PathFault (c : Cfg) (a0 : Value) (w : World) (R : Value → World → Prop) : Prop :=
  newP c.t_api_Path (Value.cells a0) w fun v1 w1 =>
  offP 0 v1 fun v4 =>
  ld v4 w1 fun v5 =>
  lenP v5 fun v6 =>
  binP .eql v6 (.int .i64 0) fun v7 =>
  condP v7
    (R (.int .i64 8) w1)
    (offP 0 v1 fun v9 =>
      ld v9 w1 fun v10 =>
      lenP v10 fun v11 =>
      binP .gtr v11 (.int .i64 500) fun v12 =>
      condP v12
        (R (.int .i64 2) w1)
        (joinP (fun k0 =>
            offP 1 v1 fun v14 =>
            ld v14 w1 fun v15 =>
            guardP v15 true
              (offP 0 v1 fun v17 =>
                ld v17 w1 fun v18 =>
                lenP v18 fun v19 =>
                binP .lss v19 (.int .i64 3) fun v20 =>
                k0 [v20] w1)
              (k0 [(.bool false)] w1)) fun s0 j0 w2 =>
          condP (g s0 0)
            (R (.int .i64 3) w2)
            (offP 0 v1 fun v23 =>
              ld v23 w2 fun v24 =>
              Ret c.P c.f_slices_ContainsFunc_sl_api_Point_api_Point #[v24, (.func (.func c.f_region_IsFar) #[] #[])] w2 fun v25 w3 =>
              condP v25
                (R (.int .i64 1) w3)
                (R (.int .i64 0) w3))))

/-- beadlayer/path.orderFault -/
def wp_path_orderFault (c : Cfg) (a0 a1 : Value) (w : World) (R : Value → World → Prop) : Prop :=
  lenP a1 fun v10 =>
  lenP a0 fun v12 =>
  binP .neq v10 v12 fun v13 =>
  condP v13
    (R (.int .i64 3) w)
    (lenP a0 fun v15 =>
      semP c.P (Instr.makeSlice c.t_sl_bool v15 v15) w fun v16 w1 =>
      lenP a1 fun v18 =>
      loopP (fun nx0 s0 j0 w2 =>
        binP .lss (g s0 0) v18 fun v20 =>
        condP v20
          (idxP 3 a1 (g s0 0) fun v21 =>
            ldA 3 v21 w2 fun v22 =>
            newP c.t_api_Visit #[(.int .i64 0), (.int .i64 0), (.bool false)] w2 fun v7 w3 =>
            stA 3 v7 v22 w3 fun w4 =>
            joinP (fun k1 =>
              offP 0 v7 fun v23 =>
              ld v23 w4 fun v24 =>
              binP .lss v24 (.int .i64 0) fun v25 =>
              guardP v25 false
                (offP 0 v7 fun v27 =>
                  ld v27 w4 fun v28 =>
                  lenP a0 fun v30 =>
                  binP .geq v28 v30 fun v31 =>
                  k1 [v31] w4)
                (k1 [(.bool true)] w4)) fun s1 j1 w5 =>
            condP (g s1 0)
              (R (.int .i64 1) w5)
              (offP 0 v7 fun v34 =>
                ld v34 w5 fun v35 =>
                idxP 1 v16 v35 fun v36 =>
                ld v36 w5 fun v37 =>
                condP v37
                  (R (.int .i64 6) w5)
                  (offP 0 v7 fun v39 =>
                    ld v39 w5 fun v40 =>
                    idxP 1 v16 v40 fun v41 =>
                    st v41 (.bool true) w5 fun w6 =>
                    ldA 3 v7 w6 fun v43 =>
                    Ret c.P c.f_path_visitFault #[a0, v43] w6 fun v44 w7 =>
                    binP .neq v44 (.int .i64 0) fun v46 =>
                    condP v46
                      (R v44 w7)
                      (binP .add (g s0 0) (.int .i64 1) fun v48 =>
                        nx0 [v48] w7))))
          (R (.int .i64 0) w2)) [(.int .i64 0)] w1)

/-- slices.Clone[[]beadlayer/api.Point,beadlayer/api.Point] -/
def wp_slices_Clone_sl_api_Point_api_Point (c : Cfg) (a0 : Value) (w : World) (R : Value → World → Prop) : Prop :=
  pureP c.P (do eqGuard .eql c.t_sl_api_Point (.tmp 3) (.const (.slice none 0 0)) a0 (.slice none 0 0); binOp .eql c.t_sl_api_Point a0 (.slice none 0 0)) fun v4 =>
  condP v4
    (R (.slice none 0 0) w)
    (semP c.P (Instr.buildSlice c.t_sl_api_Point 0 #[]) w fun v5 w1 =>
      semP c.P (Builtin.append_ #[c.t_sl_api_Point, c.t_sl_api_Point] c.t_sl_api_Point #[v5, a0]) w1 fun v7 w2 =>
      R v7 w2)

/-- slices.Reverse[[]beadlayer/api.Point,beadlayer/api.Point] -/
def wp_slices_Reverse_sl_api_Point_api_Point (c : Cfg) (a0 : Value) (w : World) (R : Value → World → Prop) : Prop :=
  lenP a0 fun v5 =>
  binP .sub v5 (.int .i64 1) fun v6 =>
  loopP (fun nx0 s0 j0 w1 =>
    binP .lss (g s0 0) (g s0 1) fun v9 =>
    condP v9
      (idxP 2 a0 (g s0 1) fun v20 =>
        ldA 2 v20 w1.drew fun v21 =>
        idxP 2 a0 (g s0 0) fun v24 =>
        ldA 2 v24 w1.drew fun v25 =>
        idxP 2 a0 (g s0 0) fun v26 =>
        stA 2 v26 v21 w1.drew fun w2 =>
        idxP 2 a0 (g s0 1) fun v27 =>
        stA 2 v27 v25 w2 fun w3 =>
        binP .add (g s0 0) (.int .i64 1) fun v11 =>
        binP .sub (g s0 1) (.int .i64 1) fun v13 =>
        nx0 [v11, v13] w3)
      (R (.tuple #[]) w1)) [(.int .i64 0), v6] w

/-- slices.ContainsFunc[[]beadlayer/api.Point,beadlayer/api.Point] -/
def wp_slices_ContainsFunc_sl_api_Point_api_Point (c : Cfg) (a0 a1 : Value) (w : World) (R : Value → World → Prop) : Prop :=
  Ret c.P c.f_slices_IndexFunc_sl_api_Point_api_Point #[a0, a1] w fun v7 w1 =>
  binP .geq v7 (.int .i64 0) fun v8 =>
  R v8 w1

/-- beadlayer/path.visitFault -/
def wp_path_visitFault (c : Cfg) (a0 a1 : Value) (w : World) (R : Value → World → Prop) : Prop :=
  newP c.t_api_Visit (Value.cells a1) w fun v3 w1 =>
  offP 0 v3 fun v7 =>
  ld v7 w1 fun v8 =>
  idxP 2 a0 v8 fun v9 =>
  ldA 2 v9 w1 fun v10 =>
  newP c.t_api_Path #[(.slice none 0 0), (.bool false)] w1 fun v5 w2 =>
  stA 2 v5 v10 w2 fun w3 =>
  joinP (fun k0 =>
    offP 1 v5 fun v11 =>
    ld v11 w3 fun v12 =>
    guardP v12 true
      (offP 2 v3 fun v14 =>
        ld v14 w3 fun v15 =>
        guardP v15 false
          (offP 1 v5 fun v18 =>
            ld v18 w3 fun v19 =>
            notP v19 fun v20 =>
            guardP v20 true
              (offP 1 v3 fun v22 =>
                ld v22 w3 fun v23 =>
                binP .neq v23 (.int .i64 0) fun v24 =>
                k0 [v24] w3)
              (k0 [(.bool false)] w3))
          (k0 [(.bool true)] w3))
      (offP 1 v5 fun v18_1 =>
        ld v18_1 w3 fun v19_1 =>
        notP v19_1 fun v20_1 =>
        guardP v20_1 true
          (offP 1 v3 fun v22_1 =>
            ld v22_1 w3 fun v23_1 =>
            binP .neq v23_1 (.int .i64 0) fun v24_1 =>
            k0 [v24_1] w3)
          (k0 [(.bool false)] w3))) fun s0 j0 w4 =>
  condP (g s0 0)
    (R (.int .i64 3) w4)
    (joinP (fun k1 =>
        offP 1 v3 fun v27 =>
        ld v27 w4 fun v28 =>
        binP .lss v28 (.int .i64 0) fun v29 =>
        guardP v29 false
          (offP 1 v3 fun v31 =>
            ld v31 w4 fun v32 =>
            offP 0 v5 fun v33 =>
            ld v33 w4 fun v34 =>
            lenP v34 fun v35 =>
            binP .geq v32 v35 fun v36 =>
            k1 [v36] w4)
          (k1 [(.bool true)] w4)) fun s1 j1 w5 =>
      condP (g s1 0)
        (R (.int .i64 1) w5)
        (R (.int .i64 0) w5))

/-- slices.IndexFunc[[]beadlayer/api.Point,beadlayer/api.Point] -/
def wp_slices_IndexFunc_sl_api_Point_api_Point (c : Cfg) (a0 a1 : Value) (w : World) (R : Value → World → Prop) : Prop :=
  lenP a0 fun v7 =>
  loopP (fun nx0 s0 j0 w1 =>
    binP .lss (g s0 0) v7 fun v9 =>
    condP v9
      (idxP 2 a0 (g s0 0) fun v14 =>
        ldA 2 v14 w1 fun v15 =>
        callV c.P a1 #[v15] w1 fun v16 w2 =>
        condP v16
          (R (g s0 0) w2)
          (binP .add (g s0 0) (.int .i64 1) fun v18 =>
            nx0 [v18] w2))
      (R (.int .i64 (-1)) w1)) [(.int .i64 0)] w

/-- The functions of a program come to this. -/
structure Eqs (c : Cfg) : Prop where
  dummy : True
  bllaw1_OrdersChosen : ∀ (a0 : Value) (w : World) (R : Value → World → Prop), wp_bllaw1_OrdersChosen c a0 w R → Ret c.P c.f_bllaw1_OrdersChosen #[a0] w R
  p_blmake_Stream_APoint : ∀ (a0 : Value) (w : World) (R : Value → World → Prop), wp_p_blmake_Stream_APoint c a0 w R → Ret c.P c.f_p_blmake_Stream_APoint #[a0] w R
  p_blmake_Stream_PathList : ∀ (a0 a1 : Value) (w : World) (R : Value → World → Prop), wp_p_blmake_Stream_PathList c a0 a1 w R → Ret c.P c.f_p_blmake_Stream_PathList #[a0, a1] w R
  p_blmake_Stream_AnOrder : ∀ (a0 a1 : Value) (w : World) (R : Value → World → Prop), wp_p_blmake_Stream_AnOrder c a0 a1 w R → Ret c.P c.f_p_blmake_Stream_AnOrder #[a0, a1] w R
  p_blmake_Stream_Indices : ∀ (a0 a1 : Value) (w : World) (R : Value → World → Prop), wp_p_blmake_Stream_Indices c a0 a1 w R → Ret c.P c.f_p_blmake_Stream_Indices #[a0, a1] w R
  cmp_Or_api_Errno : ∀ (a0 : Value) (w : World) (R : Value → World → Prop), wp_cmp_Or_api_Errno c a0 w R → Ret c.P c.f_cmp_Or_api_Errno #[a0] w R
  blref1_PointFault : ∀ (a0 : Value) (w : World) (R : Value → World → Prop), wp_blref1_PointFault c a0 w R → Ret c.P c.f_blref1_PointFault #[a0] w R
  blref1_PathsFault : ∀ (a0 : Value) (w : World) (R : Value → World → Prop), wp_blref1_PathsFault c a0 w R → Ret c.P c.f_blref1_PathsFault #[a0] w R
  blref1_IndicesFault : ∀ (a0 a1 : Value) (w : World) (R : Value → World → Prop), wp_blref1_IndicesFault c a0 a1 w R → Ret c.P c.f_blref1_IndicesFault #[a0, a1] w R
  blref1_OrderFault : ∀ (a0 a1 : Value) (w : World) (R : Value → World → Prop), wp_blref1_OrderFault c a0 a1 w R → Ret c.P c.f_blref1_OrderFault #[a0, a1] w R
  path_Best : ∀ (a0 a1 : Value) (w : World) (R : Value → World → Prop), wp_path_Best c a0 a1 w R → Ret c.P c.f_path_Best #[a0, a1] w R
  path_Nearest : ∀ (a0 a1 : Value) (w : World) (R : Value → World → Prop), wp_path_Nearest c a0 a1 w R → Ret c.P c.f_path_Nearest #[a0, a1] w R
  path_Begun : ∀ (a0 a1 a2 : Value) (w : World) (R : Value → World → Prop), wp_path_Begun c a0 a1 a2 w R → Ret c.P c.f_path_Begun #[a0, a1, a2] w R
  path_Improved : ∀ (a0 a1 a2 : Value) (w : World) (R : Value → World → Prop), wp_path_Improved c a0 a1 a2 w R → Ret c.P c.f_path_Improved #[a0, a1, a2] w R
  blref1_BestOf : ∀ (a0 a1 : Value) (w : World) (R : Value → World → Prop), wp_blref1_BestOf c a0 a1 w R → Ret c.P c.f_blref1_BestOf #[a0, a1] w R
  blref1_NearestOf : ∀ (a0 a1 : Value) (w : World) (R : Value → World → Prop), wp_blref1_NearestOf c a0 a1 w R → Ret c.P c.f_blref1_NearestOf #[a0, a1] w R
  blref1_BegunOf : ∀ (a0 a1 a2 : Value) (w : World) (R : Value → World → Prop), wp_blref1_BegunOf c a0 a1 a2 w R → Ret c.P c.f_blref1_BegunOf #[a0, a1, a2] w R
  blref1_ImprovedOf : ∀ (a0 a1 a2 : Value) (w : World) (R : Value → World → Prop), wp_blref1_ImprovedOf c a0 a1 a2 w R → Ret c.P c.f_blref1_ImprovedOf #[a0, a1, a2] w R
  slices_Equal_sl_api_Visit_api_Visit : ∀ (a0 a1 : Value) (w : World) (R : Value → World → Prop), wp_slices_Equal_sl_api_Visit_api_Visit c a0 a1 w R → Ret c.P c.f_slices_Equal_sl_api_Visit_api_Visit #[a0, a1] w R
  p_blmake_Stream_Flip : ∀ (a0 a1 : Value) (w : World) (R : Value → World → Prop), wp_p_blmake_Stream_Flip c a0 a1 w R → Ret c.P c.f_p_blmake_Stream_Flip #[a0, a1] w R
  slices_Repeat_sl_api_Path_api_Path : ∀ (a0 a1 : Value) (w : World) (R : Value → World → Prop), wp_slices_Repeat_sl_api_Path_api_Path c a0 a1 w R → Ret c.P c.f_slices_Repeat_sl_api_Path_api_Path #[a0, a1] w R
  bllaw1_pathed : ∀ (_u : Unit) (w : World) (R : Value → World → Prop), wp_bllaw1_pathed c  w R → Ret c.P c.f_bllaw1_pathed #[] w R
  p_blmake_Stream_Range : ∀ (a0 a1 a2 : Value) (w : World) (R : Value → World → Prop), wp_p_blmake_Stream_Range c a0 a1 a2 w R → Ret c.P c.f_p_blmake_Stream_Range #[a0, a1, a2] w R
  p_blmake_Stream_Odd : ∀ (a0 a1 a2 : Value) (w : World) (R : Value → World → Prop), wp_p_blmake_Stream_Odd c a0 a1 a2 w R → Ret c.P c.f_p_blmake_Stream_Odd #[a0, a1, a2] w R
  p_blmake_Stream_Pick : ∀ (a0 a1 : Value) (w : World) (R : Value → World → Prop), wp_p_blmake_Stream_Pick c a0 a1 w R → Ret c.P c.f_p_blmake_Stream_Pick #[a0, a1] w R
  p_blmake_Stream_Next : ∀ (a0 a1 : Value) (w : World) (R : Value → World → Prop), wp_p_blmake_Stream_Next c a0 a1 w R → Ret c.P c.f_p_blmake_Stream_Next #[a0, a1] w R
  p_blmake_Stream_Order : ∀ (a0 a1 : Value) (w : World) (R : Value → World → Prop), wp_p_blmake_Stream_Order c a0 a1 w R → Ret c.P c.f_p_blmake_Stream_Order #[a0, a1] w R
  p_blmake_Stream_AVisit : ∀ (a0 a1 a2 : Value) (w : World) (R : Value → World → Prop), wp_p_blmake_Stream_AVisit c a0 a1 a2 w R → Ret c.P c.f_p_blmake_Stream_AVisit #[a0, a1, a2] w R
  blref1_in : ∀ (a0 a1 a2 : Value) (w : World) (R : Value → World → Prop), wp_blref1_in c a0 a1 a2 w R → Ret c.P c.f_blref1_in #[a0, a1, a2] w R
  blref1_pathFault : ∀ (a0 : Value) (w : World) (R : Value → World → Prop), wp_blref1_pathFault c a0 w R → Ret c.P c.f_blref1_pathFault #[a0] w R
  slices_Contains_sl_int_int : ∀ (a0 a1 : Value) (w : World) (R : Value → World → Prop), wp_slices_Contains_sl_int_int c a0 a1 w R → Ret c.P c.f_slices_Contains_sl_int_int #[a0, a1] w R
  blref1_visitFault : ∀ (a0 a1 a2 : Value) (w : World) (R : Value → World → Prop), wp_blref1_visitFault c a0 a1 a2 w R → Ret c.P c.f_blref1_visitFault #[a0, a1, a2] w R
  path_startPathsFault : ∀ (a0 a1 : Value) (w : World) (R : Value → World → Prop), wp_path_startPathsFault c a0 a1 w R → Ret c.P c.f_path_startPathsFault #[a0, a1] w R
  path_choices : ∀ (a0 a1 : Value) (w : World) (R : Value → World → Prop), wp_path_choices c a0 a1 w R → Ret c.P c.f_path_choices #[a0, a1] w R
  p_path_finder_next : ∀ (a0 a1 a2 : Value) (w : World) (R : Value → World → Prop), wp_p_path_finder_next c a0 a1 a2 w R → Ret c.P c.f_p_path_finder_next #[a0, a1, a2] w R
  path_travel : ∀ (a0 a1 a2 : Value) (w : World) (R : Value → World → Prop), wp_path_travel c a0 a1 a2 w R → Ret c.P c.f_path_travel #[a0, a1, a2] w R
  path_Distance : ∀ (a0 a1 : Value) (w : World) (R : Value → World → Prop), wp_path_Distance c a0 a1 w R → Ret c.P c.f_path_Distance #[a0, a1] w R
  path_indicesFault : ∀ (a0 a1 : Value) (w : World) (R : Value → World → Prop), wp_path_indicesFault c a0 a1 w R → Ret c.P c.f_path_indicesFault #[a0, a1] w R
  path_nearest : ∀ (a0 a1 a2 : Value) (w : World) (R : Value → World → Prop), wp_path_nearest c a0 a1 a2 w R → Ret c.P c.f_path_nearest #[a0, a1, a2] w R
  path_startFault : ∀ (a0 a1 a2 : Value) (w : World) (R : Value → World → Prop), wp_path_startFault c a0 a1 a2 w R → Ret c.P c.f_path_startFault #[a0, a1, a2] w R
  slices_Clone_sl_api_Visit_api_Visit : ∀ (a0 : Value) (w : World) (R : Value → World → Prop), wp_slices_Clone_sl_api_Visit_api_Visit c a0 w R → Ret c.P c.f_slices_Clone_sl_api_Visit_api_Visit #[a0] w R
  path_exchange : ∀ (a0 a1 a2 : Value) (w : World) (R : Value → World → Prop), wp_path_exchange c a0 a1 a2 w R → Ret c.P c.f_path_exchange #[a0, a1, a2] w R
  blref1_search : ∀ (a0 a1 a2 a3 : Value) (w : World) (R : Value → World → Prop), wp_blref1_search c a0 a1 a2 a3 w R → Ret c.P c.f_blref1_search #[a0, a1, a2, a3] w R
  blref1_BestOf_1 : ∀ (a0 a1 : Value) (w : World) (R : Value → World → Prop), wp_blref1_BestOf_1 c a0 a1 w R → Ret c.P c.f_blref1_BestOf_1 #[a0, a1] w R
  blref1_left : ∀ (a0 a1 : Value) (w : World) (R : Value → World → Prop), wp_blref1_left c a0 a1 w R → Ret c.P c.f_blref1_left #[a0, a1] w R
  blref1_ways : ∀ (a0 a1 : Value) (w : World) (R : Value → World → Prop), wp_blref1_ways c a0 a1 w R → Ret c.P c.f_blref1_ways #[a0, a1] w R
  blref1_EndsOf : ∀ (a0 a1 : Value) (w : World) (R : Value → World → Prop), wp_blref1_EndsOf c a0 a1 w R → Ret c.P c.f_blref1_EndsOf #[a0, a1] w R
  blref1_Apart : ∀ (a0 a1 : Value) (w : World) (R : Value → World → Prop), wp_blref1_Apart c a0 a1 w R → Ret c.P c.f_blref1_Apart #[a0, a1] w R
  blref1_TravelOf : ∀ (a0 a1 a2 : Value) (w : World) (R : Value → World → Prop), wp_blref1_TravelOf c a0 a1 a2 w R → Ret c.P c.f_blref1_TravelOf #[a0, a1, a2] w R
  blref1_BegunOf_1 : ∀ (a0 a1 : Value) (w : World) (R : Value → World → Prop), wp_blref1_BegunOf_1 c a0 a1 w R → Ret c.P c.f_blref1_BegunOf_1 #[a0, a1] w R
  blref1_ImprovedOf_1 : ∀ (a0 a1 a2 : Value) (w : World) (R : Value → World → Prop), wp_blref1_ImprovedOf_1 c a0 a1 a2 w R → Ret c.P c.f_blref1_ImprovedOf_1 #[a0, a1, a2] w R
  math_bits_Mul : ∀ (a0 a1 : Value) (w : World) (R : Value → World → Prop), wp_math_bits_Mul c a0 a1 w R → Ret c.P c.f_math_bits_Mul #[a0, a1] w R
  path_Long : ∀ (a0 : Value) (w : World) (R : Value → World → Prop), wp_path_Long c a0 w R → Ret c.P c.f_path_Long #[a0] w R
  slices_Equal_sl_int_int : ∀ (a0 a1 : Value) (w : World) (R : Value → World → Prop), wp_slices_Equal_sl_int_int c a0 a1 w R → Ret c.P c.f_slices_Equal_sl_int_int #[a0, a1] w R
  blmake_Below : ∀ (a0 a1 : Value) (w : World) (R : Value → World → Prop), wp_blmake_Below c a0 a1 w R → Ret c.P c.f_blmake_Below #[a0, a1] w R
  slices_Index_sl_int_int : ∀ (a0 a1 : Value) (w : World) (R : Value → World → Prop), wp_slices_Index_sl_int_int c a0 a1 w R → Ret c.P c.f_slices_Index_sl_int_int #[a0, a1] w R
  slices_ContainsFunc_sl_api_Visit_api_Visit : ∀ (a0 a1 : Value) (w : World) (R : Value → World → Prop), wp_slices_ContainsFunc_sl_api_Visit_api_Visit c a0 a1 w R → Ret c.P c.f_slices_ContainsFunc_sl_api_Visit_api_Visit #[a0, a1] w R
  blref1_visitFault_1 : ∀ (a0 a1 : Value) (w : World) (R : Value → World → Prop), wp_blref1_visitFault_1 c a0 a1 w R → Ret c.P c.f_blref1_visitFault_1 #[a0, a1] w R
  blref1_SpanFault : ∀ (a0 a1 a2 : Value) (w : World) (R : Value → World → Prop), wp_blref1_SpanFault c a0 a1 a2 w R → Ret c.P c.f_blref1_SpanFault #[a0, a1, a2] w R
  region_IsFar : ∀ (a0 : Value) (w : World) (R : Value → World → Prop), wp_region_IsFar c a0 w R → Ret c.P c.f_region_IsFar #[a0] w R
  path_CheckPaths : ∀ (a0 : Value) (w : World) (R : Value → World → Prop), wp_path_CheckPaths c a0 w R → Ret c.P c.f_path_CheckPaths #[a0] w R
  path_ends : ∀ (a0 a1 : Value) (w : World) (R : Value → World → Prop), wp_path_ends c a0 a1 w R → Ret c.P c.f_path_ends #[a0, a1] w R
  path_abs : ∀ (a0 : Value) (w : World) (R : Value → World → Prop), wp_path_abs c a0 w R → Ret c.P c.f_path_abs #[a0] w R
  path_CheckOrder : ∀ (a0 a1 : Value) (w : World) (R : Value → World → Prop), wp_path_CheckOrder c a0 a1 w R → Ret c.P c.f_path_CheckOrder #[a0, a1] w R
  blref1_search_1 : ∀ (a0 a1 a2 a3 a4 a5 a6 a7 a8 : Value) (w : World) (R : Value → World → Prop), wp_blref1_search_1 c a0 a1 a2 a3 a4 a5 a6 a7 a8 w R → Ret c.P c.f_blref1_search_1 #[a0, a1, a2, a3, a4, a5, a6, a7, a8] w R
  blref1_left_1 : ∀ (a0 a1 : Value) (w : World) (R : Value → World → Prop), wp_blref1_left_1 c a0 a1 w R → Ret c.P c.f_blref1_left_1 #[a0, a1] w R
  blref1_printed : ∀ (a0 a1 : Value) (w : World) (R : Value → World → Prop), wp_blref1_printed c a0 a1 w R → Ret c.P c.f_blref1_printed #[a0, a1] w R
  math_bits_Mul32 : ∀ (a0 a1 : Value) (w : World) (R : Value → World → Prop), wp_math_bits_Mul32 c a0 a1 w R → Ret c.P c.f_math_bits_Mul32 #[a0, a1] w R
  math_bits_Mul64 : ∀ (a0 a1 : Value) (w : World) (R : Value → World → Prop), wp_math_bits_Mul64 c a0 a1 w R → Ret c.P c.f_math_bits_Mul64 #[a0, a1] w R
  slices_IndexFunc_sl_api_Visit_api_Visit : ∀ (a0 a1 : Value) (w : World) (R : Value → World → Prop), wp_slices_IndexFunc_sl_api_Visit_api_Visit c a0 a1 w R → Ret c.P c.f_slices_IndexFunc_sl_api_Visit_api_Visit #[a0, a1] w R
  kit_Outside : ∀ (a0 a1 a2 : Value) (w : World) (R : Value → World → Prop), wp_kit_Outside c a0 a1 a2 w R → Ret c.P c.f_kit_Outside #[a0, a1, a2] w R
  path_PathFault : ∀ (a0 : Value) (w : World) (R : Value → World → Prop), wp_path_PathFault c a0 w R → Ret c.P c.f_path_PathFault #[a0] w R
  path_orderFault : ∀ (a0 a1 : Value) (w : World) (R : Value → World → Prop), wp_path_orderFault c a0 a1 w R → Ret c.P c.f_path_orderFault #[a0, a1] w R
  slices_Clone_sl_api_Point_api_Point : ∀ (a0 : Value) (w : World) (R : Value → World → Prop), wp_slices_Clone_sl_api_Point_api_Point c a0 w R → Ret c.P c.f_slices_Clone_sl_api_Point_api_Point #[a0] w R
  slices_Reverse_sl_api_Point_api_Point : ∀ (a0 : Value) (w : World) (R : Value → World → Prop), wp_slices_Reverse_sl_api_Point_api_Point c a0 w R → Ret c.P c.f_slices_Reverse_sl_api_Point_api_Point #[a0] w R
  slices_ContainsFunc_sl_api_Point_api_Point : ∀ (a0 a1 : Value) (w : World) (R : Value → World → Prop), wp_slices_ContainsFunc_sl_api_Point_api_Point c a0 a1 w R → Ret c.P c.f_slices_ContainsFunc_sl_api_Point_api_Point #[a0, a1] w R
  path_visitFault : ∀ (a0 a1 : Value) (w : World) (R : Value → World → Prop), wp_path_visitFault c a0 a1 w R → Ret c.P c.f_path_visitFault #[a0, a1] w R
  slices_IndexFunc_sl_api_Point_api_Point : ∀ (a0 a1 : Value) (w : World) (R : Value → World → Prop), wp_slices_IndexFunc_sl_api_Point_api_Point c a0 a1 w R → Ret c.P c.f_slices_IndexFunc_sl_api_Point_api_Point #[a0, a1] w R

end Go.Eng

