/- Part of a proof: the law NoOrderTravelsLess gives true for every list of integers and leaves its argument as it was; there are no conditions beyond those that the given row states. -/
import Derived.Test.YtjocebmjjakddaaGreatDoorEng
set_option linter.unusedVariables false
set_option linter.unusedSimpArgs false
/-! The numbers of functions and types. -/
namespace Go.Eng
open Go
structure Cfg where
  P : Program
  f_blkeep1_NoOrderTravelsLess : Nat
  f_blkeep1_ready : Nat
  f_blmake_Below : Nat
  f_blref1_PathsFault : Nat
  f_blref1_PointFault : Nat
  f_blref1_in : Nat
  f_blref1_pathFault : Nat
  f_cmp_Compare_int : Nat
  f_cmp_isNaN_int : Nat
  f_farm_CheckJobs : Nat
  f_farm_CheckPlan : Nat
  f_farm_CheckPrinters : Nat
  f_farm_Ends : Nat
  f_farm_clock_do : Nat
  f_farm_ends : Nat
  f_farm_fault : Nat
  f_farm_isChange : Nat
  f_farm_planned : Nat
  f_flow_CheckBeads : Nat
  f_flow_Volume : Nat
  f_flow_volume : Nat
  f_internal_bytealg_IndexByteString : Nat
  f_internal_stringslite_IndexByte : Nat
  f_kit_IsKey : Nat
  f_kit_Outside : Nat
  f_math_bits_Len : Nat
  f_math_bits_Len32 : Nat
  f_math_bits_Len64 : Nat
  f_p_blmake_Stream_Flip : Nat
  f_p_blmake_Stream_Next : Nat
  f_p_blmake_Stream_Odd : Nat
  f_p_blmake_Stream_Order : Nat
  f_p_blmake_Stream_PathList : Nat
  f_p_blmake_Stream_Pick : Nat
  f_p_blmake_Stream_Range : Nat
  f_p_blmake_Stream_RightPaths : Nat
  f_p_path_finder_next : Nat
  f_p_slices_xorshift_Next : Nat
  f_p_strings_asciiSet_contains : Nat
  f_path_Begun : Nat
  f_path_Best : Nat
  f_path_CheckOrder : Nat
  f_path_CheckPaths : Nat
  f_path_Distance : Nat
  f_path_Improved : Nat
  f_path_Nearest : Nat
  f_path_PathFault : Nat
  f_path_Travel : Nat
  f_path_abs : Nat
  f_path_choices : Nat
  f_path_ends : Nat
  f_path_exchange : Nat
  f_path_indicesFault : Nat
  f_path_nearest : Nat
  f_path_orderFault : Nat
  f_path_startFault : Nat
  f_path_startPathsFault : Nat
  f_path_travel : Nat
  f_path_visitFault : Nat
  f_region_Area : Nat
  f_region_CheckRegion : Nat
  f_region_CheckRegion_1 : Nat
  f_region_CheckRing : Nat
  f_region_Doubled : Nat
  f_region_IsFar : Nat
  f_region_Meet : Nat
  f_region_Meet_1 : Nat
  f_region_abs : Nat
  f_region_apart : Nat
  f_region_depths : Nat
  f_region_foldsBack : Nat
  f_region_isIn : Nat
  f_region_sides : Nat
  f_region_sidesFault : Nat
  f_region_turn : Nat
  f_slices_Clone_sl_api_Visit_api_Visit : Nat
  f_slices_ContainsFunc_api_Ring_api_Point : Nat
  f_slices_ContainsFunc_sl_api_Point_api_Point : Nat
  f_slices_Contains_sl_bool_bool : Nat
  f_slices_IndexFunc_api_Ring_api_Point : Nat
  f_slices_IndexFunc_sl_api_Point_api_Point : Nat
  f_slices_Index_sl_bool_bool : Nat
  f_slices_SortFunc_sl_region_side_region_side : Nat
  f_slices_breakPatternsCmpFunc_region_side : Nat
  f_slices_choosePivotCmpFunc_region_side : Nat
  f_slices_heapSortCmpFunc_region_side : Nat
  f_slices_insertionSortCmpFunc_region_side : Nat
  f_slices_medianAdjacentCmpFunc_region_side : Nat
  f_slices_medianCmpFunc_region_side : Nat
  f_slices_nextPowerOfTwo : Nat
  f_slices_order2CmpFunc_region_side : Nat
  f_slices_partialInsertionSortCmpFunc_region_side : Nat
  f_slices_partitionCmpFunc_region_side : Nat
  f_slices_partitionEqualCmpFunc_region_side : Nat
  f_slices_pdqsortCmpFunc_region_side : Nat
  f_slices_reverseRangeCmpFunc_region_side : Nat
  f_slices_siftDownCmpFunc_region_side : Nat
  f_strings_IndexByte : Nat
  f_strings_Trim : Nat
  f_strings_trimLeftASCII : Nat
  f_strings_trimLeftByte : Nat
  f_strings_trimRightASCII : Nat
  f_strings_trimRightByte : Nat
  t_api_Bead : Nat
  t_api_Job : Nat
  t_api_Path : Nat
  t_api_Point : Nat
  t_api_Printer : Nat
  t_api_Ring : Nat
  t_api_Visit : Nat
  t_blmake_Stream : Nat
  t_bool : Nat
  t_farm_clock : Nat
  t_int : Nat
  t_map_api_Point_bool : Nat
  t_map_api_Point_int : Nat
  t_map_int_int : Nat
  t_path_choice : Nat
  t_path_finder : Nat
  t_path_way : Nat
  t_region_side : Nat
  t_sl_api_Bead : Nat
  t_sl_api_Job : Nat
  t_sl_api_Path : Nat
  t_sl_api_Point : Nat
  t_sl_api_Printer : Nat
  t_sl_api_Ring : Nat
  t_sl_api_Visit : Nat
  t_sl_bool : Nat
  t_sl_int : Nat
  t_sl_map_int_int : Nat
  t_sl_path_choice : Nat
  t_sl_region_side : Nat
  t_sl_sl_api_Point : Nat
  t_sl_sl_api_Visit : Nat
  t_sl_sl_int : Nat
  t_sl_sl_path_choice : Nat
  t_slices_xorshift : Nat
  t_string : Nat
  t_strings_asciiSet : Nat
  t_uint : Nat

/-- a slot of a list of values -/
def g (vs : List Value) (i : Nat) : Value := vs.getD i undef
/-- bytes -/
def Bs (l : List Nat) : ByteArray := ⟨(l.map UInt8.ofNat).toArray⟩
end Go.Eng

/-! What each function comes to (printed by gen.py). -/
namespace Go.Eng
open Go

/-- beadlayer/blkeep1.NoOrderTravelsLess -/
def wp_blkeep1_NoOrderTravelsLess (c : Cfg) (a0 : Value) (w : World) (R : Value → World → Prop) : Prop :=
  pureP c.P (Instr.build c.t_blmake_Stream #[(0, a0)]) fun v26 =>
  newP c.t_blmake_Stream (Value.cells v26) w fun v27 w1 =>
  Ret c.P c.f_p_blmake_Stream_Range #[v27, (.int .i64 (-3)), (.int .i64 9)] w1 fun v29 w2 =>
  Ret c.P c.f_p_blmake_Stream_Range #[v27, (.int .i64 (-3)), (.int .i64 9)] w2 fun v31 w3 =>
  pureP c.P (Instr.build c.t_api_Point #[(0, v29), (1, v31)]) fun v32 =>
  Ret c.P c.f_p_blmake_Stream_RightPaths #[v27, (.int .i64 5)] w3 fun v34 w4 =>
  newP c.t_api_Point #[(.int .i64 0), (.int .i64 0)] w4 fun v4 w5 =>
  stA 2 v4 v32 w5 fun w6 =>
  lenP v34 fun v37 =>
  Ret c.P c.f_p_blmake_Stream_Order #[v27, v37] w6 fun v38 w7 =>
  ldA 2 v4 w7 fun v40 =>
  Ret c.P c.f_path_Best #[v40, v34] w7 fun v42 w8 =>
  exP 0 v42 fun v43 =>
  exP 1 v42 fun v44 =>
  exP 2 v42 fun v45 =>
  ldA 2 v4 w8 fun v47 =>
  Ret c.P c.f_path_Nearest #[v47, v34] w8 fun v49 w9 =>
  exP 0 v49 fun v50 =>
  exP 1 v49 fun v51 =>
  exP 2 v49 fun v52 =>
  ldA 2 v4 w9 fun v54 =>
  Ret c.P c.f_path_Begun #[v54, v34, v38] w9 fun v57 w10 =>
  exP 0 v57 fun v58 =>
  exP 1 v57 fun v59 =>
  exP 2 v57 fun v60 =>
  ldA 2 v4 w10 fun v62 =>
  Ret c.P c.f_path_Improved #[v62, v34, v58] w10 fun v65 w11 =>
  exP 0 v65 fun v66 =>
  exP 1 v65 fun v67 =>
  exP 2 v65 fun v68 =>
  joinP (fun k0 =>
    binP .neq v45 (.int .i64 0) fun v70 =>
    guardP v70 false
      (binP .neq v52 (.int .i64 0) fun v73 =>
        guardP v73 false
          (binP .neq v60 (.int .i64 0) fun v77 =>
            guardP v77 false
              (binP .neq v68 (.int .i64 0) fun v81 =>
                guardP v81 false
                  (binP .gtr v44 v51 fun v86 =>
                    guardP v86 false
                      (binP .gtr v44 v67 fun v91 =>
                        guardP v91 false
                          (binP .gtr v67 v59 fun v96 =>
                            k0 [v96] w11)
                          (k0 [(.bool true)] w11))
                      (k0 [(.bool true)] w11))
                  (k0 [(.bool true)] w11))
              (k0 [(.bool true)] w11))
          (k0 [(.bool true)] w11))
      (k0 [(.bool true)] w11)) fun s0 j0 w12 =>
  condP (g s0 0)
    (R (.bool false) w12)
    (semP c.P (Instr.buildSlice c.t_sl_sl_api_Visit 4 #[(0, v43), (1, v50), (2, v58), (3, v66)]) w12 fun v102 w13 =>
      lenP v102 fun v103 =>
      loopP (fun nx1 s1 j1 w14 =>
        binP .lss (g s1 0) v103 fun v105 =>
        condP v105
          (idxP 1 v102 (g s1 0) fun v107 =>
            ld v107 w14 fun v108 =>
            ldA 2 v4 w14 fun v110 =>
            Ret c.P c.f_path_Travel #[v110, v34, v108] w14 fun v113 w15 =>
            exP 0 v113 fun v114 =>
            exP 1 v113 fun v115 =>
            joinP (fun k2 =>
              binP .neq v115 (.int .i64 0) fun v117 =>
              guardP v117 false
                (semP c.P (Instr.buildSlice c.t_sl_int 4 #[(0, v44), (1, v51), (2, v59), (3, v67)]) w15 fun v124 w17 =>
                  idxP 1 v124 (g s1 0) fun v126 =>
                  ld v126 w17 fun v127 =>
                  binP .neq v114 v127 fun v128 =>
                  guardP v128 false
                    (Ret c.P c.f_path_CheckOrder #[v34, v108] w17 fun v133 w18 =>
                      binP .neq v133 (.int .i64 0) fun v134 =>
                      k2 [v134] w18)
                    (k2 [(.bool true)] w17))
                (k2 [(.bool true)] w15)) fun s2 j2 w16 =>
            condP (g s2 0)
              (R (.bool false) w16)
              (binP .add (g s1 0) (.int .i64 1) fun v136 =>
                nx1 [v136] w16))
          (lenP v58 fun v138 =>
            loopP (fun nx3 s3 j3 w19 =>
              binP .lss (g s3 0) v138 fun v140 =>
              condP v140
                (idxP 3 v58 (g s3 0) fun v142 =>
                  ldA 3 v142 w19 fun v143 =>
                  newP c.t_api_Visit #[(.int .i64 0), (.int .i64 0), (.bool false)] w19 fun v24 w20 =>
                  stA 3 v24 v143 w20 fun w21 =>
                  offP 0 v24 fun v144 =>
                  ld v144 w21.drew fun v145 =>
                  idxP 1 v38 (g s3 0) fun v148 =>
                  ld v148 w21.drew fun v149 =>
                  binP .neq v145 v149 fun v150 =>
                  condP v150
                    (R (.bool false) w21.drew)
                    (binP .add (g s3 0) (.int .i64 1) fun v151 =>
                      nx3 [v151] w21.drew))
                (Ret c.P c.f_blkeep1_ready #[] w19 fun v152 w22 =>
                  R v152 w22)) [(.int .i64 0)] w14)) [(.int .i64 0)] w13)

/-- (*beadlayer/blmake.Stream).Range -/
def wp_p_blmake_Stream_Range (c : Cfg) (a0 a1 a2 : Value) (w : World) (R : Value → World → Prop) : Prop :=
  binP .lss a2 a1 fun v9 =>
  condP v9
    (R a1 w)
    (binP .sub a2 a1 fun v15 =>
      binP .add v15 (.int .i64 1) fun v16 =>
      Ret c.P c.f_p_blmake_Stream_Next #[a0, v16] w fun v17 w1 =>
      binP .add a1 v17 fun v18 =>
      R v18 w1)

/-- (*beadlayer/blmake.Stream).RightPaths -/
def wp_p_blmake_Stream_RightPaths (c : Cfg) (a0 a1 : Value) (w : World) (R : Value → World → Prop) : Prop :=
  loopP (fun nx0 s0 j0 w1 =>
    binP .lss (g s0 0) (.int .i64 6) fun v7 =>
    condP v7
      (Ret c.P c.f_p_blmake_Stream_PathList #[a0, a1] w1 fun v10 w2 =>
        Ret c.P c.f_blref1_PathsFault #[v10] w2 fun v12 w3 =>
        binP .eql v12 (.int .i64 0) fun v13 =>
        condP v13
          (R v10 w3)
          (binP .add (g s0 0) (.int .i64 1) fun v15 =>
            nx0 [v15] w3))
      (R (.slice none 0 0) w1)) [(.int .i64 0)] w

/-- (*beadlayer/blmake.Stream).Order -/
def wp_p_blmake_Stream_Order (c : Cfg) (a0 a1 : Value) (w : World) (R : Value → World → Prop) : Prop :=
  loopP (fun nx0 s0 j0 w1 =>
    binP .lss (g s0 1) a1 fun v11 =>
    condP v11
      (semP c.P (Instr.buildSlice c.t_sl_int 1 #[(0, (g s0 1))]) w1 fun v15 w2 =>
        semP c.P (Builtin.append_ #[c.t_sl_int, c.t_sl_int] c.t_sl_int #[(g s0 0), v15]) w2 fun v16 w3 =>
        binP .add (g s0 1) (.int .i64 1) fun v17 =>
        nx0 [v16, v17] w3)
      (binP .sub a1 (.int .i64 1) fun v19 =>
        loopP (fun nx1 s1 j1 w4 =>
          binP .gtr (g s1 0) (.int .i64 0) fun v21 =>
          condP v21
            (binP .add (g s1 0) (.int .i64 1) fun v26 =>
              Ret c.P c.f_p_blmake_Stream_Next #[a0, v26] w4 fun v27 w5 =>
              idxP 1 (g s0 0) v27 fun v34 =>
              ld v34 w5.drew fun v35 =>
              idxP 1 (g s0 0) (g s1 0) fun v38 =>
              ld v38 w5.drew fun v39 =>
              idxP 1 (g s0 0) (g s1 0) fun v40 =>
              st v40 v35 w5.drew fun w6 =>
              idxP 1 (g s0 0) v27 fun v41 =>
              st v41 v39 w6 fun w7 =>
              binP .sub (g s1 0) (.int .i64 1) fun v23 =>
              nx1 [v23] w7)
            (R (g s0 0) w4)) [v19] w1)) [(.slice none 0 0), (.int .i64 0)] w

/-- beadlayer/path.Best -/
def wp_path_Best (c : Cfg) (a0 a1 : Value) (w : World) (R : Value → World → Prop) : Prop :=
  newP c.t_api_Point (Value.cells a0) w fun v2 w1 =>
  ldA 2 v2 w1 fun v22 =>
  Ret c.P c.f_path_startPathsFault #[v22, a1] w1 fun v24 w2 =>
  binP .neq v24 (.int .i64 0) fun v26 =>
  condP v26
    (R (.tuple #[(.slice none 0 0), (.int .i64 0), v24]) w2)
    (lenP a1 fun v29 =>
      binP .gtr v29 (.int .i64 6) fun v30 =>
      condP v30
        (R (.tuple #[(.slice none 0 0), (.int .i64 0), (.int .i64 2)]) w2)
        (pureP c.P (Instr.build c.t_path_finder #[]) fun v31 =>
          newP c.t_path_finder (Value.cells v31) w2 fun v32 w3 =>
          lenP a1 fun v34 =>
          loopP (fun nx0 s0 j0 w4 =>
            binP .lss (g s0 0) v34 fun v36 =>
            condP v36
              (heldP fun S => S w4.drew ∧
                nilP v32 fun v40 =>
                offP 0 v40 fun v41 =>
                ldS S v41 fun v42 =>
                Ret c.P c.f_path_choices #[a1, (g s0 0)] w4.drew fun v45 w5 => S w5 ∧
                semP c.P (Builtin.append_ #[c.t_sl_path_choice, c.t_sl_path_choice] c.t_sl_path_choice #[v42, v45]) w5 fun v46 w6 =>
                nilP v32 fun v47 =>
                offP 0 v47 fun v48 =>
                st v48 v46 w6 fun w7 =>
                binP .add (g s0 0) (.int .i64 1) fun v49 =>
                nx0 [v49] w7)
              (nilP v32 fun v51 =>
                offP 0 v51 fun v52 =>
                ld v52 w4 fun v53 =>
                lenP v53 fun v54 =>
                loopP (fun nx1 s1 j1 w8 =>
                  binP .lss (g s1 0) v54 fun v56 =>
                  condP v56
                    (nilP v32 fun v59 =>
                      offP 1 v59 fun v60 =>
                      ld v60 w8 fun v61 =>
                      semP c.P (Instr.makeMap c.t_map_int_int none) w8 fun v62 w9 =>
                      semP c.P (Instr.mapUpdate c.t_map_int_int v62 (.int .i64 0) (.int .i64 0)) w9 fun _ w10 =>
                      semP c.P (Instr.buildSlice c.t_sl_map_int_int 1 #[(0, v62)]) w10 fun v64 w11 =>
                      semP c.P (Builtin.append_ #[c.t_sl_map_int_int, c.t_sl_map_int_int] c.t_sl_map_int_int #[v61, v64]) w11 fun v65 w12 =>
                      nilP v32 fun v66 =>
                      offP 1 v66 fun v67 =>
                      st v67 v65 w12 fun w13 =>
                      binP .add (g s1 0) (.int .i64 1) fun v68 =>
                      nx1 [v68] w13)
                    (loopP (fun nx2 s2 j2 w14 =>
                        lenP a1 fun v71 =>
                        pureP c.P (do eqGuard .shl c.t_int (.const (.int .i64 1)) (.tmp 71) (.int .i64 1) v71; binOp .shl c.t_int (.int .i64 1) v71) fun v72 =>
                        binP .lss (g s2 0) v72 fun v73 =>
                        condP v73
                          (semP c.P (Instr.makeMap c.t_map_api_Point_int none) w14 fun v76 w15 =>
                            nilP v32 fun v78 =>
                            offP 0 v78 fun v79 =>
                            ld v79 w15 fun v80 =>
                            lenP v80 fun v81 =>
                            loopP (fun nx3 s3 j3 w16 =>
                              binP .lss (g s3 0) v81 fun v83 =>
                              condP v83
                                (joinP (fun k4 =>
                                    idxP 7 v80 (g s3 0) fun v85 =>
                                    ldA 7 v85 w16 fun v86 =>
                                    newP c.t_path_choice #[(.int .i64 0), (.int .i64 0), (.bool false), (.int .i64 0), (.int .i64 0), (.int .i64 0), (.int .i64 0)] w16 fun v13 w18 =>
                                    stA 7 v13 v86 w18 fun w19 =>
                                    offP 0 v13 fun v88 =>
                                    offP 0 v88 fun v89 =>
                                    ld v89 w19 fun v90 =>
                                    pureP c.P (do eqGuard .shr c.t_int (.tmp 87) (.tmp 90) (g s2 0) v90; binOp .shr c.t_int (g s2 0) v90) fun v91 =>
                                    pureP c.P (do eqGuard .and c.t_int (.tmp 91) (.const (.int .i64 1)) v91 (.int .i64 1); binOp .and c.t_int v91 (.int .i64 1)) fun v92 =>
                                    binP .eql v92 (.int .i64 1) fun v93 =>
                                    condP v93
                                      (k4 [] w19)
                                      (offP 5 v13 fun v96 =>
                                        ldA 2 v96 w19 fun v97 =>
                                        semP c.P (Instr.lookup c.t_map_api_Point_int v76 v97 true) w19 fun v98 w20 =>
                                        exP 0 v98 fun v99 =>
                                        exP 1 v98 fun v100 =>
                                        notP v100 fun v102 =>
                                        joinP (fun k5 => condP v102
                                          (offP 5 v13 fun v105 =>
                                            ldA 2 v105 w20 fun v106 =>
                                            Ret c.P c.f_p_path_finder_next #[v32, v106, (g s2 0)] w20 fun v108 w22 =>
                                            exP 0 v108 fun v109 =>
                                            exP 1 v108 fun v110 =>
                                            offP 5 v13 fun v112 =>
                                            ldA 2 v112 w22 fun v113 =>
                                            semP c.P (Instr.mapUpdate c.t_map_api_Point_int v76 v113 v110) w22 fun _ w23 =>
                                            k5 [v110] w23)
                                          (k5 [v99] w20)) fun s5 j5 w21 =>
                                        nilP v32 fun v116 =>
                                        offP 1 v116 fun v117 =>
                                        ld v117 w21 fun v118 =>
                                        idxP 1 v118 (g s3 0) fun v120 =>
                                        ld v120 w21 fun v121 =>
                                        semP c.P (Instr.mapUpdate c.t_map_int_int v121 (g s2 0) (g s5 0)) w21 fun _ w24 =>
                                        k4 [] w24)) fun s4 j4 w17 =>
                                  binP .add (g s3 0) (.int .i64 1) fun v124 =>
                                  nx3 [v124] w17)
                                (binP .add (g s2 0) (.int .i64 1) fun v75 =>
                                  nx2 [v75] w16)) [(.int .i64 0)] w15)
                          (ldA 2 v2 w14 fun v125 =>
                            newP c.t_api_Point #[(.int .i64 0), (.int .i64 0)] w14 fun v17 w25 =>
                            stA 2 v17 v125 w25 fun w26 =>
                            lenP a1 fun v127 =>
                            pureP c.P (do eqGuard .shl c.t_int (.const (.int .i64 1)) (.tmp 127) (.int .i64 1) v127; binOp .shl c.t_int (.int .i64 1) v127) fun v128 =>
                            binP .sub v128 (.int .i64 1) fun v129 =>
                            loopP (fun nx6 s6 j6 w27 =>
                              binP .gtr (g s6 1) (.int .i64 0) fun v131 =>
                              condP v131
                                (ldA 2 v17 w27 fun v134 =>
                                  Ret c.P c.f_p_path_finder_next #[v32, v134, (g s6 1)] w27 fun v136 w28 =>
                                  exP 0 v136 fun v137 =>
                                  exP 1 v136 fun v138 =>
                                  nilP v32 fun v140 =>
                                  offP 0 v140 fun v141 =>
                                  ld v141 w28 fun v142 =>
                                  idxP 7 v142 v137 fun v144 =>
                                  ldA 7 v144 w28 fun v145 =>
                                  newP c.t_path_choice #[(.int .i64 0), (.int .i64 0), (.bool false), (.int .i64 0), (.int .i64 0), (.int .i64 0), (.int .i64 0)] w28 fun v21 w29 =>
                                  stA 7 v21 v145 w29 fun w30 =>
                                  offP 0 v21 fun v147 =>
                                  ldA 3 v147 w30 fun v148 =>
                                  semP c.P (Instr.buildSlice c.t_sl_api_Visit 1 #[(0, v148)]) w30 fun v149 w31 =>
                                  semP c.P (Builtin.append_ #[c.t_sl_api_Visit, c.t_sl_api_Visit] c.t_sl_api_Visit #[(g s6 0), v149]) w31 fun v150 w32 =>
                                  heldP fun S => S w32.drew ∧
                                  offP 5 v21 fun v151 =>
                                  ldAS S 2 v151 fun v152 =>
                                  offP 0 v21 fun v154 =>
                                  offP 0 v154 fun v155 =>
                                  ldS S v155 fun v156 =>
                                  pureP c.P (do eqGuard .shl c.t_int (.const (.int .i64 1)) (.tmp 156) (.int .i64 1) v156; binOp .shl c.t_int (.int .i64 1) v156) fun v157 =>
                                  pureP c.P (do eqGuard .andNot c.t_int (.tmp 153) (.tmp 157) (g s6 1) v157; binOp .andNot c.t_int (g s6 1) v157) fun v158 =>
                                  stA 2 v17 v152 w32.drew fun w33 => S w33 ∧
                                  nx6 [v150, v158] w33)
                                (ldA 2 v2 w27 fun v160 =>
                                  Ret c.P c.f_path_travel #[v160, a1, (g s6 0)] w27 fun v163 w34 =>
                                  R (.tuple #[(g s6 0), v163, (.int .i64 0)]) w34)) [(.slice none 0 0), v129] w26)) [(.int .i64 1)] w8)) [(.int .i64 0)] w4)) [(.int .i64 0)] w3))

/-- beadlayer/path.Nearest -/
def wp_path_Nearest (c : Cfg) (a0 a1 : Value) (w : World) (R : Value → World → Prop) : Prop :=
  newP c.t_api_Point (Value.cells a0) w fun v2 w1 =>
  ldA 2 v2 w1 fun v16 =>
  Ret c.P c.f_path_startPathsFault #[v16, a1] w1 fun v18 w2 =>
  binP .neq v18 (.int .i64 0) fun v20 =>
  condP v20
    (R (.tuple #[(.slice none 0 0), (.int .i64 0), v18]) w2)
    (lenP a1 fun v23 =>
      semP c.P (Instr.makeSlice c.t_sl_bool v23 v23) w2 fun v24 w3 =>
      ldA 2 v2 w3 fun v25 =>
      newP c.t_api_Point #[(.int .i64 0), (.int .i64 0)] w3 fun v10 w4 =>
      stA 2 v10 v25 w4 fun w5 =>
      lenP a1 fun v27 =>
      loopP (fun nx0 s0 j0 w6 =>
        binP .lss (g s0 1) v27 fun v29 =>
        condP v29
          (newP c.t_path_choice #[(.int .i64 0), (.int .i64 0), (.bool false), (.int .i64 0), (.int .i64 0), (.int .i64 0), (.int .i64 0)] w6 fun v11 w7 =>
            lenP a1 fun v31 =>
            loopP (fun nx1 s1 j1 w8 =>
              binP .lss (g s1 1) v31 fun v33 =>
              condP v33
                (joinP (fun k2 =>
                    idxP 1 v24 (g s1 1) fun v37 =>
                    ld v37 w8 fun v38 =>
                    condP v38
                      (k2 [(g s1 0)] w8)
                      (Ret c.P c.f_path_choices #[a1, (g s1 1)] w8 fun v41 w10 =>
                        lenP v41 fun v42 =>
                        loopP (fun nx3 s3 j3 w11 =>
                          binP .lss (g s3 1) v42 fun v44 =>
                          condP v44
                            (joinP (fun k4 =>
                                idxP 7 v41 (g s3 1) fun v45 =>
                                ldA 7 v45 w11 fun v46 =>
                                newP c.t_path_choice #[(.int .i64 0), (.int .i64 0), (.bool false), (.int .i64 0), (.int .i64 0), (.int .i64 0), (.int .i64 0)] w11 fun v15 w13 =>
                                stA 7 v15 v46 w13 fun w14 =>
                                joinP (fun k5 =>
                                  heldP fun S => S w14.drew ∧
                                  notP (g s3 0) fun v48 =>
                                  guardP v48 false
                                    (ldAS S 2 v10 fun v50 =>
                                      offP 3 v15 fun v51 =>
                                      ldAS S 2 v51 fun v52 =>
                                      ldAS S 2 v10 fun v54 =>
                                      offP 3 v11 fun v55 =>
                                      ldAS S 2 v55 fun v56 =>
                                      Ret c.P c.f_path_Distance #[v50, v52] w14.drew fun v53 w16 => S w16 ∧
                                      Ret c.P c.f_path_Distance #[v54, v56] w16 fun v57 w17 => S w17 ∧
                                      binP .lss v53 v57 fun v58 =>
                                      k5 [v58] w17)
                                    (k5 [(.bool true)] w14.drew)) fun s5 j5 w15 =>
                                joinP (fun k6 => condP (g s5 0)
                                  (ldA 7 v15 w15 fun v60 =>
                                    stA 7 v11 v60 w15 fun w19 =>
                                    k6 [(.bool true)] w19)
                                  (k6 [(g s3 0)] w15)) fun s6 j6 w18 =>
                                k4 [(g s6 0)] w18) fun s4 j4 w12 =>
                              binP .add (g s3 1) (.int .i64 1) fun v61 =>
                              nx3 [(g s4 0), v61] w12)
                            (k2 [(g s3 0)] w11)) [(g s1 0), (.int .i64 0)] w10)) fun s2 j2 w9 =>
                  binP .add (g s1 1) (.int .i64 1) fun v62 =>
                  nx1 [(g s2 0), v62] w9)
                (offP 0 v11 fun v64 =>
                  offP 0 v64 fun v65 =>
                  ld v65 w8 fun v66 =>
                  idxP 1 v24 v66 fun v67 =>
                  st v67 (.bool true) w8 fun w20 =>
                  offP 0 v11 fun v69 =>
                  ldA 3 v69 w20 fun v70 =>
                  semP c.P (Instr.buildSlice c.t_sl_api_Visit 1 #[(0, v70)]) w20 fun v71 w21 =>
                  semP c.P (Builtin.append_ #[c.t_sl_api_Visit, c.t_sl_api_Visit] c.t_sl_api_Visit #[(g s0 0), v71]) w21 fun v72 w22 =>
                  offP 5 v11 fun v73 =>
                  ldA 2 v73 w22 fun v74 =>
                  stA 2 v10 v74 w22 fun w23 =>
                  binP .add (g s0 1) (.int .i64 1) fun v75 =>
                  nx0 [v72, v75] w23)) [(.bool false), (.int .i64 0)] w7)
          (ldA 2 v2 w6 fun v77 =>
            Ret c.P c.f_path_travel #[v77, a1, (g s0 0)] w6 fun v80 w24 =>
            R (.tuple #[(g s0 0), v80, (.int .i64 0)]) w24)) [(.slice none 0 0), (.int .i64 0)] w5)

/-- beadlayer/path.Begun -/
def wp_path_Begun (c : Cfg) (a0 a1 a2 : Value) (w : World) (R : Value → World → Prop) : Prop :=
  newP c.t_api_Point (Value.cells a0) w fun v3 w1 =>
  ldA 2 v3 w1 fun v21 =>
  Ret c.P c.f_path_startPathsFault #[v21, a1] w1 fun v23 w2 =>
  binP .neq v23 (.int .i64 0) fun v25 =>
  condP v25
    (R (.tuple #[(.slice none 0 0), (.int .i64 0), v23]) w2)
    (lenP a1 fun v28 =>
      Ret c.P c.f_path_indicesFault #[v28, a2] w2 fun v30 w3 =>
      binP .neq v30 (.int .i64 0) fun v32 =>
      condP v32
        (R (.tuple #[(.slice none 0 0), (.int .i64 0), v30]) w3)
        (lenP a2 fun v35 =>
          semP c.P (Instr.makeSlice c.t_sl_sl_path_choice v35 v35) w3 fun v36 w4 =>
          lenP a2 fun v38 =>
          binP .add v38 (.int .i64 1) fun v39 =>
          semP c.P (Instr.makeSlice c.t_sl_sl_int v39 v39) w4 fun v40 w5 =>
          lenP a2 fun v42 =>
          binP .sub v42 (.int .i64 1) fun v43 =>
          loopP (fun nx0 s0 j0 w6 =>
            binP .geq (g s0 0) (.int .i64 0) fun v45 =>
            condP v45
              (idxP 1 a2 (g s0 0) fun v53 =>
                ld v53 w6 fun v54 =>
                Ret c.P c.f_path_choices #[a1, v54] w6 fun v55 w7 =>
                idxP 1 v36 (g s0 0) fun v56 =>
                st v56 v55 w7 fun w8 =>
                idxP 1 v36 (g s0 0) fun v59 =>
                ld v59 w8 fun v60 =>
                lenP v60 fun v61 =>
                loopP (fun nx1 s1 j1 w9 =>
                  binP .lss (g s1 0) v61 fun v63 =>
                  condP v63
                    (idxP 7 v60 (g s1 0) fun v64 =>
                      ldA 7 v64 w9 fun v65 =>
                      newP c.t_path_choice #[(.int .i64 0), (.int .i64 0), (.bool false), (.int .i64 0), (.int .i64 0), (.int .i64 0), (.int .i64 0)] w9 fun v15 w10 =>
                      stA 7 v15 v65 w10 fun w11 =>
                      binP .add (g s0 0) (.int .i64 1) fun v67 =>
                      lenP a2 fun v69 =>
                      binP .lss v67 v69 fun v70 =>
                      joinP (fun k2 => condP v70
                        (heldP fun S => S w11.drew ∧
                          offP 5 v15 fun v71 =>
                          ldAS S 2 v71 fun v72 =>
                          binP .add (g s0 0) (.int .i64 1) fun v75 =>
                          idxP 1 v36 v75 fun v76 =>
                          ldS S v76 fun v77 =>
                          binP .add (g s0 0) (.int .i64 1) fun v80 =>
                          idxP 1 v40 v80 fun v81 =>
                          ldS S v81 fun v82 =>
                          Ret c.P c.f_path_nearest #[v72, v77, v82] w11.drew fun v83 w13 => S w13 ∧
                          fld1 1 v83 fun v84 =>
                          k2 [v84] w13)
                        (k2 [(.int .i64 0)] w11)) fun s2 j2 w12 =>
                      idxP 1 v40 (g s0 0) fun v89 =>
                      ld v89 w12 fun v90 =>
                      semP c.P (Instr.buildSlice c.t_sl_int 1 #[(0, (g s2 0))]) w12 fun v92 w14 =>
                      semP c.P (Builtin.append_ #[c.t_sl_int, c.t_sl_int] c.t_sl_int #[v90, v92]) w14 fun v93 w15 =>
                      idxP 1 v40 (g s0 0) fun v94 =>
                      st v94 v93 w15 fun w16 =>
                      binP .add (g s1 0) (.int .i64 1) fun v95 =>
                      nx1 [v95] w16)
                    (binP .sub (g s0 0) (.int .i64 1) fun v47 =>
                      nx0 [v47] w9)) [(.int .i64 0)] w8)
              (ldA 2 v3 w6 fun v96 =>
                newP c.t_api_Point #[(.int .i64 0), (.int .i64 0)] w6 fun v18 w17 =>
                stA 2 v18 v96 w17 fun w18 =>
                lenP a2 fun v98 =>
                loopP (fun nx3 s3 j3 w19 =>
                  binP .lss (g s3 1) v98 fun v100 =>
                  condP v100
                    (joinP (fun k4 =>
                        heldP fun S => S w19.drew ∧
                        idxP 1 v36 (g s3 1) fun v104 =>
                        ldS S v104 fun v105 =>
                        ldAS S 2 v18 fun v106 =>
                        idxP 1 v36 (g s3 1) fun v109 =>
                        ldS S v109 fun v110 =>
                        idxP 1 v40 (g s3 1) fun v113 =>
                        ldS S v113 fun v114 =>
                        (Ret c.P c.f_path_nearest #[v106, v110, v114] w19.drew fun v115 w21 => S w21 ∧
                          fld1 0 v115 fun v116 =>
                          idxP 7 v105 v116 fun v117 =>
                          ldAS S 7 v117 fun v118 =>
                          newP c.t_path_choice #[(.int .i64 0), (.int .i64 0), (.bool false), (.int .i64 0), (.int .i64 0), (.int .i64 0), (.int .i64 0)] w21 fun v20 w22 => S w22 ∧
                          stA 7 v20 v118 w22 fun w23 =>
                          k4 [v20] w23)
                        ∧ (newP c.t_path_choice #[(.int .i64 0), (.int .i64 0), (.bool false), (.int .i64 0), (.int .i64 0), (.int .i64 0), (.int .i64 0)] w19.drew fun v20_1 w24 => S w24 ∧
                          Ret c.P c.f_path_nearest #[v106, v110, v114] w24 fun v115_1 w25 => S w25 ∧
                          fld1 0 v115_1 fun v116_1 =>
                          idxP 7 v105 v116_1 fun v117_1 =>
                          ldAS S 7 v117_1 fun v118_1 =>
                          stA 7 v20_1 v118_1 w25 fun w26 =>
                          k4 [v20_1] w26)) fun s4 j4 w20 =>
                      offP 0 (g s4 0) fun v120 =>
                      ldA 3 v120 w20 fun v121 =>
                      semP c.P (Instr.buildSlice c.t_sl_api_Visit 1 #[(0, v121)]) w20 fun v122 w27 =>
                      semP c.P (Builtin.append_ #[c.t_sl_api_Visit, c.t_sl_api_Visit] c.t_sl_api_Visit #[(g s3 0), v122]) w27 fun v123 w28 =>
                      offP 5 (g s4 0) fun v124 =>
                      ldA 2 v124 w28 fun v125 =>
                      stA 2 v18 v125 w28 fun w29 =>
                      binP .add (g s3 1) (.int .i64 1) fun v126 =>
                      nx3 [v123, v126] w29)
                    (ldA 2 v3 w19 fun v128 =>
                      Ret c.P c.f_path_travel #[v128, a1, (g s3 0)] w19 fun v131 w30 =>
                      R (.tuple #[(g s3 0), v131, (.int .i64 0)]) w30)) [(.slice none 0 0), (.int .i64 0)] w18)) [v43] w5))

/-- beadlayer/path.Improved -/
def wp_path_Improved (c : Cfg) (a0 a1 a2 : Value) (w : World) (R : Value → World → Prop) : Prop :=
  newP c.t_api_Point (Value.cells a0) w fun v3 w1 =>
  ldA 2 v3 w1 fun v10 =>
  Ret c.P c.f_path_startFault #[v10, a1, a2] w1 fun v13 w2 =>
  binP .neq v13 (.int .i64 0) fun v15 =>
  condP v15
    (R (.tuple #[(.slice none 0 0), (.int .i64 0), v13]) w2)
    (Ret c.P c.f_slices_Clone_sl_api_Visit_api_Visit #[a2] w2 fun v18 w3 =>
      loopP (fun nx0 s0 j0 w4 =>
        ldA 2 v3 w4 fun v19 =>
        Ret c.P c.f_path_exchange #[v19, a1, v18] w4 fun v22 w5 =>
        condP v22
          (nx0 [] w5)
          (ldA 2 v3 w5 fun v24 =>
            Ret c.P c.f_path_travel #[v24, a1, v18] w5 fun v27 w6 =>
            R (.tuple #[v18, v27, (.int .i64 0)]) w6)) [] w3)

/-- beadlayer/path.Travel -/
def wp_path_Travel (c : Cfg) (a0 a1 a2 : Value) (w : World) (R : Value → World → Prop) : Prop :=
  newP c.t_api_Point (Value.cells a0) w fun v3 w1 =>
  ldA 2 v3 w1 fun v9 =>
  Ret c.P c.f_path_startFault #[v9, a1, a2] w1 fun v12 w2 =>
  binP .neq v12 (.int .i64 0) fun v14 =>
  condP v14
    (R (.tuple #[(.int .i64 0), v12]) w2)
    (ldA 2 v3 w2 fun v16 =>
      Ret c.P c.f_path_travel #[v16, a1, a2] w2 fun v19 w3 =>
      R (.tuple #[v19, (.int .i64 0)]) w3)

/-- beadlayer/path.CheckOrder -/
def wp_path_CheckOrder (c : Cfg) (a0 a1 : Value) (w : World) (R : Value → World → Prop) : Prop :=
  Ret c.P c.f_path_CheckPaths #[a0] w fun v7 w1 =>
  binP .neq v7 (.int .i64 0) fun v9 =>
  condP v9
    (R v7 w1)
    (Ret c.P c.f_path_orderFault #[a0, a1] w1 fun v13 w2 =>
      R v13 w2)

/-- beadlayer/blkeep1.ready -/
def wp_blkeep1_ready (c : Cfg) (w : World) (R : Value → World → Prop) : Prop :=
  pureP c.P (Instr.build c.t_api_Bead #[(0, (.int .i64 10)), (1, (.int .i64 3)), (2, (.int .i64 2))]) fun v9 =>
  semP c.P (Instr.buildSlice c.t_sl_api_Bead 1 #[(0, v9)]) w fun v10 w1 =>
  Ret c.P c.f_flow_Volume #[v10] w1 fun v11 w2 =>
  exP 0 v11 fun v12 =>
  exP 1 v11 fun v13 =>
  pureP c.P (Instr.build c.t_api_Point #[]) fun v15 =>
  pureP c.P (Instr.build c.t_api_Point #[(0, (.int .i64 4))]) fun v16 =>
  pureP c.P (Instr.build c.t_api_Point #[(0, (.int .i64 4)), (1, (.int .i64 4))]) fun v17 =>
  pureP c.P (Instr.build c.t_api_Point #[(1, (.int .i64 4))]) fun v18 =>
  semP c.P (Instr.buildSlice c.t_api_Ring 4 #[(0, v15), (1, v16), (2, v17), (3, v18)]) w2 fun v19 w3 =>
  semP c.P (Instr.buildSlice c.t_sl_api_Ring 1 #[(0, v19)]) w3 fun v20 w4 =>
  Ret c.P c.f_region_Area #[v20] w4 fun v21 w5 =>
  exP 0 v21 fun v22 =>
  exP 1 v21 fun v23 =>
  pureP c.P (Instr.build c.t_api_Printer #[(0, (.string (Bs [112]))), (1, (.string (Bs [97])))]) fun v25 =>
  semP c.P (Instr.buildSlice c.t_sl_api_Printer 1 #[(0, v25)]) w5 fun v26 w6 =>
  pureP c.P (Instr.build c.t_api_Job #[(0, (.string (Bs [106]))), (1, (.string (Bs [98]))), (2, (.int .i64 20))]) fun v27 =>
  semP c.P (Instr.buildSlice c.t_sl_api_Job 1 #[(0, v27)]) w6 fun v28 w7 =>
  semP c.P (Instr.buildSlice c.t_sl_int 1 #[(0, (.int .i64 0))]) w7 fun v29 w8 =>
  semP c.P (Instr.buildSlice c.t_sl_sl_int 1 #[(0, v29)]) w8 fun v30 w9 =>
  Ret c.P c.f_farm_Ends #[v26, v28, v30, (.int .i64 5)] w9 fun v31 w10 =>
  exP 0 v31 fun v32 =>
  exP 1 v31 fun v33 =>
  exP 2 v31 fun v34 =>
  joinP (fun k0 =>
    binP .eql v13 (.int .i64 0) fun v36 =>
    guardP v36 true
      (binP .eql v12 (.int .i64 60) fun v39 =>
        guardP v39 true
          (binP .eql v23 (.int .i64 0) fun v43 =>
            guardP v43 true
              (binP .eql v22 (.int .i64 32) fun v47 =>
                guardP v47 true
                  (binP .eql v34 (.int .i64 0) fun v51 =>
                    guardP v51 true
                      (binP .eql v33 (.int .i64 25) fun v55 =>
                        guardP v55 true
                          (lenP v32 fun v59 =>
                            binP .eql v59 (.int .i64 1) fun v60 =>
                            k0 [v60] w10)
                          (k0 [(.bool false)] w10))
                      (k0 [(.bool false)] w10))
                  (k0 [(.bool false)] w10))
              (k0 [(.bool false)] w10))
          (k0 [(.bool false)] w10))
      (k0 [(.bool false)] w10)) fun s0 j0 w11 =>
  R (g s0 0) w11

/-- (*beadlayer/blmake.Stream).Next -/
def wp_p_blmake_Stream_Next (c : Cfg) (a0 a1 : Value) (w : World) (R : Value → World → Prop) : Prop :=
  nilP a0 fun v8 =>
  offP 1 v8 fun v9 =>
  ld v9 w fun v10 =>
  binP .add v10 (.int .i64 1) fun v11 =>
  nilP a0 fun v12 =>
  offP 1 v12 fun v13 =>
  st v13 v11 w fun w1 =>
  nilP a0 fun v15 =>
  offP 0 v15 fun v16 =>
  ld v16 w1 fun v17 =>
  lenP v17 fun v18 =>
  binP .eql v18 (.int .i64 0) fun v19 =>
  condP v19
    (nilP a0 fun v21 =>
      offP 1 v21 fun v22 =>
      ld v22 w1 fun v23 =>
      binP .mul v23 (.int .i64 7919) fun v24 =>
      Ret c.P c.f_blmake_Below #[v24, a1] w1 fun v26 w2 =>
      R v26 w2)
    (nilP a0 fun v28 =>
      offP 1 v28 fun v29 =>
      ld v29 w1.drew fun v30 =>
      binP .sub v30 (.int .i64 1) fun v31 =>
      nilP a0 fun v33 =>
      offP 0 v33 fun v34 =>
      ld v34 w1.drew fun v35 =>
      lenP v35 fun v36 =>
      binP .rem v31 v36 fun v37 =>
      nilP a0 fun v39 =>
      offP 1 v39 fun v40 =>
      ld v40 w1.drew.drew fun v41 =>
      binP .sub v41 (.int .i64 1) fun v42 =>
      nilP a0 fun v44 =>
      offP 0 v44 fun v45 =>
      ld v45 w1.drew.drew fun v46 =>
      lenP v46 fun v47 =>
      binP .quo v42 v47 fun v48 =>
      nilP a0 fun v50 =>
      offP 0 v50 fun v51 =>
      ld v51 w1.drew.drew fun v52 =>
      idxP 1 v52 v37 fun v54 =>
      ld v54 w1.drew.drew fun v55 =>
      Ret c.P c.f_blmake_Below #[v55, (.int .i64 1073741824)] w1.drew.drew fun v56 w3 =>
      binP .add (.int .i64 7919) v37 fun v59 =>
      binP .mul v48 v59 fun v60 =>
      binP .add v56 v60 fun v61 =>
      Ret c.P c.f_blmake_Below #[v61, a1] w3 fun v63 w4 =>
      R v63 w4)

/-- (*beadlayer/blmake.Stream).PathList -/
def wp_p_blmake_Stream_PathList (c : Cfg) (a0 a1 : Value) (w : World) (R : Value → World → Prop) : Prop :=
  Ret c.P c.f_p_blmake_Stream_Range #[a0, (.int .i64 0), a1] w fun v10 w1 =>
  loopP (fun nx0 s0 j0 w2 =>
    binP .lss (g s0 1) v10 fun v12 =>
    condP v12
      (newP c.t_api_Path #[(.slice none 0 0), (.bool false)] w2 fun v6 w3 =>
        Ret c.P c.f_p_blmake_Stream_Range #[a0, (.int .i64 1), (.int .i64 4)] w3 fun v14 w4 =>
        loopP (fun nx1 s1 j1 w5 =>
          binP .lss (g s1 0) v14 fun v16 =>
          condP v16
            (joinP (fun k2 =>
                heldP fun S => S w5.drew ∧
                offP 0 v6 fun v17 =>
                ldS S v17 fun v18 =>
                (semP c.P (Instr.buildSlice c.t_sl_int 5 #[(0, (.int .i64 0)), (1, (.int .i64 1)), (2, (.int .i64 2)), (3, (.int .i64 5)), (4, (.int .i64 9))]) w5.drew fun v20 w7 => S w7 ∧
                  (Ret c.P c.f_p_blmake_Stream_Pick #[a0, v20] w7 fun v21 w8 => S w8 ∧
                    semP c.P (Instr.buildSlice c.t_sl_int 4 #[(0, (.int .i64 0)), (1, (.int .i64 0)), (2, (.int .i64 1)), (3, (.int .i64 4))]) w8 fun v23 w9 => S w9 ∧
                    Ret c.P c.f_p_blmake_Stream_Pick #[a0, v23] w9 fun v24 w10 => S w10 ∧
                    pureP c.P (Instr.build c.t_api_Point #[(0, v21), (1, v24)]) fun v25 =>
                    semP c.P (Instr.buildSlice c.t_sl_api_Point 1 #[(0, v25)]) w10 fun v26 w11 => S w11 ∧
                    semP c.P (Builtin.append_ #[c.t_sl_api_Point, c.t_sl_api_Point] c.t_sl_api_Point #[v18, v26]) w11 fun v27 w12 =>
                    offP 0 v6 fun v28 =>
                    st v28 v27 w12 fun w13 =>
                    k2 [] w13)
                  ∧ (semP c.P (Instr.buildSlice c.t_sl_int 4 #[(0, (.int .i64 0)), (1, (.int .i64 0)), (2, (.int .i64 1)), (3, (.int .i64 4))]) w7 fun v23_1 w14 => S w14 ∧
                    Ret c.P c.f_p_blmake_Stream_Pick #[a0, v20] w14 fun v21_1 w15 => S w15 ∧
                    Ret c.P c.f_p_blmake_Stream_Pick #[a0, v23_1] w15 fun v24_1 w16 => S w16 ∧
                    pureP c.P (Instr.build c.t_api_Point #[(0, v21_1), (1, v24_1)]) fun v25_1 =>
                    semP c.P (Instr.buildSlice c.t_sl_api_Point 1 #[(0, v25_1)]) w16 fun v26_1 w17 => S w17 ∧
                    semP c.P (Builtin.append_ #[c.t_sl_api_Point, c.t_sl_api_Point] c.t_sl_api_Point #[v18, v26_1]) w17 fun v27_1 w18 =>
                    offP 0 v6 fun v28_1 =>
                    st v28_1 v27_1 w18 fun w19 =>
                    k2 [] w19))
                ∧ (semP c.P (Instr.buildSlice c.t_sl_int 4 #[(0, (.int .i64 0)), (1, (.int .i64 0)), (2, (.int .i64 1)), (3, (.int .i64 4))]) w5.drew fun v23_2 w20 => S w20 ∧
                  semP c.P (Instr.buildSlice c.t_sl_int 5 #[(0, (.int .i64 0)), (1, (.int .i64 1)), (2, (.int .i64 2)), (3, (.int .i64 5)), (4, (.int .i64 9))]) w20 fun v20_1 w21 => S w21 ∧
                  Ret c.P c.f_p_blmake_Stream_Pick #[a0, v20_1] w21 fun v21_2 w22 => S w22 ∧
                  Ret c.P c.f_p_blmake_Stream_Pick #[a0, v23_2] w22 fun v24_2 w23 => S w23 ∧
                  pureP c.P (Instr.build c.t_api_Point #[(0, v21_2), (1, v24_2)]) fun v25_2 =>
                  semP c.P (Instr.buildSlice c.t_sl_api_Point 1 #[(0, v25_2)]) w23 fun v26_2 w24 => S w24 ∧
                  semP c.P (Builtin.append_ #[c.t_sl_api_Point, c.t_sl_api_Point] c.t_sl_api_Point #[v18, v26_2]) w24 fun v27_2 w25 =>
                  offP 0 v6 fun v28_2 =>
                  st v28_2 v27_2 w25 fun w26 =>
                  k2 [] w26)) fun s2 j2 w6 =>
              binP .add (g s1 0) (.int .i64 1) fun v29 =>
              nx1 [v29] w6)
            (joinP (fun k3 =>
                offP 0 v6 fun v30 =>
                ld v30 w5 fun v31 =>
                lenP v31 fun v32 =>
                binP .gtr v32 (.int .i64 2) fun v33 =>
                guardP v33 true
                  (Ret c.P c.f_p_blmake_Stream_Flip #[a0, (.int .i64 2)] w5 fun v36 w28 =>
                    offP 1 v6 fun v38 =>
                    st v38 v36 w28 fun w29 =>
                    k3 [] w29)
                  (offP 1 v6 fun v38_1 =>
                    st v38_1 (.bool false) w5 fun w30 =>
                    k3 [] w30)) fun s3 j3 w27 =>
              ldA 2 v6 w27 fun v40 =>
              semP c.P (Instr.buildSlice c.t_sl_api_Path 1 #[(0, v40)]) w27 fun v41 w31 =>
              semP c.P (Builtin.append_ #[c.t_sl_api_Path, c.t_sl_api_Path] c.t_sl_api_Path #[(g s0 0), v41]) w31 fun v42 w32 =>
              binP .add (g s0 1) (.int .i64 1) fun v43 =>
              nx0 [v42, v43] w32)) [(.int .i64 0)] w4)
      (joinP (fun k4 =>
          lenP (g s0 0) fun v45 =>
          binP .gtr v45 (.int .i64 0) fun v46 =>
          guardP v46 true
            (Ret c.P c.f_p_blmake_Stream_Flip #[a0, (.int .i64 15)] w2 fun v49 w34 =>
              k4 [v49] w34)
            (k4 [(.bool false)] w2)) fun s4 j4 w33 =>
        joinP (fun k5 => condP (g s4 0)
          (lenP (g s0 0) fun v54 =>
            Ret c.P c.f_p_blmake_Stream_Next #[a0, v54] w33 fun v55 w36 =>
            idxP 2 (g s0 0) v55 fun v56 =>
            Ret c.P c.f_p_blmake_Stream_Flip #[a0, (.int .i64 2)] w36 fun v60 w37 =>
            pureP c.P (Instr.build c.t_api_Point #[(0, (.int .i64 1))]) fun v61 =>
            semP c.P (Instr.buildSlice c.t_sl_api_Point 1 #[(0, v61)]) w37 fun v62 w38 =>
            pureP c.P (Instr.build c.t_api_Point #[(0, (.int .i64 1))]) fun v63 =>
            Ret c.P c.f_p_blmake_Stream_Odd #[a0, (.int .i64 (-100000)), (.int .i64 100000)] w38 fun v65 w39 =>
            pureP c.P (Instr.build c.t_api_Point #[(0, v65)]) fun v66 =>
            semP c.P (Instr.buildSlice c.t_sl_api_Point 2 #[(0, v63), (1, v66)]) w39 fun v67 w40 =>
            semP c.P (Instr.buildSlice c.t_sl_sl_api_Point 3 #[(0, (.slice none 0 0)), (1, v62), (2, v67)]) w40 fun v68 w41 =>
            Ret c.P c.f_p_blmake_Stream_Next #[a0, (.int .i64 3)] w41 fun v70 w42 =>
            idxP 1 v68 v70 fun v71 =>
            ld v71 w42 fun v72 =>
            nilP v56 fun v73 =>
            offP 1 v73 fun v74 =>
            st v74 v60 w42 fun w43 =>
            nilP v56 fun v75 =>
            offP 0 v75 fun v76 =>
            st v76 v72 w43 fun w44 =>
            k5 [] w44)
          (k5 [] w33)) fun s5 j5 w35 =>
        R (g s0 0) w35)) [(.slice none 0 0), (.int .i64 0)] w1

/-- beadlayer/blref1.PathsFault -/
def wp_blref1_PathsFault (c : Cfg) (a0 : Value) (w : World) (R : Value → World → Prop) : Prop :=
  lenP a0 fun v7 =>
  binP .gtr v7 (.int .i64 200) fun v8 =>
  condP v8
    (R (.int .i64 2) w)
    (lenP a0 fun v10 =>
      loopP (fun nx0 s0 j0 w1 =>
        binP .lss (g s0 0) v10 fun v12 =>
        condP v12
          (idxP 2 a0 (g s0 0) fun v13 =>
            ldA 2 v13 w1 fun v14 =>
            newP c.t_api_Path #[(.slice none 0 0), (.bool false)] w1 fun v4 w2 =>
            stA 2 v4 v14 w2 fun w3 =>
            ldA 2 v4 w3 fun v15 =>
            Ret c.P c.f_blref1_pathFault #[v15] w3 fun v16 w4 =>
            binP .neq v16 (.int .i64 0) fun v18 =>
            condP v18
              (R v16 w4)
              (binP .add (g s0 0) (.int .i64 1) fun v20 =>
                nx0 [v20] w4))
          (R (.int .i64 0) w1)) [(.int .i64 0)] w)

/-- beadlayer/path.startPathsFault -/
def wp_path_startPathsFault (c : Cfg) (a0 a1 : Value) (w : World) (R : Value → World → Prop) : Prop :=
  newP c.t_api_Point (Value.cells a0) w fun v2 w1 =>
  ldA 2 v2 w1 fun v5 =>
  Ret c.P c.f_region_IsFar #[v5] w1 fun v6 w2 =>
  condP v6
    (R (.int .i64 1) w2)
    (Ret c.P c.f_path_CheckPaths #[a1] w2 fun v8 w3 =>
      R v8 w3)

/-- beadlayer/path.choices -/
def wp_path_choices (c : Cfg) (a0 a1 : Value) (w : World) (R : Value → World → Prop) : Prop :=
  idxP 2 a0 a1 fun v14 =>
  offP 1 v14 fun v15 =>
  ld v15 w fun v16 =>
  joinP (fun k0 => condP v16
    (idxP 2 a0 a1 fun v19 =>
      offP 0 v19 fun v20 =>
      ld v20 w fun v21 =>
      lenP v21 fun v22 =>
      loopP (fun nx1 s1 j1 w3 =>
        binP .lss (g s1 1) v22 fun v24 =>
        condP v24
          (pureP c.P (Instr.build c.t_api_Visit #[(0, a1), (1, (g s1 1))]) fun v29 =>
            semP c.P (Instr.buildSlice c.t_sl_api_Visit 1 #[(0, v29)]) w3 fun v30 w4 =>
            semP c.P (Builtin.append_ #[c.t_sl_api_Visit, c.t_sl_api_Visit] c.t_sl_api_Visit #[(g s1 0), v30]) w4 fun v31 w5 =>
            binP .add (g s1 1) (.int .i64 1) fun v32 =>
            nx1 [v31, v32] w5)
          (k0 [(g s1 0)] w3)) [(.slice none 0 0), (.int .i64 0)] w)
    (pureP c.P (Instr.build c.t_api_Visit #[(0, a1)]) fun v34 =>
      pureP c.P (Instr.build c.t_api_Visit #[(0, a1), (2, (.bool true))]) fun v36 =>
      semP c.P (Instr.buildSlice c.t_sl_api_Visit 2 #[(0, v34), (1, v36)]) w fun v37 w2 =>
      k0 [v37] w2)) fun s0 j0 w1 =>
  lenP (g s0 0) fun v39 =>
  loopP (fun nx2 s2 j2 w6 =>
    binP .lss (g s2 1) v39 fun v41 =>
    condP v41
      (idxP 3 (g s0 0) (g s2 1) fun v42 =>
        ldA 3 v42 w6 fun v43 =>
        newP c.t_api_Visit #[(.int .i64 0), (.int .i64 0), (.bool false)] w6 fun v9 w7 =>
        stA 3 v9 v43 w7 fun w8 =>
        ldA 3 v9 w8 fun v46 =>
        Ret c.P c.f_path_ends #[a0, v46] w8 fun v47 w9 =>
        exP 0 v47 fun v48 =>
        exP 1 v47 fun v49 =>
        newP c.t_api_Point #[(.int .i64 0), (.int .i64 0)] w9 fun v10 w10 =>
        newP c.t_api_Point #[(.int .i64 0), (.int .i64 0)] w10 fun v11 w11 =>
        stA 2 v10 v48 w11 fun w12 =>
        stA 2 v11 v49 w12 fun w13 =>
        ldA 3 v9 w13 fun v51 =>
        ldA 2 v10 w13 fun v52 =>
        ldA 2 v11 w13 fun v53 =>
        pureP c.P (Instr.build c.t_path_choice #[(0, v51), (1, v52), (2, v53)]) fun v54 =>
        semP c.P (Instr.buildSlice c.t_sl_path_choice 1 #[(0, v54)]) w13 fun v55 w14 =>
        semP c.P (Builtin.append_ #[c.t_sl_path_choice, c.t_sl_path_choice] c.t_sl_path_choice #[(g s2 0), v55]) w14 fun v56 w15 =>
        binP .add (g s2 1) (.int .i64 1) fun v57 =>
        nx2 [v56, v57] w15)
      (R (g s2 0) w6)) [(.slice none 0 0), (.int .i64 0)] w1

/-- (*beadlayer/path.finder).next -/
def wp_p_path_finder_next (c : Cfg) (a0 a1 a2 : Value) (w : World) (R : Value → World → Prop) : Prop :=
  newP c.t_api_Point (Value.cells a1) w fun v4 w1 =>
  nilP a0 fun v12 =>
  offP 0 v12 fun v13 =>
  ld v13 w1 fun v14 =>
  lenP v14 fun v15 =>
  loopP (fun nx0 s0 j0 w2 =>
    binP .lss (g s0 2) v15 fun v17 =>
    condP v17
      (joinP (fun k1 =>
          idxP 7 v14 (g s0 2) fun v19 =>
          ldA 7 v19 w2 fun v20 =>
          newP c.t_path_choice #[(.int .i64 0), (.int .i64 0), (.bool false), (.int .i64 0), (.int .i64 0), (.int .i64 0), (.int .i64 0)] w2 fun v9 w4 =>
          stA 7 v9 v20 w4 fun w5 =>
          offP 0 v9 fun v22 =>
          offP 0 v22 fun v23 =>
          ld v23 w5 fun v24 =>
          pureP c.P (do eqGuard .shr c.t_int (.tmp 21) (.tmp 24) a2 v24; binOp .shr c.t_int a2 v24) fun v25 =>
          pureP c.P (do eqGuard .and c.t_int (.tmp 25) (.const (.int .i64 1)) v25 (.int .i64 1); binOp .and c.t_int v25 (.int .i64 1)) fun v26 =>
          binP .eql v26 (.int .i64 0) fun v27 =>
          condP v27
            (k1 [(g s0 0), (g s0 1)] w5)
            (joinP (fun k2 =>
                heldP fun S => S w5.drew ∧
                ldAS S 2 v4 fun v28 =>
                offP 3 v9 fun v29 =>
                ldAS S 2 v29 fun v30 =>
                nilP a0 fun v33 =>
                offP 1 v33 fun v34 =>
                ldS S v34 fun v35 =>
                idxP 1 v35 (g s0 2) fun v37 =>
                ldS S v37 fun v38 =>
                offP 0 v9 fun v40 =>
                offP 0 v40 fun v41 =>
                ldS S v41 fun v42 =>
                pureP c.P (do eqGuard .shl c.t_int (.const (.int .i64 1)) (.tmp 42) (.int .i64 1) v42; binOp .shl c.t_int (.int .i64 1) v42) fun v43 =>
                pureP c.P (do eqGuard .andNot c.t_int (.tmp 39) (.tmp 43) a2 v43; binOp .andNot c.t_int a2 v43) fun v44 =>
                (Ret c.P c.f_path_Distance #[v28, v30] w5.drew fun v31 w7 => S w7 ∧
                  semP c.P (Instr.lookup c.t_map_int_int v38 v44 false) w7 fun v45 w8 => S w8 ∧
                  binP .add v31 v45 fun v46 =>
                  k2 [v46] w8)
                ∧ (semP c.P (Instr.lookup c.t_map_int_int v38 v44 false) w5.drew fun v45_1 w9 => S w9 ∧
                  Ret c.P c.f_path_Distance #[v28, v30] w9 fun v31_1 w10 => S w10 ∧
                  binP .add v31_1 v45_1 fun v46_1 =>
                  k2 [v46_1] w10)) fun s2 j2 w6 =>
              joinP (fun k3 =>
                binP .lss (g s0 0) (.int .i64 0) fun v48 =>
                guardP v48 false
                  (binP .lss (g s2 0) (g s0 1) fun v52 =>
                    k3 [v52] w6)
                  (k3 [(.bool true)] w6)) fun s3 j3 w11 =>
              joinP (fun k4 => condP (g s3 0)
                (k4 [(g s0 2), (g s2 0)] w11)
                (k4 [(g s0 0), (g s0 1)] w11)) fun s4 j4 w12 =>
              k1 [(g s4 0), (g s4 1)] w12)) fun s1 j1 w3 =>
        binP .add (g s0 2) (.int .i64 1) fun v56 =>
        nx0 [(g s1 0), (g s1 1), v56] w3)
      (R (.tuple #[(g s0 0), (g s0 1)]) w2)) [(.int .i64 (-1)), (.int .i64 0), (.int .i64 0)] w1

/-- beadlayer/path.travel -/
def wp_path_travel (c : Cfg) (a0 a1 a2 : Value) (w : World) (R : Value → World → Prop) : Prop :=
  newP c.t_api_Point (Value.cells a0) w fun v3 w1 =>
  lenP a2 fun v13 =>
  loopP (fun nx0 s0 j0 w2 =>
    binP .lss (g s0 1) v13 fun v15 =>
    condP v15
      (idxP 3 a2 (g s0 1) fun v16 =>
        ldA 3 v16 w2 fun v17 =>
        newP c.t_api_Visit #[(.int .i64 0), (.int .i64 0), (.bool false)] w2 fun v9 w3 =>
        stA 3 v9 v17 w3 fun w4 =>
        ldA 3 v9 w4 fun v20 =>
        Ret c.P c.f_path_ends #[a1, v20] w4 fun v21 w5 =>
        exP 0 v21 fun v22 =>
        exP 1 v21 fun v23 =>
        newP c.t_api_Point #[(.int .i64 0), (.int .i64 0)] w5 fun v10 w6 =>
        newP c.t_api_Point #[(.int .i64 0), (.int .i64 0)] w6 fun v11 w7 =>
        stA 2 v10 v22 w7 fun w8 =>
        stA 2 v11 v23 w8 fun w9 =>
        ldA 2 v3 w9 fun v25 =>
        ldA 2 v10 w9 fun v26 =>
        Ret c.P c.f_path_Distance #[v25, v26] w9 fun v27 w10 =>
        binP .add (g s0 0) v27 fun v28 =>
        ldA 2 v11 w10 fun v29 =>
        stA 2 v3 v29 w10 fun w11 =>
        binP .add (g s0 1) (.int .i64 1) fun v30 =>
        nx0 [v28, v30] w11)
      (R (g s0 0) w2)) [(.int .i64 0), (.int .i64 0)] w1

/-- beadlayer/path.Distance -/
def wp_path_Distance (c : Cfg) (a0 a1 : Value) (w : World) (R : Value → World → Prop) : Prop :=
  newP c.t_api_Point (Value.cells a0) w fun v2 w1 =>
  newP c.t_api_Point (Value.cells a1) w1 fun v3 w2 =>
  heldP fun S => S w2.drew ∧
  offP 0 v2 fun v5 =>
  ldS S v5 fun v6 =>
  offP 0 v3 fun v7 =>
  ldS S v7 fun v8 =>
  binP .sub v6 v8 fun v9 =>
  offP 1 v2 fun v11 =>
  ldS S v11 fun v12 =>
  offP 1 v3 fun v13 =>
  ldS S v13 fun v14 =>
  binP .sub v12 v14 fun v15 =>
  Ret c.P c.f_path_abs #[v9] w2.drew fun v10 w3 => S w3 ∧
  Ret c.P c.f_path_abs #[v15] w3 fun v16 w4 => S w4 ∧
  pureP c.P (Builtin.max_ #[c.t_int, c.t_int] c.t_int #[v10, v16]) fun v17 =>
  R v17 w4

/-- beadlayer/path.indicesFault -/
def wp_path_indicesFault (c : Cfg) (a0 a1 : Value) (w : World) (R : Value → World → Prop) : Prop :=
  lenP a1 fun v9 =>
  binP .neq v9 a0 fun v11 =>
  condP v11
    (R (.int .i64 3) w)
    (semP c.P (Instr.makeSlice c.t_sl_bool a0 a0) w fun v13 w1 =>
      lenP a1 fun v15 =>
      loopP (fun nx0 s0 j0 w2 =>
        binP .lss (g s0 0) v15 fun v17 =>
        condP v17
          (idxP 1 a1 (g s0 0) fun v18 =>
            ld v18 w2 fun v19 =>
            joinP (fun k1 =>
              binP .lss v19 (.int .i64 0) fun v21 =>
              guardP v21 false
                (binP .geq v19 a0 fun v25 =>
                  k1 [v25] w2)
                (k1 [(.bool true)] w2)) fun s1 j1 w3 =>
            condP (g s1 0)
              (R (.int .i64 1) w3)
              (idxP 1 v13 v19 fun v29 =>
                ld v29 w3 fun v30 =>
                condP v30
                  (R (.int .i64 6) w3)
                  (idxP 1 v13 v19 fun v33 =>
                    st v33 (.bool true) w3 fun w4 =>
                    binP .add (g s0 0) (.int .i64 1) fun v34 =>
                    nx0 [v34] w4)))
          (R (.int .i64 0) w2)) [(.int .i64 0)] w1)

/-- beadlayer/path.nearest -/
def wp_path_nearest (c : Cfg) (a0 a1 a2 : Value) (w : World) (R : Value → World → Prop) : Prop :=
  newP c.t_api_Point (Value.cells a0) w fun v3 w1 =>
  newP c.t_path_way #[(.int .i64 0), (.int .i64 0)] w1 fun v6 w2 =>
  pureP c.P (Instr.build c.t_path_way #[(0, (.int .i64 (-1))), (1, (.int .i64 0))]) fun v11 =>
  newP c.t_path_way #[(.int .i64 0), (.int .i64 0)] w2 fun v7 w3 =>
  stA 2 v7 v11 w3 fun w4 =>
  lenP a1 fun v13 =>
  loopP (fun nx0 s0 j0 w5 =>
    binP .lss (g s0 0) v13 fun v15 =>
    condP v15
      (joinP (fun k1 =>
          idxP 7 a1 (g s0 0) fun v17 =>
          ldA 7 v17 w5 fun v18 =>
          newP c.t_path_choice #[(.int .i64 0), (.int .i64 0), (.bool false), (.int .i64 0), (.int .i64 0), (.int .i64 0), (.int .i64 0)] w5 fun v9 w7 =>
          stA 7 v9 v18 w7 fun w8 =>
          heldP fun S => S w8.drew ∧
          ldAS S 2 v3 fun v19 =>
          offP 3 v9 fun v20 =>
          ldAS S 2 v20 fun v21 =>
          idxP 1 a2 (g s0 0) fun v25 =>
          ldS S v25 fun v26 =>
          Ret c.P c.f_path_Distance #[v19, v21] w8.drew fun v22 w9 => S w9 ∧
          binP .add v22 v26 fun v27 =>
          joinP (fun k2 =>
            offP 0 v7 fun v28 =>
            ld v28 w9 fun v29 =>
            binP .lss v29 (.int .i64 0) fun v30 =>
            guardP v30 false
              (offP 1 v7 fun v33 =>
                ld v33 w9 fun v34 =>
                binP .lss v27 v34 fun v35 =>
                k2 [v35] w9)
              (k2 [(.bool true)] w9)) fun s2 j2 w10 =>
          joinP (fun k3 => condP (g s2 0)
            (pureP c.P (Instr.build c.t_path_way #[(0, (g s0 0)), (1, v27)]) fun v39 =>
              stA 2 v7 v39 w10 fun w12 =>
              k3 [] w12)
            (k3 [] w10)) fun s3 j3 w11 =>
          k1 [] w11) fun s1 j1 w6 =>
        binP .add (g s0 0) (.int .i64 1) fun v40 =>
        nx0 [v40] w6)
      (ldA 2 v7 w5 fun v41 =>
        stA 2 v6 v41 w5 fun w13 =>
        ldA 2 v6 w13 fun v6_1 =>
        R v6_1 w13)) [(.int .i64 0)] w4

/-- beadlayer/path.startFault -/
def wp_path_startFault (c : Cfg) (a0 a1 a2 : Value) (w : World) (R : Value → World → Prop) : Prop :=
  newP c.t_api_Point (Value.cells a0) w fun v3 w1 =>
  ldA 2 v3 w1 fun v7 =>
  Ret c.P c.f_region_IsFar #[v7] w1 fun v8 w2 =>
  condP v8
    (R (.int .i64 1) w2)
    (Ret c.P c.f_path_CheckOrder #[a1, a2] w2 fun v11 w3 =>
      R v11 w3)

/-- slices.Clone[[]beadlayer/api.Visit,beadlayer/api.Visit] -/
def wp_slices_Clone_sl_api_Visit_api_Visit (c : Cfg) (a0 : Value) (w : World) (R : Value → World → Prop) : Prop :=
  pureP c.P (do eqGuard .eql c.t_sl_api_Visit (.tmp 3) (.const (.slice none 0 0)) a0 (.slice none 0 0); binOp .eql c.t_sl_api_Visit a0 (.slice none 0 0)) fun v4 =>
  condP v4
    (R (.slice none 0 0) w)
    (semP c.P (Instr.buildSlice c.t_sl_api_Visit 0 #[]) w fun v5 w1 =>
      semP c.P (Builtin.append_ #[c.t_sl_api_Visit, c.t_sl_api_Visit] c.t_sl_api_Visit #[v5, a0]) w1 fun v7 w2 =>
      R v7 w2)

/-- beadlayer/path.exchange -/
def wp_path_exchange (c : Cfg) (a0 a1 a2 : Value) (w : World) (R : Value → World → Prop) : Prop :=
  newP c.t_api_Point (Value.cells a0) w fun v3 w1 =>
  ldA 2 v3 w1 fun v10 =>
  Ret c.P c.f_path_travel #[v10, a1, a2] w1 fun v13 w2 =>
  lenP a2 fun v15 =>
  loopP (fun nx0 s0 j0 w3 =>
    binP .lss (g s0 0) v15 fun v17 =>
    condP v17
      (binP .add (g s0 0) (.int .i64 1) fun v20 =>
        loopP (fun nx1 s1 j1 w4 =>
          lenP a2 fun v23 =>
          binP .lss (g s1 0) v23 fun v24 =>
          condP v24
            (idxP 3 a2 (g s1 0) fun v33 =>
              ldA 3 v33 w4.drew fun v34 =>
              idxP 3 a2 (g s0 0) fun v37 =>
              ldA 3 v37 w4.drew fun v38 =>
              idxP 3 a2 (g s0 0) fun v39 =>
              stA 3 v39 v34 w4.drew fun w5 =>
              idxP 3 a2 (g s1 0) fun v40 =>
              stA 3 v40 v38 w5 fun w6 =>
              ldA 2 v3 w6 fun v41 =>
              Ret c.P c.f_path_travel #[v41, a1, a2] w6 fun v44 w7 =>
              binP .lss v44 v13 fun v46 =>
              condP v46
                (R (.bool true) w7)
                (idxP 3 a2 (g s1 0) fun v53 =>
                  ldA 3 v53 w7.drew fun v54 =>
                  idxP 3 a2 (g s0 0) fun v57 =>
                  ldA 3 v57 w7.drew fun v58 =>
                  idxP 3 a2 (g s0 0) fun v59 =>
                  stA 3 v59 v54 w7.drew fun w8 =>
                  idxP 3 a2 (g s1 0) fun v60 =>
                  stA 3 v60 v58 w8 fun w9 =>
                  binP .add (g s1 0) (.int .i64 1) fun v26 =>
                  nx1 [v26] w9))
            (binP .add (g s0 0) (.int .i64 1) fun v61 =>
              nx0 [v61] w4)) [v20] w3)
      (R (.bool false) w3)) [(.int .i64 0)] w2

/-- beadlayer/path.CheckPaths -/
def wp_path_CheckPaths (c : Cfg) (a0 : Value) (w : World) (R : Value → World → Prop) : Prop :=
  lenP a0 fun v7 =>
  binP .gtr v7 (.int .i64 200) fun v8 =>
  condP v8
    (R (.int .i64 2) w)
    (lenP a0 fun v10 =>
      loopP (fun nx0 s0 j0 w1 =>
        binP .lss (g s0 0) v10 fun v12 =>
        condP v12
          (idxP 2 a0 (g s0 0) fun v13 =>
            ldA 2 v13 w1 fun v14 =>
            newP c.t_api_Path #[(.slice none 0 0), (.bool false)] w1 fun v4 w2 =>
            stA 2 v4 v14 w2 fun w3 =>
            ldA 2 v4 w3 fun v15 =>
            Ret c.P c.f_path_PathFault #[v15] w3 fun v16 w4 =>
            binP .neq v16 (.int .i64 0) fun v18 =>
            condP v18
              (R v16 w4)
              (binP .add (g s0 0) (.int .i64 1) fun v20 =>
                nx0 [v20] w4))
          (R (.int .i64 0) w1)) [(.int .i64 0)] w)

/-- beadlayer/path.orderFault -/
def wp_path_orderFault (c : Cfg) (a0 a1 : Value) (w : World) (R : Value → World → Prop) : Prop :=
  lenP a1 fun v10 =>
  lenP a0 fun v12 =>
  binP .neq v10 v12 fun v13 =>
  condP v13
    (R (.int .i64 3) w)
    (lenP a0 fun v15 =>
      semP c.P (Instr.makeSlice c.t_sl_bool v15 v15) w fun v16 w1 =>
      lenP a1 fun v18 =>
      loopP (fun nx0 s0 j0 w2 =>
        binP .lss (g s0 0) v18 fun v20 =>
        condP v20
          (idxP 3 a1 (g s0 0) fun v21 =>
            ldA 3 v21 w2 fun v22 =>
            newP c.t_api_Visit #[(.int .i64 0), (.int .i64 0), (.bool false)] w2 fun v7 w3 =>
            stA 3 v7 v22 w3 fun w4 =>
            joinP (fun k1 =>
              offP 0 v7 fun v23 =>
              ld v23 w4 fun v24 =>
              binP .lss v24 (.int .i64 0) fun v25 =>
              guardP v25 false
                (offP 0 v7 fun v27 =>
                  ld v27 w4 fun v28 =>
                  lenP a0 fun v30 =>
                  binP .geq v28 v30 fun v31 =>
                  k1 [v31] w4)
                (k1 [(.bool true)] w4)) fun s1 j1 w5 =>
            condP (g s1 0)
              (R (.int .i64 1) w5)
              (offP 0 v7 fun v34 =>
                ld v34 w5 fun v35 =>
                idxP 1 v16 v35 fun v36 =>
                ld v36 w5 fun v37 =>
                condP v37
                  (R (.int .i64 6) w5)
                  (offP 0 v7 fun v39 =>
                    ld v39 w5 fun v40 =>
                    idxP 1 v16 v40 fun v41 =>
                    st v41 (.bool true) w5 fun w6 =>
                    ldA 3 v7 w6 fun v43 =>
                    Ret c.P c.f_path_visitFault #[a0, v43] w6 fun v44 w7 =>
                    binP .neq v44 (.int .i64 0) fun v46 =>
                    condP v46
                      (R v44 w7)
                      (binP .add (g s0 0) (.int .i64 1) fun v48 =>
                        nx0 [v48] w7))))
          (R (.int .i64 0) w2)) [(.int .i64 0)] w1)

/-- beadlayer/flow.Volume -/
def wp_flow_Volume (c : Cfg) (a0 : Value) (w : World) (R : Value → World → Prop) : Prop :=
  Ret c.P c.f_flow_CheckBeads #[a0] w fun v7 w1 =>
  binP .neq v7 (.int .i64 0) fun v9 =>
  condP v9
    (R (.tuple #[(.int .i64 0), v7]) w1)
    (Ret c.P c.f_flow_volume #[a0] w1 fun v12 w2 =>
      binP .gtr v12 (.int .i64 1000000000000000000) fun v14 =>
      condP v14
        (R (.tuple #[(.int .i64 0), (.int .i64 12)]) w2)
        (R (.tuple #[v12, (.int .i64 0)]) w2))

/-- beadlayer/region.Area -/
def wp_region_Area (c : Cfg) (a0 : Value) (w : World) (R : Value → World → Prop) : Prop :=
  Ret c.P c.f_region_CheckRegion #[a0] w fun v9 w1 =>
  binP .neq v9 (.int .i64 0) fun v11 =>
  condP v11
    (R (.tuple #[(.int .i64 0), v9]) w1)
    (Ret c.P c.f_region_depths #[a0] w1 fun v14 w2 =>
      lenP v14 fun v15 =>
      loopP (fun nx0 s0 j0 w3 =>
        binP .lss (g s0 1) v15 fun v17 =>
        condP v17
          (joinP (fun k1 =>
              idxP 1 v14 (g s0 1) fun v19 =>
              ld v19 w3 fun v20 =>
              binP .rem v20 (.int .i64 2) fun v22 =>
              binP .eql v22 (.int .i64 0) fun v23 =>
              joinP (fun k2 => condP v23
                (idxP 1 a0 (g s0 1) fun v27 =>
                  ld v27 w3 fun v28 =>
                  Ret c.P c.f_region_Doubled #[v28] w3 fun v29 w6 =>
                  Ret c.P c.f_region_abs #[v29] w6 fun v30 w7 =>
                  binP .add (g s0 0) v30 fun v31 =>
                  k2 [v31] w7)
                (idxP 1 a0 (g s0 1) fun v35 =>
                  ld v35 w3 fun v36 =>
                  Ret c.P c.f_region_Doubled #[v36] w3 fun v37 w8 =>
                  Ret c.P c.f_region_abs #[v37] w8 fun v38 w9 =>
                  binP .sub (g s0 0) v38 fun v39 =>
                  k2 [v39] w9)) fun s2 j2 w5 =>
              k1 [(g s2 0)] w5) fun s1 j1 w4 =>
            binP .add (g s0 1) (.int .i64 1) fun v40 =>
            nx0 [(g s1 0), v40] w4)
          (R (.tuple #[(g s0 0), (.int .i64 0)]) w3)) [(.int .i64 0), (.int .i64 0)] w2)

/-- beadlayer/farm.Ends -/
def wp_farm_Ends (c : Cfg) (a0 a1 a2 a3 : Value) (w : World) (R : Value → World → Prop) : Prop :=
  Ret c.P c.f_farm_planned #[a0, a1, a2, a3] w fun v18 w1 =>
  binP .neq v18 (.int .i64 0) fun v20 =>
  condP v20
    (R (.tuple #[(.slice none 0 0), (.int .i64 0), v18]) w1)
    (Ret c.P c.f_farm_ends #[a0, a1, a2, a3] w1 fun v27 w2 =>
      exP 0 v27 fun v28 =>
      exP 1 v27 fun v29 =>
      R (.tuple #[v28, v29, (.int .i64 0)]) w2)

/-- beadlayer/blmake.Below -/
def wp_blmake_Below (c : Cfg) (a0 a1 : Value) (w : World) (R : Value → World → Prop) : Prop :=
  binP .lss a1 (.int .i64 1) fun v6 =>
  condP v6
    (R (.int .i64 0) w)
    (binP .rem a0 a1 fun v9 =>
      binP .lss v9 (.int .i64 0) fun v11 =>
      joinP (fun k0 => condP v11
        (binP .add v9 a1 fun v14 =>
          k0 [v14] w)
        (k0 [v9] w)) fun s0 j0 w1 =>
      R (g s0 0) w1)

/-- (*beadlayer/blmake.Stream).Pick -/
def wp_p_blmake_Stream_Pick (c : Cfg) (a0 a1 : Value) (w : World) (R : Value → World → Prop) : Prop :=
  lenP a1 fun v8 =>
  Ret c.P c.f_p_blmake_Stream_Next #[a0, v8] w fun v9 w1 =>
  idxP 1 a1 v9 fun v10 =>
  ld v10 w1 fun v11 =>
  R v11 w1

/-- (*beadlayer/blmake.Stream).Flip -/
def wp_p_blmake_Stream_Flip (c : Cfg) (a0 a1 : Value) (w : World) (R : Value → World → Prop) : Prop :=
  Ret c.P c.f_p_blmake_Stream_Next #[a0, a1] w fun v7 w1 =>
  binP .eql v7 (.int .i64 0) fun v8 =>
  R v8 w1

/-- (*beadlayer/blmake.Stream).Odd -/
def wp_p_blmake_Stream_Odd (c : Cfg) (a0 a1 a2 : Value) (w : World) (R : Value → World → Prop) : Prop :=
  Ret c.P c.f_p_blmake_Stream_Flip #[a0, (.int .i64 12)] w fun v8 w1 =>
  condP v8
    (binP .sub a1 (.int .i64 1) fun v11 =>
      binP .add a2 (.int .i64 1) fun v13 =>
      semP c.P (Instr.buildSlice c.t_sl_int 6 #[(0, v11), (1, v13), (2, a1), (3, a2), (4, (.int .i64 (-1099511627776))), (5, (.int .i64 1099511627776))]) w1 fun v16 w2 =>
      Ret c.P c.f_p_blmake_Stream_Pick #[a0, v16] w2 fun v17 w3 =>
      R v17 w3)
    (Ret c.P c.f_p_blmake_Stream_Range #[a0, a1, a2] w1 fun v21 w4 =>
      R v21 w4)

/-- beadlayer/blref1.pathFault -/
def wp_blref1_pathFault (c : Cfg) (a0 : Value) (w : World) (R : Value → World → Prop) : Prop :=
  newP c.t_api_Path (Value.cells a0) w fun v1 w1 =>
  offP 0 v1 fun v4 =>
  ld v4 w1 fun v5 =>
  lenP v5 fun v6 =>
  binP .eql v6 (.int .i64 0) fun v7 =>
  condP v7
    (R (.int .i64 8) w1)
    (offP 0 v1 fun v9 =>
      ld v9 w1 fun v10 =>
      lenP v10 fun v11 =>
      binP .gtr v11 (.int .i64 500) fun v12 =>
      condP v12
        (R (.int .i64 2) w1)
        (joinP (fun k0 =>
            offP 1 v1 fun v14 =>
            ld v14 w1 fun v15 =>
            guardP v15 true
              (offP 0 v1 fun v17 =>
                ld v17 w1 fun v18 =>
                lenP v18 fun v19 =>
                binP .lss v19 (.int .i64 3) fun v20 =>
                k0 [v20] w1)
              (k0 [(.bool false)] w1)) fun s0 j0 w2 =>
          condP (g s0 0)
            (R (.int .i64 3) w2)
            (offP 0 v1 fun v22 =>
              ld v22 w2 fun v23 =>
              Ret c.P c.f_blref1_PointFault #[v23] w2 fun v24 w3 =>
              R v24 w3)))

/-- beadlayer/region.IsFar -/
def wp_region_IsFar (c : Cfg) (a0 : Value) (w : World) (R : Value → World → Prop) : Prop :=
  newP c.t_api_Point (Value.cells a0) w fun v1 w1 =>
  joinP (fun k0 =>
    offP 0 v1 fun v3 =>
    ld v3 w1 fun v4 =>
    Ret c.P c.f_kit_Outside #[v4, (.int .i64 (-100000)), (.int .i64 100000)] w1 fun v5 w3 =>
    guardP v5 false
      (offP 1 v1 fun v7 =>
        ld v7 w3 fun v8 =>
        Ret c.P c.f_kit_Outside #[v8, (.int .i64 (-100000)), (.int .i64 100000)] w3 fun v9 w4 =>
        k0 [v9] w4)
      (k0 [(.bool true)] w3)) fun s0 j0 w2 =>
  R (g s0 0) w2

/-- beadlayer/path.ends -/
def wp_path_ends (c : Cfg) (a0 a1 : Value) (w : World) (R : Value → World → Prop) : Prop :=
  newP c.t_api_Visit (Value.cells a1) w fun v3 w1 =>
  newP c.t_api_Point #[(.int .i64 0), (.int .i64 0)] w1 fun v4 w2 =>
  newP c.t_api_Point #[(.int .i64 0), (.int .i64 0)] w2 fun v5 w3 =>
  offP 0 v3 fun v8 =>
  ld v8 w3 fun v9 =>
  idxP 2 a0 v9 fun v10 =>
  offP 0 v10 fun v11 =>
  ld v11 w3 fun v12 =>
  offP 0 v3 fun v15 =>
  ld v15 w3 fun v16 =>
  idxP 2 a0 v16 fun v17 =>
  offP 1 v17 fun v18 =>
  ld v18 w3 fun v19 =>
  condP v19
    (heldP fun S => S w3.drew ∧
      offP 1 v3 fun v21 =>
      ldS S v21 fun v22 =>
      idxP 2 v12 v22 fun v23 =>
      ldAS S 2 v23 fun v24 =>
      offP 1 v3 fun v26 =>
      ldS S v26 fun v27 =>
      idxP 2 v12 v27 fun v28 =>
      ldAS S 2 v28 fun v29 =>
      stA 2 v4 v24 w3.drew fun w4 => S w4 ∧
      stA 2 v5 v29 w4 fun w5 =>
      ldA 2 v4 w5 fun v4_1 =>
      ldA 2 v5 w5 fun v5_1 =>
      R (.tuple #[v4_1, v5_1]) w5)
    (offP 2 v3 fun v31 =>
      ld v31 w3 fun v32 =>
      condP v32
        (heldP fun S => S w3.drew ∧
          lenP v12 fun v35 =>
          binP .sub v35 (.int .i64 1) fun v36 =>
          idxP 2 v12 v36 fun v37 =>
          ldAS S 2 v37 fun v38 =>
          idxP 2 v12 (.int .i64 0) fun v40 =>
          ldAS S 2 v40 fun v41 =>
          stA 2 v4 v38 w3.drew fun w6 => S w6 ∧
          stA 2 v5 v41 w6 fun w7 =>
          ldA 2 v4 w7 fun v4_2 =>
          ldA 2 v5 w7 fun v5_2 =>
          R (.tuple #[v4_2, v5_2]) w7)
        (heldP fun S => S w3.drew ∧
          idxP 2 v12 (.int .i64 0) fun v43 =>
          ldAS S 2 v43 fun v44 =>
          lenP v12 fun v47 =>
          binP .sub v47 (.int .i64 1) fun v48 =>
          idxP 2 v12 v48 fun v49 =>
          ldAS S 2 v49 fun v50 =>
          stA 2 v4 v44 w3.drew fun w8 => S w8 ∧
          stA 2 v5 v50 w8 fun w9 =>
          ldA 2 v4 w9 fun v4_3 =>
          ldA 2 v5 w9 fun v5_3 =>
          R (.tuple #[v4_3, v5_3]) w9))

/-- beadlayer/path.abs -/
def wp_path_abs (c : Cfg) (a0 : Value) (w : World) (R : Value → World → Prop) : Prop :=
  pureP c.P (Op.unary .neg a0) fun v5 =>
  pureP c.P (Builtin.max_ #[c.t_int, c.t_int] c.t_int #[a0, v5]) fun v6 =>
  R v6 w

/-- beadlayer/path.PathFault -/
def wp_path_PathFault (c : Cfg) (a0 : Value) (w : World) (R : Value → World → Prop) : Prop :=
  newP c.t_api_Path (Value.cells a0) w fun v1 w1 =>
  offP 0 v1 fun v4 =>
  ld v4 w1 fun v5 =>
  lenP v5 fun v6 =>
  binP .eql v6 (.int .i64 0) fun v7 =>
  condP v7
    (R (.int .i64 8) w1)
    (offP 0 v1 fun v9 =>
      ld v9 w1 fun v10 =>
      lenP v10 fun v11 =>
      binP .gtr v11 (.int .i64 500) fun v12 =>
      condP v12
        (R (.int .i64 2) w1)
        (joinP (fun k0 =>
            offP 1 v1 fun v14 =>
            ld v14 w1 fun v15 =>
            guardP v15 true
              (offP 0 v1 fun v17 =>
                ld v17 w1 fun v18 =>
                lenP v18 fun v19 =>
                binP .lss v19 (.int .i64 3) fun v20 =>
                k0 [v20] w1)
              (k0 [(.bool false)] w1)) fun s0 j0 w2 =>
          condP (g s0 0)
            (R (.int .i64 3) w2)
            (offP 0 v1 fun v23 =>
              ld v23 w2 fun v24 =>
              Ret c.P c.f_slices_ContainsFunc_sl_api_Point_api_Point #[v24, (.func (.func c.f_region_IsFar) #[] #[])] w2 fun v25 w3 =>
              condP v25
                (R (.int .i64 1) w3)
                (R (.int .i64 0) w3))))

/-- beadlayer/path.visitFault -/
def wp_path_visitFault (c : Cfg) (a0 a1 : Value) (w : World) (R : Value → World → Prop) : Prop :=
  newP c.t_api_Visit (Value.cells a1) w fun v3 w1 =>
  offP 0 v3 fun v7 =>
  ld v7 w1 fun v8 =>
  idxP 2 a0 v8 fun v9 =>
  ldA 2 v9 w1 fun v10 =>
  newP c.t_api_Path #[(.slice none 0 0), (.bool false)] w1 fun v5 w2 =>
  stA 2 v5 v10 w2 fun w3 =>
  joinP (fun k0 =>
    offP 1 v5 fun v11 =>
    ld v11 w3 fun v12 =>
    guardP v12 true
      (offP 2 v3 fun v14 =>
        ld v14 w3 fun v15 =>
        guardP v15 false
          (offP 1 v5 fun v18 =>
            ld v18 w3 fun v19 =>
            notP v19 fun v20 =>
            guardP v20 true
              (offP 1 v3 fun v22 =>
                ld v22 w3 fun v23 =>
                binP .neq v23 (.int .i64 0) fun v24 =>
                k0 [v24] w3)
              (k0 [(.bool false)] w3))
          (k0 [(.bool true)] w3))
      (offP 1 v5 fun v18_1 =>
        ld v18_1 w3 fun v19_1 =>
        notP v19_1 fun v20_1 =>
        guardP v20_1 true
          (offP 1 v3 fun v22_1 =>
            ld v22_1 w3 fun v23_1 =>
            binP .neq v23_1 (.int .i64 0) fun v24_1 =>
            k0 [v24_1] w3)
          (k0 [(.bool false)] w3))) fun s0 j0 w4 =>
  condP (g s0 0)
    (R (.int .i64 3) w4)
    (joinP (fun k1 =>
        offP 1 v3 fun v27 =>
        ld v27 w4 fun v28 =>
        binP .lss v28 (.int .i64 0) fun v29 =>
        guardP v29 false
          (offP 1 v3 fun v31 =>
            ld v31 w4 fun v32 =>
            offP 0 v5 fun v33 =>
            ld v33 w4 fun v34 =>
            lenP v34 fun v35 =>
            binP .geq v32 v35 fun v36 =>
            k1 [v36] w4)
          (k1 [(.bool true)] w4)) fun s1 j1 w5 =>
      condP (g s1 0)
        (R (.int .i64 1) w5)
        (R (.int .i64 0) w5))

/-- beadlayer/flow.CheckBeads -/
def wp_flow_CheckBeads (c : Cfg) (a0 : Value) (w : World) (R : Value → World → Prop) : Prop :=
  lenP a0 fun v6 =>
  binP .gtr v6 (.int .i64 5000) fun v7 =>
  condP v7
    (R (.int .i64 2) w)
    (lenP a0 fun v9 =>
      loopP (fun nx0 s0 j0 w1 =>
        binP .lss (g s0 0) v9 fun v11 =>
        condP v11
          (idxP 3 a0 (g s0 0) fun v12 =>
            ldA 3 v12 w1 fun v13 =>
            newP c.t_api_Bead #[(.int .i64 0), (.int .i64 0), (.int .i64 0)] w1 fun v4 w2 =>
            stA 3 v4 v13 w2 fun w3 =>
            joinP (fun k1 =>
              offP 0 v4 fun v14 =>
              ld v14 w3 fun v15 =>
              Ret c.P c.f_kit_Outside #[v15, (.int .i64 0), (.int .i64 10000000)] w3 fun v16 w5 =>
              guardP v16 false
                (offP 1 v4 fun v18 =>
                  ld v18 w5 fun v19 =>
                  Ret c.P c.f_kit_Outside #[v19, (.int .i64 1), (.int .i64 5000)] w5 fun v20 w6 =>
                  guardP v20 false
                    (offP 2 v4 fun v23 =>
                      ld v23 w6 fun v24 =>
                      Ret c.P c.f_kit_Outside #[v24, (.int .i64 1), (.int .i64 5000)] w6 fun v25 w7 =>
                      k1 [v25] w7)
                    (k1 [(.bool true)] w6))
                (k1 [(.bool true)] w5)) fun s1 j1 w4 =>
            condP (g s1 0)
              (R (.int .i64 1) w4)
              (binP .add (g s0 0) (.int .i64 1) fun v27 =>
                nx0 [v27] w4))
          (R (.int .i64 0) w1)) [(.int .i64 0)] w)

/-- beadlayer/flow.volume -/
def wp_flow_volume (c : Cfg) (a0 : Value) (w : World) (R : Value → World → Prop) : Prop :=
  lenP a0 fun v7 =>
  loopP (fun nx0 s0 j0 w1 =>
    binP .lss (g s0 1) v7 fun v9 =>
    condP v9
      (idxP 3 a0 (g s0 1) fun v10 =>
        ldA 3 v10 w1 fun v11 =>
        newP c.t_api_Bead #[(.int .i64 0), (.int .i64 0), (.int .i64 0)] w1 fun v5 w2 =>
        stA 3 v5 v11 w2 fun w3 =>
        offP 0 v5 fun v13 =>
        ld v13 w3 fun v14 =>
        offP 1 v5 fun v15 =>
        ld v15 w3 fun v16 =>
        binP .mul v14 v16 fun v17 =>
        offP 2 v5 fun v18 =>
        ld v18 w3 fun v19 =>
        binP .mul v17 v19 fun v20 =>
        binP .add (g s0 0) v20 fun v21 =>
        binP .add (g s0 1) (.int .i64 1) fun v22 =>
        nx0 [v21, v22] w3)
      (R (g s0 0) w1)) [(.int .i64 0), (.int .i64 0)] w

/-- beadlayer/region.CheckRegion -/
def wp_region_CheckRegion (c : Cfg) (a0 : Value) (w : World) (R : Value → World → Prop) : Prop :=
  lenP a0 fun v15 =>
  loopP (fun nx0 s0 j0 w1 =>
    binP .lss (g s0 1) v15 fun v17 =>
    condP v17
      (idxP 1 a0 (g s0 1) fun v18 =>
        ld v18 w1 fun v19 =>
        lenP v19 fun v22 =>
        binP .add (g s0 0) v22 fun v23 =>
        binP .add (g s0 1) (.int .i64 1) fun v24 =>
        nx0 [v23, v24] w1)
      (joinP (fun k1 =>
          lenP a0 fun v26 =>
          binP .gtr v26 (.int .i64 100) fun v27 =>
          guardP v27 false
            (binP .gtr (g s0 0) (.int .i64 2000) fun v30 =>
              k1 [v30] w1)
            (k1 [(.bool true)] w1)) fun s1 j1 w2 =>
        condP (g s1 0)
          (R (.int .i64 2) w2)
          (lenP a0 fun v33 =>
            loopP (fun nx2 s2 j2 w3 =>
              binP .lss (g s2 0) v33 fun v35 =>
              condP v35
                (idxP 1 a0 (g s2 0) fun v36 =>
                  ld v36 w3 fun v37 =>
                  Ret c.P c.f_region_CheckRing #[v37] w3 fun v39 w4 =>
                  binP .neq v39 (.int .i64 0) fun v41 =>
                  condP v41
                    (R v39 w4)
                    (binP .add (g s2 0) (.int .i64 1) fun v43 =>
                      nx2 [v43] w4))
                (Ret c.P c.f_region_sides #[a0] w3 fun v45 w5 =>
                  Ret c.P c.f_slices_SortFunc_sl_region_side_region_side #[v45, (.func (.func c.f_region_CheckRegion_1) #[] #[])] w5 fun v47 w6 =>
                  lenP v45 fun v49 =>
                  loopP (fun nx3 s3 j3 w7 =>
                    binP .lss (g s3 0) v49 fun v51 =>
                    condP v51
                      (idxP 5 v45 (g s3 0) fun v53 =>
                        ldA 5 v53 w7 fun v54 =>
                        newP c.t_region_side #[(.int .i64 0), (.int .i64 0), (.int .i64 0), (.int .i64 0), (.int .i64 0)] w7 fun v11 w8 =>
                        stA 5 v11 v54 w8 fun w9 =>
                        binP .add (g s3 0) (.int .i64 1) fun v57 =>
                        pureP c.P (Instr.sliceAt c.t_sl_region_side v45 (some v57) none none) fun v58 =>
                        lenP v58 fun v59 =>
                        joinP (fun k4 =>
                          loopP (fun nx5 s5 j5 w11 =>
                            binP .lss (g s5 0) v59 fun v61 =>
                            condP v61
                              (idxP 5 v58 (g s5 0) fun v62 =>
                                ldA 5 v62 w11 fun v63 =>
                                newP c.t_region_side #[(.int .i64 0), (.int .i64 0), (.int .i64 0), (.int .i64 0), (.int .i64 0)] w11 fun v13 w12 =>
                                stA 5 v13 v63 w12 fun w13 =>
                                offP 1 v13 fun v64 =>
                                offP 0 v64 fun v65 =>
                                ld v65 w13 fun v66 =>
                                offP 3 v13 fun v67 =>
                                offP 0 v67 fun v68 =>
                                ld v68 w13 fun v69 =>
                                pureP c.P (Builtin.min_ #[c.t_int, c.t_int] c.t_int #[v66, v69]) fun v70 =>
                                offP 1 v11 fun v71 =>
                                offP 0 v71 fun v72 =>
                                ld v72 w13 fun v73 =>
                                offP 3 v11 fun v74 =>
                                offP 0 v74 fun v75 =>
                                ld v75 w13 fun v76 =>
                                pureP c.P (Builtin.max_ #[c.t_int, c.t_int] c.t_int #[v73, v76]) fun v77 =>
                                binP .gtr v70 v77 fun v78 =>
                                condP v78
                                  (k4 [] w13)
                                  (joinP (fun k6 =>
                                      offP 0 v11 fun v79 =>
                                      ld v79 w13 fun v80 =>
                                      offP 0 v13 fun v81 =>
                                      ld v81 w13 fun v82 =>
                                      binP .neq v80 v82 fun v83 =>
                                      guardP v83 true
                                        (offP 1 v11 fun v85 =>
                                          ldA 2 v85 w13 fun v86 =>
                                          offP 3 v11 fun v87 =>
                                          ldA 2 v87 w13 fun v88 =>
                                          offP 1 v13 fun v89 =>
                                          ldA 2 v89 w13 fun v90 =>
                                          offP 3 v13 fun v91 =>
                                          ldA 2 v91 w13 fun v92 =>
                                          Ret c.P c.f_region_Meet #[v86, v88, v90, v92] w13 fun v93 w15 =>
                                          k6 [v93] w15)
                                        (k6 [(.bool false)] w13)) fun s6 j6 w14 =>
                                    condP (g s6 0)
                                      (R (.int .i64 13) w14)
                                      (binP .add (g s5 0) (.int .i64 1) fun v95 =>
                                        nx5 [v95] w14)))
                              (k4 [] w11)) [(.int .i64 0)] w9) fun s4 j4 w10 =>
                        binP .add (g s3 0) (.int .i64 1) fun v96 =>
                        nx3 [v96] w10)
                      (R (.int .i64 0) w7)) [(.int .i64 0)] w6)) [(.int .i64 0)] w2))) [(.int .i64 0), (.int .i64 0)] w

/-- beadlayer/region.depths -/
def wp_region_depths (c : Cfg) (a0 : Value) (w : World) (R : Value → World → Prop) : Prop :=
  lenP a0 fun v9 =>
  semP c.P (Instr.makeSlice c.t_sl_int v9 v9) w fun v10 w1 =>
  lenP a0 fun v12 =>
  loopP (fun nx0 s0 j0 w2 =>
    binP .lss (g s0 0) v12 fun v14 =>
    condP v14
      (idxP 1 a0 (g s0 0) fun v16 =>
        ld v16 w2 fun v17 =>
        lenP a0 fun v19 =>
        loopP (fun nx1 s1 j1 w3 =>
          binP .lss (g s1 0) v19 fun v21 =>
          condP v21
            (joinP (fun k2 =>
                idxP 1 a0 (g s1 0) fun v23 =>
                ld v23 w3 fun v24 =>
                joinP (fun k3 =>
                  binP .neq (g s0 0) (g s1 0) fun v27 =>
                  guardP v27 true
                    (idxP 2 v17 (.int .i64 0) fun v31 =>
                      ldA 2 v31 w3 fun v32 =>
                      Ret c.P c.f_region_isIn #[v24, v32] w3 fun v33 w6 =>
                      k3 [v33] w6)
                    (k3 [(.bool false)] w3)) fun s3 j3 w5 =>
                joinP (fun k4 => condP (g s3 0)
                  (idxP 1 v10 (g s0 0) fun v37 =>
                    ld v37 w5 fun v38 =>
                    binP .add v38 (.int .i64 1) fun v39 =>
                    idxP 1 v10 (g s0 0) fun v40 =>
                    st v40 v39 w5 fun w8 =>
                    k4 [] w8)
                  (k4 [] w5)) fun s4 j4 w7 =>
                k2 [] w7) fun s2 j2 w4 =>
              binP .add (g s1 0) (.int .i64 1) fun v41 =>
              nx1 [v41] w4)
            (binP .add (g s0 0) (.int .i64 1) fun v42 =>
              nx0 [v42] w3)) [(.int .i64 0)] w2)
      (R v10 w2)) [(.int .i64 0)] w1

/-- beadlayer/region.abs -/
def wp_region_abs (c : Cfg) (a0 : Value) (w : World) (R : Value → World → Prop) : Prop :=
  pureP c.P (Op.unary .neg a0) fun v5 =>
  pureP c.P (Builtin.max_ #[c.t_int, c.t_int] c.t_int #[a0, v5]) fun v6 =>
  R v6 w

/-- beadlayer/region.Doubled -/
def wp_region_Doubled (c : Cfg) (a0 : Value) (w : World) (R : Value → World → Prop) : Prop :=
  lenP a0 fun v8 =>
  loopP (fun nx0 s0 j0 w1 =>
    binP .lss (g s0 1) v8 fun v10 =>
    condP v10
      (idxP 2 a0 (g s0 1) fun v12 =>
        ldA 2 v12 w1 fun v13 =>
        newP c.t_api_Point #[(.int .i64 0), (.int .i64 0)] w1 fun v5 w2 =>
        stA 2 v5 v13 w2 fun w3 =>
        binP .add (g s0 1) (.int .i64 1) fun v16 =>
        lenP a0 fun v18 =>
        binP .rem v16 v18 fun v19 =>
        idxP 2 a0 v19 fun v20 =>
        ldA 2 v20 w3 fun v21 =>
        newP c.t_api_Point #[(.int .i64 0), (.int .i64 0)] w3 fun v6 w4 =>
        stA 2 v6 v21 w4 fun w5 =>
        offP 0 v5 fun v23 =>
        ld v23 w5 fun v24 =>
        offP 1 v6 fun v25 =>
        ld v25 w5 fun v26 =>
        binP .mul v24 v26 fun v27 =>
        offP 1 v5 fun v28 =>
        ld v28 w5 fun v29 =>
        offP 0 v6 fun v30 =>
        ld v30 w5 fun v31 =>
        binP .mul v29 v31 fun v32 =>
        binP .sub v27 v32 fun v33 =>
        binP .add (g s0 0) v33 fun v34 =>
        binP .add (g s0 1) (.int .i64 1) fun v35 =>
        nx0 [v34, v35] w5)
      (R (g s0 0) w1)) [(.int .i64 0), (.int .i64 0)] w

/-- beadlayer/farm.planned -/
def wp_farm_planned (c : Cfg) (a0 a1 a2 a3 : Value) (w : World) (R : Value → World → Prop) : Prop :=
  Ret c.P c.f_farm_CheckPlan #[a0, a1, a2] w fun v13 w1 =>
  binP .neq v13 (.int .i64 0) fun v15 =>
  condP v15
    (R v13 w1)
    (Ret c.P c.f_farm_isChange #[a3] w1 fun v18 w2 =>
      notP v18 fun v19 =>
      condP v19
        (R (.int .i64 1) w2)
        (R (.int .i64 0) w2))

/-- beadlayer/farm.ends -/
def wp_farm_ends (c : Cfg) (a0 a1 a2 a3 : Value) (w : World) (R : Value → World → Prop) : Prop :=
  lenP a1 fun v18 =>
  semP c.P (Instr.makeSlice c.t_sl_int v18 v18) w fun v19 w1 =>
  lenP a2 fun v21 =>
  loopP (fun nx0 s0 j0 w2 =>
    binP .lss (g s0 1) v21 fun v23 =>
    condP v23
      (idxP 1 a2 (g s0 1) fun v25 =>
        ld v25 w2 fun v26 =>
        idxP 2 a0 (g s0 1) fun v29 =>
        offP 1 v29 fun v30 =>
        ld v30 w2 fun v31 =>
        pureP c.P (Instr.build c.t_farm_clock #[(0, (.int .i64 0)), (1, v31)]) fun v32 =>
        newP c.t_farm_clock #[(.int .i64 0), (.string (Bs []))] w2 fun v14 w3 =>
        stA 2 v14 v32 w3 fun w4 =>
        lenP v26 fun v34 =>
        loopP (fun nx1 s1 j1 w5 =>
          binP .lss (g s1 1) v34 fun v36 =>
          condP v36
            (idxP 1 v26 (g s1 1) fun v37 =>
              ld v37 w5 fun v38 =>
              ldA 2 v14 w5.drew fun v39 =>
              idxP 4 a1 v38 fun v42 =>
              ldA 4 v42 w5.drew fun v43 =>
              Ret c.P c.f_farm_clock_do #[v39, v43, a3] w5.drew fun v45 w6 =>
              stA 2 v14 v45 w6 fun w7 =>
              offP 0 v14 fun v48 =>
              ld v48 w7 fun v49 =>
              idxP 1 v19 v38 fun v50 =>
              st v50 v49 w7 fun w8 =>
              offP 0 v14 fun v52 =>
              ld v52 w8 fun v53 =>
              pureP c.P (Builtin.max_ #[c.t_int, c.t_int] c.t_int #[(g s1 0), v53]) fun v54 =>
              binP .add (g s1 1) (.int .i64 1) fun v55 =>
              nx1 [v54, v55] w8)
            (binP .add (g s0 1) (.int .i64 1) fun v56 =>
              nx0 [(g s1 0), v56] w5)) [(g s0 0), (.int .i64 0)] w4)
      (R (.tuple #[v19, (g s0 0)]) w2)) [(.int .i64 0), (.int .i64 0)] w1

/-- beadlayer/blref1.PointFault -/
def wp_blref1_PointFault (c : Cfg) (a0 : Value) (w : World) (R : Value → World → Prop) : Prop :=
  lenP a0 fun v6 =>
  loopP (fun nx0 s0 j0 w1 =>
    binP .lss (g s0 0) v6 fun v8 =>
    condP v8
      (idxP 2 a0 (g s0 0) fun v9 =>
        ldA 2 v9 w1 fun v10 =>
        newP c.t_api_Point #[(.int .i64 0), (.int .i64 0)] w1 fun v4 w2 =>
        stA 2 v4 v10 w2 fun w3 =>
        joinP (fun k1 =>
          offP 0 v4 fun v11 =>
          ld v11 w3 fun v12 =>
          Ret c.P c.f_blref1_in #[v12, (.int .i64 (-100000)), (.int .i64 100000)] w3 fun v13 w5 =>
          notP v13 fun v14 =>
          guardP v14 false
            (offP 1 v4 fun v16 =>
              ld v16 w5 fun v17 =>
              Ret c.P c.f_blref1_in #[v17, (.int .i64 (-100000)), (.int .i64 100000)] w5 fun v18 w6 =>
              notP v18 fun v19 =>
              k1 [v19] w6)
            (k1 [(.bool true)] w5)) fun s1 j1 w4 =>
        condP (g s1 0)
          (R (.int .i64 1) w4)
          (binP .add (g s0 0) (.int .i64 1) fun v21 =>
            nx0 [v21] w4))
      (R (.int .i64 0) w1)) [(.int .i64 0)] w

/-- beadlayer/kit.Outside -/
def wp_kit_Outside (c : Cfg) (a0 a1 a2 : Value) (w : World) (R : Value → World → Prop) : Prop :=
  joinP (fun k0 =>
    binP .lss a0 a1 fun v9 =>
    guardP v9 false
      (binP .gtr a0 a2 fun v13 =>
        k0 [v13] w)
      (k0 [(.bool true)] w)) fun s0 j0 w1 =>
  R (g s0 0) w1

/-- slices.ContainsFunc[[]beadlayer/api.Point,beadlayer/api.Point] -/
def wp_slices_ContainsFunc_sl_api_Point_api_Point (c : Cfg) (a0 a1 : Value) (w : World) (R : Value → World → Prop) : Prop :=
  Ret c.P c.f_slices_IndexFunc_sl_api_Point_api_Point #[a0, a1] w fun v7 w1 =>
  binP .geq v7 (.int .i64 0) fun v8 =>
  R v8 w1

/-- beadlayer/region.CheckRing -/
def wp_region_CheckRing (c : Cfg) (a0 : Value) (w : World) (R : Value → World → Prop) : Prop :=
  lenP a0 fun v7 =>
  binP .lss v7 (.int .i64 3) fun v8 =>
  condP v8
    (R (.int .i64 3) w)
    (lenP a0 fun v10 =>
      binP .gtr v10 (.int .i64 500) fun v11 =>
      condP v11
        (R (.int .i64 2) w)
        (Ret c.P c.f_slices_ContainsFunc_api_Ring_api_Point #[a0, (.func (.func c.f_region_IsFar) #[] #[])] w fun v13 w1 =>
          condP v13
            (R (.int .i64 1) w1)
            (semP c.P (Instr.makeMap c.t_map_api_Point_bool none) w1 fun v14 w2 =>
              lenP a0 fun v16 =>
              loopP (fun nx0 s0 j0 w3 =>
                binP .lss (g s0 0) v16 fun v18 =>
                condP v18
                  (idxP 2 a0 (g s0 0) fun v19 =>
                    ldA 2 v19 w3 fun v20 =>
                    newP c.t_api_Point #[(.int .i64 0), (.int .i64 0)] w3 fun v5 w4 =>
                    stA 2 v5 v20 w4 fun w5 =>
                    ldA 2 v5 w5 fun v22 =>
                    semP c.P (Instr.lookup c.t_map_api_Point_bool v14 v22 false) w5 fun v23 w6 =>
                    condP v23
                      (R (.int .i64 6) w6)
                      (ldA 2 v5 w6 fun v25 =>
                        semP c.P (Instr.mapUpdate c.t_map_api_Point_bool v14 v25 (.bool true)) w6 fun _ w7 =>
                        binP .add (g s0 0) (.int .i64 1) fun v26 =>
                        nx0 [v26] w7))
                  (Ret c.P c.f_region_sidesFault #[a0] w3 fun v28 w8 =>
                    R v28 w8)) [(.int .i64 0)] w2)))

/-- beadlayer/region.sides -/
def wp_region_sides (c : Cfg) (a0 : Value) (w : World) (R : Value → World → Prop) : Prop :=
  lenP a0 fun v9 =>
  loopP (fun nx0 s0 j0 w1 =>
    binP .lss (g s0 1) v9 fun v11 =>
    condP v11
      (idxP 1 a0 (g s0 1) fun v13 =>
        ld v13 w1 fun v14 =>
        lenP v14 fun v16 =>
        loopP (fun nx1 s1 j1 w2 =>
          binP .lss (g s1 1) v16 fun v18 =>
          condP v18
            (idxP 2 v14 (g s1 1) fun v20 =>
              ldA 2 v20 w2 fun v21 =>
              newP c.t_api_Point #[(.int .i64 0), (.int .i64 0)] w2 fun v7 w3 =>
              stA 2 v7 v21 w3 fun w4 =>
              heldP fun S => S w4.drew ∧
              ldAS S 2 v7 fun v24 =>
              binP .add (g s1 1) (.int .i64 1) fun v27 =>
              lenP v14 fun v29 =>
              binP .rem v27 v29 fun v30 =>
              idxP 2 v14 v30 fun v31 =>
              ldAS S 2 v31 fun v32 =>
              pureP c.P (Instr.build c.t_region_side #[(0, (g s0 1)), (1, v24), (2, v32)]) fun v33 =>
              semP c.P (Instr.buildSlice c.t_sl_region_side 1 #[(0, v33)]) w4.drew fun v34 w5 => S w5 ∧
              semP c.P (Builtin.append_ #[c.t_sl_region_side, c.t_sl_region_side] c.t_sl_region_side #[(g s1 0), v34]) w5 fun v35 w6 => S w6 ∧
              binP .add (g s1 1) (.int .i64 1) fun v36 =>
              nx1 [v35, v36] w6)
            (binP .add (g s0 1) (.int .i64 1) fun v37 =>
              nx0 [(g s1 0), v37] w2)) [(g s0 0), (.int .i64 0)] w1)
      (R (g s0 0) w1)) [(.slice none 0 0), (.int .i64 0)] w

/-- slices.SortFunc[[]beadlayer/region.side,beadlayer/region.side] -/
def wp_slices_SortFunc_sl_region_side_region_side (c : Cfg) (a0 a1 : Value) (w : World) (R : Value → World → Prop) : Prop :=
  lenP a0 fun v6 =>
  convI .u64 v6 fun v10 =>
  Ret c.P c.f_math_bits_Len #[v10] w fun v11 w1 =>
  Ret c.P c.f_slices_pdqsortCmpFunc_region_side #[a0, (.int .i64 0), v6, v11, a1] w1 fun v13 w2 =>
  R (.tuple #[]) w2

/-- beadlayer/region.CheckRegion$1 -/
def wp_region_CheckRegion_1 (c : Cfg) (a0 a1 : Value) (w : World) (R : Value → World → Prop) : Prop :=
  newP c.t_region_side (Value.cells a0) w fun v2 w1 =>
  newP c.t_region_side (Value.cells a1) w1 fun v3 w2 =>
  offP 1 v2 fun v5 =>
  offP 0 v5 fun v6 =>
  ld v6 w2 fun v7 =>
  offP 3 v2 fun v8 =>
  offP 0 v8 fun v9 =>
  ld v9 w2 fun v10 =>
  pureP c.P (Builtin.min_ #[c.t_int, c.t_int] c.t_int #[v7, v10]) fun v11 =>
  offP 1 v3 fun v12 =>
  offP 0 v12 fun v13 =>
  ld v13 w2 fun v14 =>
  offP 3 v3 fun v15 =>
  offP 0 v15 fun v16 =>
  ld v16 w2 fun v17 =>
  pureP c.P (Builtin.min_ #[c.t_int, c.t_int] c.t_int #[v14, v17]) fun v18 =>
  Ret c.P c.f_cmp_Compare_int #[v11, v18] w2 fun v19 w3 =>
  R v19 w3

/-- cmp.Compare[int] -/
def wp_cmp_Compare_int (c : Cfg) (a0 a1 : Value) (w : World) (R : Value → World → Prop) : Prop :=
  Ret c.P c.f_cmp_isNaN_int #[a0] w fun v8 w1 =>
  Ret c.P c.f_cmp_isNaN_int #[a1] w1 fun v10 w2 =>
  condP v8
    (condP v10
        (R (.int .i64 0) w2)
        (R (.int .i64 (-1)) w2))
    (condP v10
        (R (.int .i64 1) w2)
        (binP .lss a0 a1 fun v16 =>
          condP v16
            (R (.int .i64 (-1)) w2)
            (binP .gtr a0 a1 fun v19 =>
              condP v19
                (R (.int .i64 1) w2)
                (R (.int .i64 0) w2))))

/-- beadlayer/region.Meet -/
def wp_region_Meet (c : Cfg) (a0 a1 a2 a3 : Value) (w : World) (R : Value → World → Prop) : Prop :=
  newP c.t_api_Point (Value.cells a0) w fun v4 w1 =>
  newP c.t_api_Point (Value.cells a1) w1 fun v5 w2 =>
  newP c.t_api_Point (Value.cells a2) w2 fun v6 w3 =>
  newP c.t_api_Point (Value.cells a3) w3 fun v7 w4 =>
  joinP (fun k0 =>
    offP 0 v4 fun v10 =>
    ld v10 w4 fun v11 =>
    offP 0 v5 fun v12 =>
    ld v12 w4 fun v13 =>
    offP 0 v6 fun v14 =>
    ld v14 w4 fun v15 =>
    offP 0 v7 fun v16 =>
    ld v16 w4 fun v17 =>
    Ret c.P c.f_region_apart #[v11, v13, v15, v17] w4 fun v18 w6 =>
    guardP v18 false
      (offP 1 v4 fun v20 =>
        ld v20 w6 fun v21 =>
        offP 1 v5 fun v22 =>
        ld v22 w6 fun v23 =>
        offP 1 v6 fun v24 =>
        ld v24 w6 fun v25 =>
        offP 1 v7 fun v26 =>
        ld v26 w6 fun v27 =>
        Ret c.P c.f_region_apart #[v21, v23, v25, v27] w6 fun v28 w7 =>
        k0 [v28] w7)
      (k0 [(.bool true)] w6)) fun s0 j0 w5 =>
  condP (g s0 0)
    (R (.bool false) w5)
    (joinP (fun k1 =>
        heldP fun S => S w5.drew ∧
        ldAS S 2 v4 fun v31 =>
        ldAS S 2 v5 fun v32 =>
        ldAS S 2 v6 fun v33 =>
        ldAS S 2 v4 fun v35 =>
        ldAS S 2 v5 fun v36 =>
        ldAS S 2 v7 fun v37 =>
        Ret c.P c.f_region_turn #[v31, v32, v33] w5.drew fun v34 w9 => S w9 ∧
        Ret c.P c.f_region_turn #[v35, v36, v37] w9 fun v38 w10 => S w10 ∧
        callV c.P (.func (.func c.f_region_Meet_1) #[] #[]) #[v34, v38] w10 fun v39 w11 => S w11 ∧
        guardP v39 true
          (ldAS S 2 v6 fun v42 =>
            ldAS S 2 v7 fun v43 =>
            ldAS S 2 v4 fun v44 =>
            ldAS S 2 v6 fun v46 =>
            ldAS S 2 v7 fun v47 =>
            ldAS S 2 v5 fun v48 =>
            Ret c.P c.f_region_turn #[v42, v43, v44] w11 fun v45 w12 => S w12 ∧
            Ret c.P c.f_region_turn #[v46, v47, v48] w12 fun v49 w13 => S w13 ∧
            callV c.P (.func (.func c.f_region_Meet_1) #[] #[]) #[v45, v49] w13 fun v50 w14 => S w14 ∧
            k1 [v50] w14)
          (k1 [(.bool false)] w11)) fun s1 j1 w8 =>
      R (g s1 0) w8)

/-- beadlayer/region.isIn -/
def wp_region_isIn (c : Cfg) (a0 a1 : Value) (w : World) (R : Value → World → Prop) : Prop :=
  newP c.t_api_Point (Value.cells a1) w fun v3 w1 =>
  lenP a0 fun v10 =>
  loopP (fun nx0 s0 j0 w2 =>
    binP .lss (g s0 1) v10 fun v12 =>
    condP v12
      (joinP (fun k1 =>
          idxP 2 a0 (g s0 1) fun v14 =>
          ldA 2 v14 w2 fun v15 =>
          newP c.t_api_Point #[(.int .i64 0), (.int .i64 0)] w2 fun v7 w4 =>
          stA 2 v7 v15 w4 fun w5 =>
          binP .add (g s0 1) (.int .i64 1) fun v18 =>
          lenP a0 fun v20 =>
          binP .rem v18 v20 fun v21 =>
          idxP 2 a0 v21 fun v22 =>
          ldA 2 v22 w5 fun v23 =>
          newP c.t_api_Point #[(.int .i64 0), (.int .i64 0)] w5 fun v8 w6 =>
          stA 2 v8 v23 w6 fun w7 =>
          joinP (fun k2 =>
            heldP fun S => S w7.drew ∧
            offP 1 v7 fun v24 =>
            ldS S v24 fun v25 =>
            offP 1 v3 fun v26 =>
            ldS S v26 fun v27 =>
            binP .gtr v25 v27 fun v28 =>
            offP 1 v8 fun v29 =>
            ldS S v29 fun v30 =>
            offP 1 v3 fun v31 =>
            ldS S v31 fun v32 =>
            binP .gtr v30 v32 fun v33 =>
            pureP c.P (do eqGuard .neq c.t_bool (.tmp 28) (.tmp 33) v28 v33; binOp .neq c.t_bool v28 v33) fun v34 =>
            guardP v34 true
              (ldAS S 2 v7 fun v36 =>
                ldAS S 2 v8 fun v37 =>
                ldAS S 2 v3 fun v38 =>
                offP 1 v8 fun v41 =>
                ldS S v41 fun v42 =>
                offP 1 v7 fun v43 =>
                ldS S v43 fun v44 =>
                binP .gtr v42 v44 fun v45 =>
                Ret c.P c.f_region_turn #[v36, v37, v38] w7.drew fun v39 w9 => S w9 ∧
                binP .gtr v39 (.int .i64 0) fun v40 =>
                pureP c.P (do eqGuard .eql c.t_bool (.tmp 40) (.tmp 45) v40 v45; binOp .eql c.t_bool v40 v45) fun v46 =>
                k2 [v46] w9)
              (k2 [(.bool false)] w7.drew)) fun s2 j2 w8 =>
          joinP (fun k3 => condP (g s2 0)
            (notP (g s0 0) fun v49 =>
              k3 [v49] w8)
            (k3 [(g s0 0)] w8)) fun s3 j3 w10 =>
          k1 [(g s3 0)] w10) fun s1 j1 w3 =>
        binP .add (g s0 1) (.int .i64 1) fun v50 =>
        nx0 [(g s1 0), v50] w3)
      (R (g s0 0) w2)) [(.bool false), (.int .i64 0)] w1

/-- beadlayer/farm.CheckPlan -/
def wp_farm_CheckPlan (c : Cfg) (a0 a1 a2 : Value) (w : World) (R : Value → World → Prop) : Prop :=
  Ret c.P c.f_farm_fault #[a0, a1] w fun v15 w1 =>
  binP .neq v15 (.int .i64 0) fun v17 =>
  condP v17
    (R v15 w1)
    (lenP a2 fun v20 =>
      lenP a0 fun v22 =>
      binP .neq v20 v22 fun v23 =>
      condP v23
        (R (.int .i64 3) w1)
        (lenP a1 fun v25 =>
          semP c.P (Instr.makeSlice c.t_sl_bool v25 v25) w1 fun v26 w2 =>
          lenP a2 fun v28 =>
          loopP (fun nx0 s0 j0 w3 =>
            binP .lss (g s0 0) v28 fun v30 =>
            condP v30
              (idxP 1 a2 (g s0 0) fun v31 =>
                ld v31 w3 fun v32 =>
                lenP v32 fun v34 =>
                loopP (fun nx1 s1 j1 w4 =>
                  binP .lss (g s1 0) v34 fun v36 =>
                  condP v36
                    (idxP 1 v32 (g s1 0) fun v37 =>
                      ld v37 w4 fun v38 =>
                      joinP (fun k2 =>
                        binP .lss v38 (.int .i64 0) fun v40 =>
                        guardP v40 false
                          (lenP a1 fun v44 =>
                            binP .geq v38 v44 fun v45 =>
                            k2 [v45] w4)
                          (k2 [(.bool true)] w4)) fun s2 j2 w5 =>
                      condP (g s2 0)
                        (R (.int .i64 1) w5)
                        (idxP 1 v26 v38 fun v49 =>
                          ld v49 w5 fun v50 =>
                          condP v50
                            (R (.int .i64 6) w5)
                            (idxP 1 v26 v38 fun v53 =>
                              st v53 (.bool true) w5 fun w6 =>
                              binP .add (g s1 0) (.int .i64 1) fun v54 =>
                              nx1 [v54] w6)))
                    (binP .add (g s0 0) (.int .i64 1) fun v55 =>
                      nx0 [v55] w4)) [(.int .i64 0)] w3)
              (Ret c.P c.f_slices_Contains_sl_bool_bool #[v26, (.bool false)] w3 fun v57 w7 =>
                condP v57
                  (R (.int .i64 8) w7)
                  (R (.int .i64 0) w7))) [(.int .i64 0)] w2))

/-- beadlayer/farm.isChange -/
def wp_farm_isChange (c : Cfg) (a0 : Value) (w : World) (R : Value → World → Prop) : Prop :=
  Ret c.P c.f_kit_Outside #[a0, (.int .i64 0), (.int .i64 100000)] w fun v4 w1 =>
  notP v4 fun v5 =>
  R v5 w1

/-- (beadlayer/farm.clock).do -/
def wp_farm_clock_do (c : Cfg) (a0 a1 a2 : Value) (w : World) (R : Value → World → Prop) : Prop :=
  newP c.t_farm_clock (Value.cells a0) w fun v3 w1 =>
  newP c.t_api_Job (Value.cells a1) w1 fun v4 w2 =>
  newP c.t_farm_clock #[(.int .i64 0), (.string (Bs []))] w2 fun v6 w3 =>
  offP 1 v3 fun v7 =>
  ld v7 w3 fun v8 =>
  offP 1 v4 fun v9 =>
  ld v9 w3 fun v10 =>
  binP .neq v8 v10 fun v11 =>
  joinP (fun k0 => condP v11
    (offP 0 v3 fun v12 =>
      ld v12 w3 fun v13 =>
      binP .add v13 a2 fun v15 =>
      offP 0 v3 fun v16 =>
      st v16 v15 w3 fun w5 =>
      k0 [] w5)
    (k0 [] w3)) fun s0 j0 w4 =>
  offP 0 v3 fun v17 =>
  ld v17 w4 fun v18 =>
  offP 2 v4 fun v19 =>
  ld v19 w4 fun v20 =>
  binP .add v18 v20 fun v21 =>
  offP 1 v4 fun v22 =>
  ld v22 w4 fun v23 =>
  pureP c.P (Instr.build c.t_farm_clock #[(0, v21), (1, v23)]) fun v24 =>
  stA 2 v6 v24 w4 fun w6 =>
  ldA 2 v6 w6 fun v6_1 =>
  R v6_1 w6

/-- beadlayer/blref1.in -/
def wp_blref1_in (c : Cfg) (a0 a1 a2 : Value) (w : World) (R : Value → World → Prop) : Prop :=
  joinP (fun k0 =>
    binP .leq a1 a0 fun v9 =>
    guardP v9 true
      (binP .leq a0 a2 fun v13 =>
        k0 [v13] w)
      (k0 [(.bool false)] w)) fun s0 j0 w1 =>
  R (g s0 0) w1

/-- slices.IndexFunc[[]beadlayer/api.Point,beadlayer/api.Point] -/
def wp_slices_IndexFunc_sl_api_Point_api_Point (c : Cfg) (a0 a1 : Value) (w : World) (R : Value → World → Prop) : Prop :=
  lenP a0 fun v7 =>
  loopP (fun nx0 s0 j0 w1 =>
    binP .lss (g s0 0) v7 fun v9 =>
    condP v9
      (idxP 2 a0 (g s0 0) fun v14 =>
        ldA 2 v14 w1 fun v15 =>
        callV c.P a1 #[v15] w1 fun v16 w2 =>
        condP v16
          (R (g s0 0) w2)
          (binP .add (g s0 0) (.int .i64 1) fun v18 =>
            nx0 [v18] w2))
      (R (.int .i64 (-1)) w1)) [(.int .i64 0)] w

/-- slices.ContainsFunc[beadlayer/api.Ring,beadlayer/api.Point] -/
def wp_slices_ContainsFunc_api_Ring_api_Point (c : Cfg) (a0 a1 : Value) (w : World) (R : Value → World → Prop) : Prop :=
  Ret c.P c.f_slices_IndexFunc_api_Ring_api_Point #[a0, a1] w fun v7 w1 =>
  binP .geq v7 (.int .i64 0) fun v8 =>
  R v8 w1

/-- beadlayer/region.sidesFault -/
def wp_region_sidesFault (c : Cfg) (a0 : Value) (w : World) (R : Value → World → Prop) : Prop :=
  lenP a0 fun v9 =>
  lenP a0 fun v11 =>
  loopP (fun nx0 s0 j0 w1 =>
    binP .lss (g s0 0) v11 fun v13 =>
    condP v13
      (joinP (fun k1 =>
          heldP fun S => S w1.drew ∧
          idxP 2 a0 (g s0 0) fun v17 =>
          ldAS S 2 v17 fun v18 =>
          binP .add (g s0 0) (.int .i64 1) fun v21 =>
          binP .rem v21 v9 fun v23 =>
          idxP 2 a0 v23 fun v24 =>
          ldAS S 2 v24 fun v25 =>
          (newP c.t_api_Point #[(.int .i64 0), (.int .i64 0)] w1.drew fun v5 w3 => S w3 ∧
            newP c.t_api_Point #[(.int .i64 0), (.int .i64 0)] w3 fun v6 w4 => S w4 ∧
            stA 2 v5 v18 w4 fun w5 => S w5 ∧
            stA 2 v6 v25 w5 fun w6 =>
            k1 [v5, v6] w6)
          ∧ (newP c.t_api_Point #[(.int .i64 0), (.int .i64 0)] w1.drew fun v6_1 w7 => S w7 ∧
            newP c.t_api_Point #[(.int .i64 0), (.int .i64 0)] w7 fun v5_1 w8 => S w8 ∧
            stA 2 v5_1 v18 w8 fun w9 => S w9 ∧
            stA 2 v6_1 v25 w9 fun w10 =>
            k1 [v5_1, v6_1] w10)) fun s1 j1 w2 =>
        ldA 2 (g s1 1) w2.drew fun v26 =>
        ldA 2 (g s1 0) w2.drew fun v27 =>
        binP .add (g s0 0) (.int .i64 2) fun v30 =>
        binP .rem v30 v9 fun v32 =>
        idxP 2 a0 v32 fun v33 =>
        ldA 2 v33 w2.drew fun v34 =>
        Ret c.P c.f_region_foldsBack #[v26, v27, v34] w2.drew fun v35 w11 =>
        condP v35
          (R (.int .i64 13) w11)
          (binP .add (g s0 0) (.int .i64 2) fun v37 =>
            loopP (fun nx2 s2 j2 w12 =>
              joinP (fun k3 =>
                binP .lss (g s2 0) v9 fun v40 =>
                guardP v40 true
                  (binP .eql (g s0 0) (.int .i64 0) fun v43 =>
                    guardP v43 true
                      (binP .sub v9 (.int .i64 1) fun v47 =>
                        binP .eql (g s2 0) v47 fun v48 =>
                        notP v48 fun v50 =>
                        k3 [v50] w12)
                      (notP (.bool false) fun v50_1 =>
                        k3 [v50_1] w12))
                  (k3 [(.bool false)] w12)) fun s3 j3 w13 =>
              condP (g s3 0)
                (ldA 2 (g s1 0) w13.drew fun v54 =>
                  ldA 2 (g s1 1) w13.drew fun v55 =>
                  idxP 2 a0 (g s2 0) fun v58 =>
                  ldA 2 v58 w13.drew fun v59 =>
                  binP .add (g s2 0) (.int .i64 1) fun v62 =>
                  binP .rem v62 v9 fun v64 =>
                  idxP 2 a0 v64 fun v65 =>
                  ldA 2 v65 w13.drew fun v66 =>
                  Ret c.P c.f_region_Meet #[v54, v55, v59, v66] w13.drew fun v67 w14 =>
                  condP v67
                    (R (.int .i64 13) w14)
                    (binP .add (g s2 0) (.int .i64 1) fun v53 =>
                      nx2 [v53] w14))
                (binP .add (g s0 0) (.int .i64 1) fun v68 =>
                  nx0 [v68] w13)) [v37] w11))
      (R (.int .i64 0) w1)) [(.int .i64 0)] w

/-- slices.pdqsortCmpFunc[beadlayer/region.side] -/
def wp_slices_pdqsortCmpFunc_region_side (c : Cfg) (a0 a1 a2 a3 a4 : Value) (w : World) (R : Value → World → Prop) : Prop :=
  loopP (fun nx0 s0 j0 w1 =>
    joinP (fun k1 =>
      binP .sub (g s0 1) (g s0 0) fun v23 =>
      binP .leq v23 (.int .i64 12) fun v25 =>
      condP v25
        (Ret c.P c.f_slices_insertionSortCmpFunc_region_side #[a0, (g s0 0), (g s0 1), a4] w1 fun v30 w3 =>
          R (.tuple #[]) w3)
        (binP .eql (g s0 2) (.int .i64 0) fun v32 =>
          condP v32
            (Ret c.P c.f_slices_heapSortCmpFunc_region_side #[a0, (g s0 0), (g s0 1), a4] w1 fun v37 w4 =>
              R (.tuple #[]) w4)
            (notP (g s0 3) fun v39 =>
              joinP (fun k2 => condP v39
                (Ret c.P c.f_slices_breakPatternsCmpFunc_region_side #[a0, (g s0 0), (g s0 1), a4] w1 fun v44 w6 =>
                  binP .sub (g s0 2) (.int .i64 1) fun v46 =>
                  k2 [v46] w6)
                (k2 [(g s0 2)] w1)) fun s2 j2 w5 =>
              Ret c.P c.f_slices_choosePivotCmpFunc_region_side #[a0, (g s0 0), (g s0 1), a4] w5 fun v52 w7 =>
              exP 0 v52 fun v53 =>
              exP 1 v52 fun v54 =>
              binP .eql v54 (.int .i64 2) fun v56 =>
              joinP (fun k3 => condP v56
                (Ret c.P c.f_slices_reverseRangeCmpFunc_region_side #[a0, (g s0 0), (g s0 1), a4] w7 fun v61 w9 =>
                  binP .sub (g s0 1) (.int .i64 1) fun v63 =>
                  binP .sub v53 (g s0 0) fun v66 =>
                  binP .sub v63 v66 fun v67 =>
                  k3 [v67, (.int .i64 1)] w9)
                (k3 [v53, v54] w7)) fun s3 j3 w8 =>
              joinP (fun k4 =>
                guardP (g s0 3) true
                  (guardP (g s0 4) true
                      (binP .eql (g s3 1) (.int .i64 1) fun v74 =>
                        k4 [v74] w8)
                      (k4 [(.bool false)] w8))
                  (k4 [(.bool false)] w8)) fun s4 j4 w10 =>
              joinP (fun k5 => condP (g s4 0)
                (Ret c.P c.f_slices_partialInsertionSortCmpFunc_region_side #[a0, (g s0 0), (g s0 1), a4] w10 fun v80 w12 =>
                  condP v80
                    (R (.tuple #[]) w12)
                    (k5 [] w12))
                (k5 [] w10)) fun s5 j5 w11 =>
              joinP (fun k6 =>
                heldP fun S => S w11.drew ∧
                binP .gtr (g s0 0) (.int .i64 0) fun v82 =>
                guardP v82 true
                  (binP .sub (g s0 0) (.int .i64 1) fun v87 =>
                    idxP 5 a0 v87 fun v88 =>
                    ldAS S 5 v88 fun v89 =>
                    idxP 5 a0 (g s3 0) fun v92 =>
                    ldAS S 5 v92 fun v93 =>
                    callV c.P a4 #[v89, v93] w11.drew fun v94 w14 => S w14 ∧
                    binP .lss v94 (.int .i64 0) fun v95 =>
                    notP v95 fun v96 =>
                    k6 [v96] w14)
                  (k6 [(.bool false)] w11.drew)) fun s6 j6 w13 =>
              condP (g s6 0)
                (Ret c.P c.f_slices_partitionEqualCmpFunc_region_side #[a0, (g s0 0), (g s0 1), (g s3 0), a4] w13 fun v103 w15 =>
                  k1 [v103, (g s0 1), (g s2 0), (g s0 3), (g s0 4)] w15)
                (Ret c.P c.f_slices_partitionCmpFunc_region_side #[a0, (g s0 0), (g s0 1), (g s3 0), a4] w13 fun v111 w16 =>
                  exP 0 v111 fun v112 =>
                  exP 1 v111 fun v113 =>
                  binP .sub v112 (g s0 0) fun v117 =>
                  binP .sub (g s0 1) v112 fun v120 =>
                  binP .quo v23 (.int .i64 8) fun v122 =>
                  binP .lss v117 v120 fun v125 =>
                  joinP (fun k7 => condP v125
                    (binP .geq v117 v122 fun v128 =>
                      Ret c.P c.f_slices_pdqsortCmpFunc_region_side #[a0, (g s0 0), v112, (g s2 0), a4] w16 fun v134 w18 =>
                      binP .add v112 (.int .i64 1) fun v136 =>
                      k7 [v136, (g s0 1), v128] w18)
                    (binP .geq v120 v122 fun v139 =>
                      binP .add v112 (.int .i64 1) fun v142 =>
                      Ret c.P c.f_slices_pdqsortCmpFunc_region_side #[a0, v142, (g s0 1), (g s2 0), a4] w16 fun v146 w19 =>
                      k7 [(g s0 0), v112, v139] w19)) fun s7 j7 w17 =>
                  k1 [(g s7 0), (g s7 1), (g s2 0), (g s7 2), v113] w17)))) fun s1 j1 w2 =>
    nx0 [(g s1 0), (g s1 1), (g s1 2), (g s1 3), (g s1 4)] w2) [a1, a2, a3, (.bool true), (.bool true)] w

/-- math/bits.Len -/
def wp_math_bits_Len (c : Cfg) (a0 : Value) (w : World) (R : Value → World → Prop) : Prop :=
  condP (.bool false)
    (convI .u32 a0 fun v4 =>
      Ret c.P c.f_math_bits_Len32 #[v4] w fun v5 w1 =>
      R v5 w1)
    (Ret c.P c.f_math_bits_Len64 #[a0] w fun v7 w2 =>
      R v7 w2)

/-- cmp.isNaN[int] -/
def wp_cmp_isNaN_int (c : Cfg) (a0 : Value) (w : World) (R : Value → World → Prop) : Prop :=
  binP .neq a0 a0 fun v5 =>
  R v5 w

/-- beadlayer/region.apart -/
def wp_region_apart (c : Cfg) (a0 a1 a2 a3 : Value) (w : World) (R : Value → World → Prop) : Prop :=
  joinP (fun k0 =>
    pureP c.P (Builtin.max_ #[c.t_int, c.t_int] c.t_int #[a0, a1]) fun v11 =>
    pureP c.P (Builtin.min_ #[c.t_int, c.t_int] c.t_int #[a2, a3]) fun v14 =>
    binP .lss v11 v14 fun v15 =>
    guardP v15 false
      (pureP c.P (Builtin.max_ #[c.t_int, c.t_int] c.t_int #[a2, a3]) fun v19 =>
        pureP c.P (Builtin.min_ #[c.t_int, c.t_int] c.t_int #[a0, a1]) fun v22 =>
        binP .lss v19 v22 fun v23 =>
        k0 [v23] w)
      (k0 [(.bool true)] w)) fun s0 j0 w1 =>
  R (g s0 0) w1

/-- beadlayer/region.Meet$1 -/
def wp_region_Meet_1 (c : Cfg) (a0 a1 : Value) (w : World) (R : Value → World → Prop) : Prop :=
  joinP (fun k0 =>
    pureP c.P (Builtin.min_ #[c.t_int, c.t_int] c.t_int #[a0, a1]) fun v7 =>
    binP .leq v7 (.int .i64 0) fun v8 =>
    guardP v8 true
      (pureP c.P (Builtin.max_ #[c.t_int, c.t_int] c.t_int #[a0, a1]) fun v12 =>
        binP .geq v12 (.int .i64 0) fun v13 =>
        k0 [v13] w)
      (k0 [(.bool false)] w)) fun s0 j0 w1 =>
  R (g s0 0) w1

/-- beadlayer/region.turn -/
def wp_region_turn (c : Cfg) (a0 a1 a2 : Value) (w : World) (R : Value → World → Prop) : Prop :=
  newP c.t_api_Point (Value.cells a0) w fun v3 w1 =>
  newP c.t_api_Point (Value.cells a1) w1 fun v4 w2 =>
  newP c.t_api_Point (Value.cells a2) w2 fun v5 w3 =>
  offP 0 v4 fun v7 =>
  ld v7 w3 fun v8 =>
  offP 0 v3 fun v9 =>
  ld v9 w3 fun v10 =>
  binP .sub v8 v10 fun v11 =>
  offP 1 v5 fun v12 =>
  ld v12 w3 fun v13 =>
  offP 1 v3 fun v14 =>
  ld v14 w3 fun v15 =>
  binP .sub v13 v15 fun v16 =>
  binP .mul v11 v16 fun v17 =>
  offP 1 v4 fun v18 =>
  ld v18 w3 fun v19 =>
  offP 1 v3 fun v20 =>
  ld v20 w3 fun v21 =>
  binP .sub v19 v21 fun v22 =>
  offP 0 v5 fun v23 =>
  ld v23 w3 fun v24 =>
  offP 0 v3 fun v25 =>
  ld v25 w3 fun v26 =>
  binP .sub v24 v26 fun v27 =>
  binP .mul v22 v27 fun v28 =>
  binP .sub v17 v28 fun v29 =>
  R v29 w3

/-- beadlayer/farm.fault -/
def wp_farm_fault (c : Cfg) (a0 a1 : Value) (w : World) (R : Value → World → Prop) : Prop :=
  Ret c.P c.f_farm_CheckPrinters #[a0] w fun v7 w1 =>
  binP .neq v7 (.int .i64 0) fun v9 =>
  condP v9
    (R v7 w1)
    (Ret c.P c.f_farm_CheckJobs #[a1] w1 fun v12 w2 =>
      R v12 w2)

/-- slices.Contains[[]bool,bool] -/
def wp_slices_Contains_sl_bool_bool (c : Cfg) (a0 a1 : Value) (w : World) (R : Value → World → Prop) : Prop :=
  Ret c.P c.f_slices_Index_sl_bool_bool #[a0, a1] w fun v7 w1 =>
  binP .geq v7 (.int .i64 0) fun v8 =>
  R v8 w1

/-- slices.IndexFunc[beadlayer/api.Ring,beadlayer/api.Point] -/
def wp_slices_IndexFunc_api_Ring_api_Point (c : Cfg) (a0 a1 : Value) (w : World) (R : Value → World → Prop) : Prop :=
  lenP a0 fun v7 =>
  loopP (fun nx0 s0 j0 w1 =>
    binP .lss (g s0 0) v7 fun v9 =>
    condP v9
      (idxP 2 a0 (g s0 0) fun v14 =>
        ldA 2 v14 w1 fun v15 =>
        callV c.P a1 #[v15] w1 fun v16 w2 =>
        condP v16
          (R (g s0 0) w2)
          (binP .add (g s0 0) (.int .i64 1) fun v18 =>
            nx0 [v18] w2))
      (R (.int .i64 (-1)) w1)) [(.int .i64 0)] w

/-- beadlayer/region.foldsBack -/
def wp_region_foldsBack (c : Cfg) (a0 a1 a2 : Value) (w : World) (R : Value → World → Prop) : Prop :=
  newP c.t_api_Point (Value.cells a0) w fun v3 w1 =>
  newP c.t_api_Point (Value.cells a1) w1 fun v4 w2 =>
  newP c.t_api_Point (Value.cells a2) w2 fun v5 w3 =>
  joinP (fun k0 =>
    ldA 2 v3 w3 fun v7 =>
    ldA 2 v4 w3 fun v8 =>
    ldA 2 v5 w3 fun v9 =>
    Ret c.P c.f_region_turn #[v7, v8, v9] w3 fun v10 w5 =>
    binP .eql v10 (.int .i64 0) fun v11 =>
    guardP v11 true
      (offP 0 v4 fun v13 =>
        ld v13 w5 fun v14 =>
        offP 0 v3 fun v15 =>
        ld v15 w5 fun v16 =>
        binP .sub v14 v16 fun v17 =>
        offP 0 v5 fun v18 =>
        ld v18 w5 fun v19 =>
        offP 0 v3 fun v20 =>
        ld v20 w5 fun v21 =>
        binP .sub v19 v21 fun v22 =>
        binP .mul v17 v22 fun v23 =>
        offP 1 v4 fun v24 =>
        ld v24 w5 fun v25 =>
        offP 1 v3 fun v26 =>
        ld v26 w5 fun v27 =>
        binP .sub v25 v27 fun v28 =>
        offP 1 v5 fun v29 =>
        ld v29 w5 fun v30 =>
        offP 1 v3 fun v31 =>
        ld v31 w5 fun v32 =>
        binP .sub v30 v32 fun v33 =>
        binP .mul v28 v33 fun v34 =>
        binP .add v23 v34 fun v35 =>
        binP .gtr v35 (.int .i64 0) fun v36 =>
        k0 [v36] w5)
      (k0 [(.bool false)] w5)) fun s0 j0 w4 =>
  R (g s0 0) w4

/-- slices.insertionSortCmpFunc[beadlayer/region.side] -/
def wp_slices_insertionSortCmpFunc_region_side (c : Cfg) (a0 a1 a2 a3 : Value) (w : World) (R : Value → World → Prop) : Prop :=
  binP .add a1 (.int .i64 1) fun v11 =>
  loopP (fun nx0 s0 j0 w1 =>
    binP .lss (g s0 0) a2 fun v14 =>
    condP v14
      (loopP (fun nx1 s1 j1 w2 =>
          joinP (fun k2 =>
            heldP fun S => S w2.drew ∧
            binP .gtr (g s1 0) a1 fun v20 =>
            guardP v20 true
              (idxP 5 a0 (g s1 0) fun v25 =>
                ldAS S 5 v25 fun v26 =>
                binP .sub (g s1 0) (.int .i64 1) fun v29 =>
                idxP 5 a0 v29 fun v30 =>
                ldAS S 5 v30 fun v31 =>
                callV c.P a3 #[v26, v31] w2.drew fun v32 w4 => S w4 ∧
                binP .lss v32 (.int .i64 0) fun v33 =>
                k2 [v33] w4)
              (k2 [(.bool false)] w2.drew)) fun s2 j2 w3 =>
          condP (g s2 0)
            (binP .sub (g s1 0) (.int .i64 1) fun v41 =>
              binP .sub (g s1 0) (.int .i64 1) fun v44 =>
              idxP 5 a0 v44 fun v45 =>
              ldA 5 v45 w3.drew fun v46 =>
              idxP 5 a0 (g s1 0) fun v49 =>
              ldA 5 v49 w3.drew fun v50 =>
              idxP 5 a0 (g s1 0) fun v51 =>
              stA 5 v51 v46 w3.drew fun w5 =>
              idxP 5 a0 v41 fun v52 =>
              stA 5 v52 v50 w5 fun w6 =>
              binP .sub (g s1 0) (.int .i64 1) fun v36 =>
              nx1 [v36] w6)
            (binP .add (g s0 0) (.int .i64 1) fun v16 =>
              nx0 [v16] w3)) [(g s0 0)] w1)
      (R (.tuple #[]) w1)) [v11] w

/-- slices.heapSortCmpFunc[beadlayer/region.side] -/
def wp_slices_heapSortCmpFunc_region_side (c : Cfg) (a0 a1 a2 a3 : Value) (w : World) (R : Value → World → Prop) : Prop :=
  binP .sub a2 a1 fun v16 =>
  binP .sub v16 (.int .i64 1) fun v18 =>
  binP .quo v18 (.int .i64 2) fun v19 =>
  loopP (fun nx0 s0 j0 w1 =>
    binP .geq (g s0 0) (.int .i64 0) fun v21 =>
    condP v21
      (Ret c.P c.f_slices_siftDownCmpFunc_region_side #[a0, (g s0 0), v16, a1, a3] w1 fun v29 w2 =>
        binP .sub (g s0 0) (.int .i64 1) fun v23 =>
        nx0 [v23] w2)
      (binP .sub v16 (.int .i64 1) fun v31 =>
        loopP (fun nx1 s1 j1 w3 =>
          binP .geq (g s1 0) (.int .i64 0) fun v33 =>
          condP v33
            (binP .add a1 (g s1 0) fun v41 =>
              binP .add a1 (g s1 0) fun v45 =>
              idxP 5 a0 v45 fun v46 =>
              ldA 5 v46 w3.drew fun v47 =>
              idxP 5 a0 a1 fun v50 =>
              ldA 5 v50 w3.drew fun v51 =>
              idxP 5 a0 a1 fun v52 =>
              stA 5 v52 v47 w3.drew fun w4 =>
              idxP 5 a0 v41 fun v53 =>
              stA 5 v53 v51 w4 fun w5 =>
              Ret c.P c.f_slices_siftDownCmpFunc_region_side #[a0, (.int .i64 0), (g s1 0), a1, a3] w5 fun v59 w6 =>
              binP .sub (g s1 0) (.int .i64 1) fun v35 =>
              nx1 [v35] w6)
            (R (.tuple #[]) w3)) [v31] w1)) [v19] w

/-- slices.breakPatternsCmpFunc[beadlayer/region.side] -/
def wp_slices_breakPatternsCmpFunc_region_side (c : Cfg) (a0 a1 a2 a3 : Value) (w : World) (R : Value → World → Prop) : Prop :=
  binP .sub a2 a1 fun v15 =>
  binP .geq v15 (.int .i64 8) fun v17 =>
  joinP (fun k0 => condP v17
    (convI .u64 v15 fun v19 =>
      newP c.t_slices_xorshift #[(.int .u64 0)] w fun v9 w2 =>
      st v9 v19 w2 fun w3 =>
      Ret c.P c.f_slices_nextPowerOfTwo #[v15] w3 fun v21 w4 =>
      binP .quo v15 (.int .i64 4) fun v24 =>
      binP .mul v24 (.int .i64 2) fun v25 =>
      binP .add a1 v25 fun v26 =>
      binP .sub v26 (.int .i64 1) fun v27 =>
      loopP (fun nx1 s1 j1 w5 =>
        binP .quo v15 (.int .i64 4) fun v31 =>
        binP .mul v31 (.int .i64 2) fun v32 =>
        binP .add a1 v32 fun v33 =>
        binP .add v33 (.int .i64 1) fun v34 =>
        binP .leq (g s1 0) v34 fun v35 =>
        condP v35
          (Ret c.P c.f_p_slices_xorshift_Next #[v9] w5 fun v38 w6 =>
            binP .sub v21 (.int .u64 1) fun v40 =>
            pureP c.P (do eqGuard .and c.t_uint (.tmp 38) (.tmp 40) v38 v40; binOp .and c.t_uint v38 v40) fun v41 =>
            convI .i64 v41 fun v42 =>
            binP .geq v42 v15 fun v45 =>
            joinP (fun k2 => condP v45
              (binP .sub v42 v15 fun v48 =>
                k2 [v48] w6)
              (k2 [v42] w6)) fun s2 j2 w7 =>
            binP .add a1 (g s2 0) fun v54 =>
            binP .add a1 (g s2 0) fun v58 =>
            idxP 5 a0 v58 fun v59 =>
            ldA 5 v59 w7.drew fun v60 =>
            idxP 5 a0 (g s1 0) fun v63 =>
            ldA 5 v63 w7.drew fun v64 =>
            idxP 5 a0 (g s1 0) fun v65 =>
            stA 5 v65 v60 w7.drew fun w8 =>
            idxP 5 a0 v54 fun v66 =>
            stA 5 v66 v64 w8 fun w9 =>
            binP .add (g s1 0) (.int .i64 1) fun v37 =>
            nx1 [v37] w9)
          (k0 [] w5)) [v27] w4)
    (k0 [] w)) fun s0 j0 w1 =>
  R (.tuple #[]) w1

/-- slices.choosePivotCmpFunc[beadlayer/region.side] -/
def wp_slices_choosePivotCmpFunc_region_side (c : Cfg) (a0 a1 a2 a3 : Value) (w : World) (R : Value → World → Prop) : Prop :=
  binP .sub a2 a1 fun v17 =>
  newP c.t_int #[(.int .i64 0)] w fun v11 w1 =>
  binP .quo v17 (.int .i64 4) fun v20 =>
  binP .mul v20 (.int .i64 1) fun v21 =>
  binP .add a1 v21 fun v22 =>
  binP .quo v17 (.int .i64 4) fun v25 =>
  binP .mul v25 (.int .i64 2) fun v26 =>
  binP .add a1 v26 fun v27 =>
  binP .quo v17 (.int .i64 4) fun v30 =>
  binP .mul v30 (.int .i64 3) fun v31 =>
  binP .add a1 v31 fun v32 =>
  binP .geq v17 (.int .i64 8) fun v34 =>
  joinP (fun k0 => condP v34
    (binP .geq v17 (.int .i64 50) fun v36 =>
      joinP (fun k1 => condP v36
        (Ret c.P c.f_slices_medianAdjacentCmpFunc_region_side #[a0, v22, v11, a3] w1 fun v40 w4 =>
          Ret c.P c.f_slices_medianAdjacentCmpFunc_region_side #[a0, v27, v11, a3] w4 fun v44 w5 =>
          Ret c.P c.f_slices_medianAdjacentCmpFunc_region_side #[a0, v32, v11, a3] w5 fun v48 w6 =>
          k1 [v40, v44, v48] w6)
        (k1 [v22, v27, v32] w1)) fun s1 j1 w3 =>
      Ret c.P c.f_slices_medianCmpFunc_region_side #[a0, (g s1 0), (g s1 1), (g s1 2), v11, a3] w3 fun v54 w7 =>
      k0 [v54] w7)
    (k0 [v27] w1)) fun s0 j0 w2 =>
  ld v11 w2 fun v55 =>
  binP .eql v55 (.int .i64 0) fun v58 =>
  condP v58
    (R (.tuple #[(g s0 0), (.int .i64 1)]) w2)
    (binP .eql v55 (.int .i64 12) fun v61 =>
      condP v61
        (R (.tuple #[(g s0 0), (.int .i64 2)]) w2)
        (R (.tuple #[(g s0 0), (.int .i64 0)]) w2))

/-- slices.reverseRangeCmpFunc[beadlayer/region.side] -/
def wp_slices_reverseRangeCmpFunc_region_side (c : Cfg) (a0 a1 a2 a3 : Value) (w : World) (R : Value → World → Prop) : Prop :=
  binP .sub a2 (.int .i64 1) fun v12 =>
  loopP (fun nx0 s0 j0 w1 =>
    binP .lss (g s0 0) (g s0 1) fun v15 =>
    condP v15
      (idxP 5 a0 (g s0 1) fun v22 =>
        ldA 5 v22 w1.drew fun v23 =>
        idxP 5 a0 (g s0 0) fun v26 =>
        ldA 5 v26 w1.drew fun v27 =>
        idxP 5 a0 (g s0 0) fun v28 =>
        stA 5 v28 v23 w1.drew fun w2 =>
        idxP 5 a0 (g s0 1) fun v29 =>
        stA 5 v29 v27 w2 fun w3 =>
        binP .add (g s0 0) (.int .i64 1) fun v31 =>
        binP .sub (g s0 1) (.int .i64 1) fun v33 =>
        nx0 [v31, v33] w3)
      (R (.tuple #[]) w1)) [a1, v12] w

/-- slices.partialInsertionSortCmpFunc[beadlayer/region.side] -/
def wp_slices_partialInsertionSortCmpFunc_region_side (c : Cfg) (a0 a1 a2 a3 : Value) (w : World) (R : Value → World → Prop) : Prop :=
  binP .add a1 (.int .i64 1) fun v14 =>
  loopP (fun nx0 s0 j0 w1 =>
    binP .lss (g s0 1) (.int .i64 5) fun v16 =>
    condP v16
      (joinP (fun k1 =>
          loopP (fun nx2 s2 j2 w3 =>
            joinP (fun k3 =>
              heldP fun S => S w3.drew ∧
              binP .lss (g s2 0) a2 fun v21 =>
              guardP v21 true
                (idxP 5 a0 (g s2 0) fun v26 =>
                  ldAS S 5 v26 fun v27 =>
                  binP .sub (g s2 0) (.int .i64 1) fun v30 =>
                  idxP 5 a0 v30 fun v31 =>
                  ldAS S 5 v31 fun v32 =>
                  callV c.P a3 #[v27, v32] w3.drew fun v33 w5 => S w5 ∧
                  binP .lss v33 (.int .i64 0) fun v34 =>
                  notP v34 fun v35 =>
                  k3 [v35] w5)
                (k3 [(.bool false)] w3.drew)) fun s3 j3 w4 =>
            condP (g s3 0)
              (binP .add (g s2 0) (.int .i64 1) fun v38 =>
                nx2 [v38] w4)
              (binP .eql (g s2 0) a2 fun v41 =>
                condP v41
                  (R (.bool true) w4)
                  (binP .sub a2 a1 fun v44 =>
                    binP .lss v44 (.int .i64 50) fun v45 =>
                    condP v45
                      (R (.bool false) w4)
                      (binP .sub (g s2 0) (.int .i64 1) fun v50 =>
                        binP .sub (g s2 0) (.int .i64 1) fun v53 =>
                        idxP 5 a0 v53 fun v54 =>
                        ldA 5 v54 w4.drew fun v55 =>
                        idxP 5 a0 (g s2 0) fun v58 =>
                        ldA 5 v58 w4.drew fun v59 =>
                        idxP 5 a0 (g s2 0) fun v60 =>
                        stA 5 v60 v55 w4.drew fun w6 =>
                        idxP 5 a0 v50 fun v61 =>
                        stA 5 v61 v59 w6 fun w7 =>
                        binP .sub (g s2 0) a1 fun v64 =>
                        binP .geq v64 (.int .i64 2) fun v65 =>
                        joinP (fun k4 => condP v65
                          (binP .sub (g s2 0) (.int .i64 1) fun v67 =>
                            joinP (fun k5 =>
                              loopP (fun nx6 s6 j6 w10 =>
                                binP .geq (g s6 0) (.int .i64 1) fun v69 =>
                                condP v69
                                  (heldP fun S => S w10.drew ∧
                                    idxP 5 a0 (g s6 0) fun v75 =>
                                    ldAS S 5 v75 fun v76 =>
                                    binP .sub (g s6 0) (.int .i64 1) fun v79 =>
                                    idxP 5 a0 v79 fun v80 =>
                                    ldAS S 5 v80 fun v81 =>
                                    callV c.P a3 #[v76, v81] w10.drew fun v82 w11 => S w11 ∧
                                    binP .lss v82 (.int .i64 0) fun v83 =>
                                    notP v83 fun v84 =>
                                    condP v84
                                      (k5 [] w11)
                                      (binP .sub (g s6 0) (.int .i64 1) fun v89 =>
                                        binP .sub (g s6 0) (.int .i64 1) fun v92 =>
                                        idxP 5 a0 v92 fun v93 =>
                                        ldA 5 v93 w11.drew fun v94 =>
                                        idxP 5 a0 (g s6 0) fun v97 =>
                                        ldA 5 v97 w11.drew fun v98 =>
                                        idxP 5 a0 (g s6 0) fun v99 =>
                                        stA 5 v99 v94 w11.drew fun w12 =>
                                        idxP 5 a0 v89 fun v100 =>
                                        stA 5 v100 v98 w12 fun w13 =>
                                        binP .sub (g s6 0) (.int .i64 1) fun v71 =>
                                        nx6 [v71] w13))
                                  (k5 [] w10)) [v67] w7) fun s5 j5 w9 =>
                            k4 [] w9)
                          (k4 [] w7)) fun s4 j4 w8 =>
                        binP .sub a2 (g s2 0) fun v103 =>
                        binP .geq v103 (.int .i64 2) fun v104 =>
                        joinP (fun k7 => condP v104
                          (binP .add (g s2 0) (.int .i64 1) fun v106 =>
                            joinP (fun k8 =>
                              loopP (fun nx9 s9 j9 w16 =>
                                binP .lss (g s9 0) a2 fun v109 =>
                                condP v109
                                  (heldP fun S => S w16.drew ∧
                                    idxP 5 a0 (g s9 0) fun v115 =>
                                    ldAS S 5 v115 fun v116 =>
                                    binP .sub (g s9 0) (.int .i64 1) fun v119 =>
                                    idxP 5 a0 v119 fun v120 =>
                                    ldAS S 5 v120 fun v121 =>
                                    callV c.P a3 #[v116, v121] w16.drew fun v122 w17 => S w17 ∧
                                    binP .lss v122 (.int .i64 0) fun v123 =>
                                    notP v123 fun v124 =>
                                    condP v124
                                      (k8 [] w17)
                                      (binP .sub (g s9 0) (.int .i64 1) fun v129 =>
                                        binP .sub (g s9 0) (.int .i64 1) fun v132 =>
                                        idxP 5 a0 v132 fun v133 =>
                                        ldA 5 v133 w17.drew fun v134 =>
                                        idxP 5 a0 (g s9 0) fun v137 =>
                                        ldA 5 v137 w17.drew fun v138 =>
                                        idxP 5 a0 (g s9 0) fun v139 =>
                                        stA 5 v139 v134 w17.drew fun w18 =>
                                        idxP 5 a0 v129 fun v140 =>
                                        stA 5 v140 v138 w18 fun w19 =>
                                        binP .add (g s9 0) (.int .i64 1) fun v111 =>
                                        nx9 [v111] w19))
                                  (k8 [] w16)) [v106] w8) fun s8 j8 w15 =>
                            k7 [] w15)
                          (k7 [] w8)) fun s7 j7 w14 =>
                        k1 [(g s2 0)] w14)))) [(g s0 0)] w1) fun s1 j1 w2 =>
        binP .add (g s0 1) (.int .i64 1) fun v18 =>
        nx0 [(g s1 0), v18] w2)
      (R (.bool false) w1)) [v14, (.int .i64 0)] w

/-- slices.partitionEqualCmpFunc[beadlayer/region.side] -/
def wp_slices_partitionEqualCmpFunc_region_side (c : Cfg) (a0 a1 a2 a3 a4 : Value) (w : World) (R : Value → World → Prop) : Prop :=
  idxP 5 a0 a3 fun v19 =>
  ldA 5 v19 w.drew fun v20 =>
  idxP 5 a0 a1 fun v23 =>
  ldA 5 v23 w.drew fun v24 =>
  idxP 5 a0 a1 fun v25 =>
  stA 5 v25 v20 w.drew fun w1 =>
  idxP 5 a0 a3 fun v26 =>
  stA 5 v26 v24 w1 fun w2 =>
  binP .add a1 (.int .i64 1) fun v28 =>
  binP .sub a2 (.int .i64 1) fun v30 =>
  loopP (fun nx0 s0 j0 w3 =>
    loopP (fun nx1 s1 j1 w4 =>
      joinP (fun k2 =>
        heldP fun S => S w4.drew ∧
        binP .leq (g s1 0) (g s0 1) fun v33 =>
        guardP v33 true
          (idxP 5 a0 a1 fun v38 =>
            ldAS S 5 v38 fun v39 =>
            idxP 5 a0 (g s1 0) fun v42 =>
            ldAS S 5 v42 fun v43 =>
            callV c.P a4 #[v39, v43] w4.drew fun v44 w6 => S w6 ∧
            binP .lss v44 (.int .i64 0) fun v45 =>
            notP v45 fun v46 =>
            k2 [v46] w6)
          (k2 [(.bool false)] w4.drew)) fun s2 j2 w5 =>
      condP (g s2 0)
        (binP .add (g s1 0) (.int .i64 1) fun v49 =>
          nx1 [v49] w5)
        (loopP (fun nx3 s3 j3 w7 =>
            joinP (fun k4 =>
              heldP fun S => S w7.drew ∧
              binP .leq (g s1 0) (g s3 0) fun v52 =>
              guardP v52 true
                (idxP 5 a0 a1 fun v57 =>
                  ldAS S 5 v57 fun v58 =>
                  idxP 5 a0 (g s3 0) fun v61 =>
                  ldAS S 5 v61 fun v62 =>
                  callV c.P a4 #[v58, v62] w7.drew fun v63 w9 => S w9 ∧
                  binP .lss v63 (.int .i64 0) fun v64 =>
                  k4 [v64] w9)
                (k4 [(.bool false)] w7.drew)) fun s4 j4 w8 =>
            condP (g s4 0)
              (binP .sub (g s3 0) (.int .i64 1) fun v67 =>
                nx3 [v67] w8)
              (binP .gtr (g s1 0) (g s3 0) fun v70 =>
                condP v70
                  (R (g s1 0) w8)
                  (idxP 5 a0 (g s3 0) fun v77 =>
                    ldA 5 v77 w8.drew fun v78 =>
                    idxP 5 a0 (g s1 0) fun v81 =>
                    ldA 5 v81 w8.drew fun v82 =>
                    idxP 5 a0 (g s1 0) fun v83 =>
                    stA 5 v83 v78 w8.drew fun w10 =>
                    idxP 5 a0 (g s3 0) fun v84 =>
                    stA 5 v84 v82 w10 fun w11 =>
                    binP .add (g s1 0) (.int .i64 1) fun v86 =>
                    binP .sub (g s3 0) (.int .i64 1) fun v88 =>
                    nx0 [v86, v88] w11))) [(g s0 1)] w5)) [(g s0 0)] w3) [v28, v30] w2

/-- slices.partitionCmpFunc[beadlayer/region.side] -/
def wp_slices_partitionCmpFunc_region_side (c : Cfg) (a0 a1 a2 a3 a4 : Value) (w : World) (R : Value → World → Prop) : Prop :=
  idxP 5 a0 a3 fun v20 =>
  ldA 5 v20 w.drew fun v21 =>
  idxP 5 a0 a1 fun v24 =>
  ldA 5 v24 w.drew fun v25 =>
  idxP 5 a0 a1 fun v26 =>
  stA 5 v26 v21 w.drew fun w1 =>
  idxP 5 a0 a3 fun v27 =>
  stA 5 v27 v25 w1 fun w2 =>
  binP .add a1 (.int .i64 1) fun v29 =>
  binP .sub a2 (.int .i64 1) fun v31 =>
  loopP (fun nx0 s0 j0 w3 =>
    joinP (fun k1 =>
      heldP fun S => S w3.drew ∧
      binP .leq (g s0 0) v31 fun v34 =>
      guardP v34 true
        (idxP 5 a0 (g s0 0) fun v39 =>
          ldAS S 5 v39 fun v40 =>
          idxP 5 a0 a1 fun v43 =>
          ldAS S 5 v43 fun v44 =>
          callV c.P a4 #[v40, v44] w3.drew fun v45 w5 => S w5 ∧
          binP .lss v45 (.int .i64 0) fun v46 =>
          k1 [v46] w5)
        (k1 [(.bool false)] w3.drew)) fun s1 j1 w4 =>
    condP (g s1 0)
      (binP .add (g s0 0) (.int .i64 1) fun v49 =>
        nx0 [v49] w4)
      (loopP (fun nx2 s2 j2 w6 =>
          joinP (fun k3 =>
            heldP fun S => S w6.drew ∧
            binP .leq (g s0 0) (g s2 0) fun v52 =>
            guardP v52 true
              (idxP 5 a0 (g s2 0) fun v57 =>
                ldAS S 5 v57 fun v58 =>
                idxP 5 a0 a1 fun v61 =>
                ldAS S 5 v61 fun v62 =>
                callV c.P a4 #[v58, v62] w6.drew fun v63 w8 => S w8 ∧
                binP .lss v63 (.int .i64 0) fun v64 =>
                notP v64 fun v65 =>
                k3 [v65] w8)
              (k3 [(.bool false)] w6.drew)) fun s3 j3 w7 =>
          condP (g s3 0)
            (binP .sub (g s2 0) (.int .i64 1) fun v68 =>
              nx2 [v68] w7)
            (binP .gtr (g s0 0) (g s2 0) fun v71 =>
              condP v71
                (idxP 5 a0 a1 fun v78 =>
                  ldA 5 v78 w7.drew fun v79 =>
                  idxP 5 a0 (g s2 0) fun v82 =>
                  ldA 5 v82 w7.drew fun v83 =>
                  idxP 5 a0 (g s2 0) fun v84 =>
                  stA 5 v84 v79 w7.drew fun w9 =>
                  idxP 5 a0 a1 fun v85 =>
                  stA 5 v85 v83 w9 fun w10 =>
                  R (.tuple #[(g s2 0), (.bool true)]) w10)
                (idxP 5 a0 (g s2 0) fun v93 =>
                  ldA 5 v93 w7.drew fun v94 =>
                  idxP 5 a0 (g s0 0) fun v97 =>
                  ldA 5 v97 w7.drew fun v98 =>
                  idxP 5 a0 (g s0 0) fun v99 =>
                  stA 5 v99 v94 w7.drew fun w11 =>
                  idxP 5 a0 (g s2 0) fun v100 =>
                  stA 5 v100 v98 w11 fun w12 =>
                  binP .add (g s0 0) (.int .i64 1) fun v102 =>
                  binP .sub (g s2 0) (.int .i64 1) fun v104 =>
                  loopP (fun nx4 s4 j4 w13 =>
                    loopP (fun nx5 s5 j5 w14 =>
                      joinP (fun k6 =>
                        heldP fun S => S w14.drew ∧
                        binP .leq (g s5 0) (g s4 1) fun v107 =>
                        guardP v107 true
                          (idxP 5 a0 (g s5 0) fun v112 =>
                            ldAS S 5 v112 fun v113 =>
                            idxP 5 a0 a1 fun v116 =>
                            ldAS S 5 v116 fun v117 =>
                            callV c.P a4 #[v113, v117] w14.drew fun v118 w16 => S w16 ∧
                            binP .lss v118 (.int .i64 0) fun v119 =>
                            k6 [v119] w16)
                          (k6 [(.bool false)] w14.drew)) fun s6 j6 w15 =>
                      condP (g s6 0)
                        (binP .add (g s5 0) (.int .i64 1) fun v122 =>
                          nx5 [v122] w15)
                        (loopP (fun nx7 s7 j7 w17 =>
                            joinP (fun k8 =>
                              heldP fun S => S w17.drew ∧
                              binP .leq (g s5 0) (g s7 0) fun v125 =>
                              guardP v125 true
                                (idxP 5 a0 (g s7 0) fun v130 =>
                                  ldAS S 5 v130 fun v131 =>
                                  idxP 5 a0 a1 fun v134 =>
                                  ldAS S 5 v134 fun v135 =>
                                  callV c.P a4 #[v131, v135] w17.drew fun v136 w19 => S w19 ∧
                                  binP .lss v136 (.int .i64 0) fun v137 =>
                                  notP v137 fun v138 =>
                                  k8 [v138] w19)
                                (k8 [(.bool false)] w17.drew)) fun s8 j8 w18 =>
                            condP (g s8 0)
                              (binP .sub (g s7 0) (.int .i64 1) fun v141 =>
                                nx7 [v141] w18)
                              (binP .gtr (g s5 0) (g s7 0) fun v144 =>
                                condP v144
                                  (idxP 5 a0 a1 fun v169 =>
                                    ldA 5 v169 w18.drew fun v170 =>
                                    idxP 5 a0 (g s7 0) fun v173 =>
                                    ldA 5 v173 w18.drew fun v174 =>
                                    idxP 5 a0 (g s7 0) fun v175 =>
                                    stA 5 v175 v170 w18.drew fun w20 =>
                                    idxP 5 a0 a1 fun v176 =>
                                    stA 5 v176 v174 w20 fun w21 =>
                                    R (.tuple #[(g s7 0), (.bool false)]) w21)
                                  (idxP 5 a0 (g s7 0) fun v151 =>
                                    ldA 5 v151 w18.drew fun v152 =>
                                    idxP 5 a0 (g s5 0) fun v155 =>
                                    ldA 5 v155 w18.drew fun v156 =>
                                    idxP 5 a0 (g s5 0) fun v157 =>
                                    stA 5 v157 v152 w18.drew fun w22 =>
                                    idxP 5 a0 (g s7 0) fun v158 =>
                                    stA 5 v158 v156 w22 fun w23 =>
                                    binP .add (g s5 0) (.int .i64 1) fun v160 =>
                                    binP .sub (g s7 0) (.int .i64 1) fun v162 =>
                                    nx4 [v160, v162] w23))) [(g s4 1)] w15)) [(g s4 0)] w13) [v102, v104] w12))) [v31] w4)) [v29] w2

/-- beadlayer/farm.CheckPrinters -/
def wp_farm_CheckPrinters (c : Cfg) (a0 : Value) (w : World) (R : Value → World → Prop) : Prop :=
  lenP a0 fun v6 =>
  binP .eql v6 (.int .i64 0) fun v7 =>
  condP v7
    (R (.int .i64 8) w)
    (lenP a0 fun v9 =>
      binP .gtr v9 (.int .i64 50) fun v10 =>
      condP v10
        (R (.int .i64 2) w)
        (lenP a0 fun v12 =>
          loopP (fun nx0 s0 j0 w1 =>
            binP .lss (g s0 0) v12 fun v14 =>
            condP v14
              (idxP 2 a0 (g s0 0) fun v16 =>
                ldA 2 v16 w1 fun v17 =>
                newP c.t_api_Printer #[(.string (Bs [])), (.string (Bs []))] w1 fun v4 w2 =>
                stA 2 v4 v17 w2 fun w3 =>
                joinP (fun k1 =>
                  offP 0 v4 fun v18 =>
                  ld v18 w3 fun v19 =>
                  Ret c.P c.f_kit_IsKey #[v19] w3 fun v20 w5 =>
                  notP v20 fun v21 =>
                  guardP v21 false
                    (offP 1 v4 fun v23 =>
                      ld v23 w5 fun v24 =>
                      Ret c.P c.f_kit_IsKey #[v24] w5 fun v25 w6 =>
                      notP v25 fun v26 =>
                      k1 [v26] w6)
                    (k1 [(.bool true)] w5)) fun s1 j1 w4 =>
                condP (g s1 0)
                  (R (.int .i64 5) w4)
                  (joinP (fun k2 =>
                      binP .gtr (g s0 0) (.int .i64 0) fun v29 =>
                      guardP v29 true
                        (offP 0 v4 fun v31 =>
                          ld v31 w4.drew fun v32 =>
                          binP .sub (g s0 0) (.int .i64 1) fun v35 =>
                          idxP 2 a0 v35 fun v36 =>
                          offP 0 v36 fun v37 =>
                          ld v37 w4.drew fun v38 =>
                          binP .leq v32 v38 fun v39 =>
                          k2 [v39] w4.drew)
                        (k2 [(.bool false)] w4.drew)) fun s2 j2 w7 =>
                    condP (g s2 0)
                      (R (.int .i64 7) w7)
                      (binP .add (g s0 0) (.int .i64 1) fun v41 =>
                        nx0 [v41] w7)))
              (R (.int .i64 0) w1)) [(.int .i64 0)] w))

/-- beadlayer/farm.CheckJobs -/
def wp_farm_CheckJobs (c : Cfg) (a0 : Value) (w : World) (R : Value → World → Prop) : Prop :=
  lenP a0 fun v6 =>
  binP .gtr v6 (.int .i64 500) fun v7 =>
  condP v7
    (R (.int .i64 2) w)
    (lenP a0 fun v9 =>
      loopP (fun nx0 s0 j0 w1 =>
        binP .lss (g s0 0) v9 fun v11 =>
        condP v11
          (idxP 4 a0 (g s0 0) fun v13 =>
            ldA 4 v13 w1 fun v14 =>
            newP c.t_api_Job #[(.string (Bs [])), (.string (Bs [])), (.int .i64 0), (.int .i64 0)] w1 fun v4 w2 =>
            stA 4 v4 v14 w2 fun w3 =>
            joinP (fun k1 =>
              offP 0 v4 fun v16 =>
              ld v16 w3 fun v17 =>
              Ret c.P c.f_kit_IsKey #[v17] w3 fun v18 w5 =>
              notP v18 fun v19 =>
              guardP v19 false
                (offP 1 v4 fun v21 =>
                  ld v21 w5 fun v22 =>
                  Ret c.P c.f_kit_IsKey #[v22] w5 fun v23 w6 =>
                  notP v23 fun v24 =>
                  k1 [v24] w6)
                (k1 [(.bool true)] w5)) fun s1 j1 w4 =>
            condP (g s1 0)
              (R (.int .i64 5) w4)
              (joinP (fun k2 =>
                  offP 2 v4 fun v27 =>
                  ld v27 w4 fun v28 =>
                  Ret c.P c.f_kit_Outside #[v28, (.int .i64 1), (.int .i64 100000)] w4 fun v29 w8 =>
                  guardP v29 false
                    (offP 3 v4 fun v31 =>
                      ld v31 w8 fun v32 =>
                      Ret c.P c.f_kit_Outside #[v32, (.int .i64 0), (.int .i64 1000000000)] w8 fun v33 w9 =>
                      k2 [v33] w9)
                    (k2 [(.bool true)] w8)) fun s2 j2 w7 =>
                condP (g s2 0)
                  (R (.int .i64 1) w7)
                  (joinP (fun k3 =>
                      binP .gtr (g s0 0) (.int .i64 0) fun v37 =>
                      guardP v37 true
                        (offP 0 v4 fun v39 =>
                          ld v39 w7.drew fun v40 =>
                          binP .sub (g s0 0) (.int .i64 1) fun v43 =>
                          idxP 4 a0 v43 fun v44 =>
                          offP 0 v44 fun v45 =>
                          ld v45 w7.drew fun v46 =>
                          binP .leq v40 v46 fun v47 =>
                          k3 [v47] w7.drew)
                        (k3 [(.bool false)] w7.drew)) fun s3 j3 w10 =>
                    condP (g s3 0)
                      (R (.int .i64 7) w10)
                      (binP .add (g s0 0) (.int .i64 1) fun v49 =>
                        nx0 [v49] w10))))
          (R (.int .i64 0) w1)) [(.int .i64 0)] w)

/-- slices.Index[[]bool,bool] -/
def wp_slices_Index_sl_bool_bool (c : Cfg) (a0 a1 : Value) (w : World) (R : Value → World → Prop) : Prop :=
  lenP a0 fun v7 =>
  loopP (fun nx0 s0 j0 w1 =>
    binP .lss (g s0 0) v7 fun v9 =>
    condP v9
      (idxP 1 a0 (g s0 0) fun v14 =>
        ld v14 w1 fun v15 =>
        pureP c.P (do eqGuard .eql c.t_bool (.tmp 11) (.tmp 15) a1 v15; binOp .eql c.t_bool a1 v15) fun v16 =>
        condP v16
          (R (g s0 0) w1)
          (binP .add (g s0 0) (.int .i64 1) fun v18 =>
            nx0 [v18] w1))
      (R (.int .i64 (-1)) w1)) [(.int .i64 0)] w

/-- slices.siftDownCmpFunc[beadlayer/region.side] -/
def wp_slices_siftDownCmpFunc_region_side (c : Cfg) (a0 a1 a2 a3 a4 : Value) (w : World) (R : Value → World → Prop) : Prop :=
  loopP (fun nx0 s0 j0 w1 =>
    binP .mul (.int .i64 2) (g s0 0) fun v14 =>
    binP .add v14 (.int .i64 1) fun v15 =>
    binP .geq v15 a2 fun v18 =>
    condP v18
      (R (.tuple #[]) w1)
      (joinP (fun k1 =>
          heldP fun S => S w1.drew ∧
          binP .add v15 (.int .i64 1) fun v20 =>
          binP .lss v20 a2 fun v22 =>
          guardP v22 true
            (binP .add a3 v15 fun v28 =>
              idxP 5 a0 v28 fun v29 =>
              ldAS S 5 v29 fun v30 =>
              binP .add a3 v15 fun v34 =>
              binP .add v34 (.int .i64 1) fun v35 =>
              idxP 5 a0 v35 fun v36 =>
              ldAS S 5 v36 fun v37 =>
              callV c.P a4 #[v30, v37] w1.drew fun v38 w3 => S w3 ∧
              binP .lss v38 (.int .i64 0) fun v39 =>
              k1 [v39] w3)
            (k1 [(.bool false)] w1.drew)) fun s1 j1 w2 =>
        joinP (fun k2 => condP (g s1 0)
          (binP .add v15 (.int .i64 1) fun v42 =>
            k2 [v42] w2)
          (k2 [v15] w2)) fun s2 j2 w4 =>
        heldP fun S => S w4.drew ∧
        binP .add a3 (g s0 0) fun v47 =>
        idxP 5 a0 v47 fun v48 =>
        ldAS S 5 v48 fun v49 =>
        binP .add a3 (g s2 0) fun v53 =>
        idxP 5 a0 v53 fun v54 =>
        ldAS S 5 v54 fun v55 =>
        callV c.P a4 #[v49, v55] w4.drew fun v56 w5 => S w5 ∧
        binP .lss v56 (.int .i64 0) fun v57 =>
        notP v57 fun v58 =>
        condP v58
          (R (.tuple #[]) w5)
          (binP .add a3 (g s0 0) fun v62 =>
            binP .add a3 (g s2 0) fun v66 =>
            binP .add a3 (g s2 0) fun v70 =>
            idxP 5 a0 v70 fun v71 =>
            ldA 5 v71 w5.drew fun v72 =>
            binP .add a3 (g s0 0) fun v76 =>
            idxP 5 a0 v76 fun v77 =>
            ldA 5 v77 w5.drew fun v78 =>
            idxP 5 a0 v62 fun v79 =>
            stA 5 v79 v72 w5.drew fun w6 =>
            idxP 5 a0 v66 fun v80 =>
            stA 5 v80 v78 w6 fun w7 =>
            nx0 [(g s2 0)] w7))) [a1] w

/-- slices.nextPowerOfTwo -/
def wp_slices_nextPowerOfTwo (c : Cfg) (a0 : Value) (w : World) (R : Value → World → Prop) : Prop :=
  convI .u64 a0 fun v4 =>
  Ret c.P c.f_math_bits_Len #[v4] w fun v5 w1 =>
  pureP c.P (do eqGuard .shl c.t_uint (.const (.int .u64 1)) (.tmp 5) (.int .u64 1) v5; binOp .shl c.t_uint (.int .u64 1) v5) fun v6 =>
  R v6 w1

/-- (*slices.xorshift).Next -/
def wp_p_slices_xorshift_Next (c : Cfg) (a0 : Value) (w : World) (R : Value → World → Prop) : Prop :=
  nilP a0 fun v4 =>
  ld v4 w.drew fun v5 =>
  nilP a0 fun v7 =>
  ld v7 w.drew fun v8 =>
  pureP c.P (do eqGuard .shl c.t_slices_xorshift (.tmp 8) (.const (.int .u64 13)) v8 (.int .u64 13); binOp .shl c.t_slices_xorshift v8 (.int .u64 13)) fun v9 =>
  pureP c.P (do eqGuard .xor c.t_slices_xorshift (.tmp 5) (.tmp 9) v5 v9; binOp .xor c.t_slices_xorshift v5 v9) fun v10 =>
  nilP a0 fun v11 =>
  st v11 v10 w.drew fun w1 =>
  nilP a0 fun v13 =>
  ld v13 w1.drew fun v14 =>
  nilP a0 fun v16 =>
  ld v16 w1.drew fun v17 =>
  pureP c.P (do eqGuard .shr c.t_slices_xorshift (.tmp 17) (.const (.int .u64 7)) v17 (.int .u64 7); binOp .shr c.t_slices_xorshift v17 (.int .u64 7)) fun v18 =>
  pureP c.P (do eqGuard .xor c.t_slices_xorshift (.tmp 14) (.tmp 18) v14 v18; binOp .xor c.t_slices_xorshift v14 v18) fun v19 =>
  nilP a0 fun v20 =>
  st v20 v19 w1.drew fun w2 =>
  nilP a0 fun v22 =>
  ld v22 w2.drew fun v23 =>
  nilP a0 fun v25 =>
  ld v25 w2.drew fun v26 =>
  pureP c.P (do eqGuard .shl c.t_slices_xorshift (.tmp 26) (.const (.int .u64 17)) v26 (.int .u64 17); binOp .shl c.t_slices_xorshift v26 (.int .u64 17)) fun v27 =>
  pureP c.P (do eqGuard .xor c.t_slices_xorshift (.tmp 23) (.tmp 27) v23 v27; binOp .xor c.t_slices_xorshift v23 v27) fun v28 =>
  nilP a0 fun v29 =>
  st v29 v28 w2.drew fun w3 =>
  nilP a0 fun v31 =>
  ld v31 w3 fun v32 =>
  R v32 w3

/-- slices.medianAdjacentCmpFunc[beadlayer/region.side] -/
def wp_slices_medianAdjacentCmpFunc_region_side (c : Cfg) (a0 a1 a2 a3 : Value) (w : World) (R : Value → World → Prop) : Prop :=
  binP .sub a1 (.int .i64 1) fun v11 =>
  binP .add a1 (.int .i64 1) fun v14 =>
  Ret c.P c.f_slices_medianCmpFunc_region_side #[a0, v11, a1, v14, a2, a3] w fun v17 w1 =>
  R v17 w1

/-- slices.medianCmpFunc[beadlayer/region.side] -/
def wp_slices_medianCmpFunc_region_side (c : Cfg) (a0 a1 a2 a3 a4 a5 : Value) (w : World) (R : Value → World → Prop) : Prop :=
  Ret c.P c.f_slices_order2CmpFunc_region_side #[a0, a1, a2, a4, a5] w fun v19 w1 =>
  exP 0 v19 fun v20 =>
  exP 1 v19 fun v21 =>
  Ret c.P c.f_slices_order2CmpFunc_region_side #[a0, v21, a3, a4, a5] w1 fun v28 w2 =>
  exP 0 v28 fun v29 =>
  exP 1 v28 fun v30 =>
  Ret c.P c.f_slices_order2CmpFunc_region_side #[a0, v20, v29, a4, a5] w2 fun v37 w3 =>
  exP 0 v37 fun v38 =>
  exP 1 v37 fun v39 =>
  R v39 w3

/-- beadlayer/kit.IsKey -/
def wp_kit_IsKey (c : Cfg) (a0 : Value) (w : World) (R : Value → World → Prop) : Prop :=
  joinP (fun k0 =>
    binP .neq a0 (.string (Bs [])) fun v4 =>
    guardP v4 true
      (lenStr a0 fun v7 =>
        binP .leq v7 (.int .i64 40) fun v8 =>
        guardP v8 true
          (strIx a0 (.int .i64 0) fun v12 =>
            Ret c.P c.f_strings_IndexByte #[(.string (Bs [97, 98, 99, 100, 101, 102, 103, 104, 105, 106, 107, 108, 109, 110, 111, 112, 113, 114, 115, 116, 117, 118, 119, 120, 121, 122])), v12] w fun v13 w2 =>
            binP .geq v13 (.int .i64 0) fun v14 =>
            guardP v14 true
              (Ret c.P c.f_strings_Trim #[a0, (.string (Bs [97, 98, 99, 100, 101, 102, 103, 104, 105, 106, 107, 108, 109, 110, 111, 112, 113, 114, 115, 116, 117, 118, 119, 120, 121, 122, 48, 49, 50, 51, 52, 53, 54, 55, 56, 57, 45, 95]))] w2 fun v18 w3 =>
                binP .eql v18 (.string (Bs [])) fun v19 =>
                k0 [v19] w3)
              (k0 [(.bool false)] w2))
          (k0 [(.bool false)] w))
      (k0 [(.bool false)] w)) fun s0 j0 w1 =>
  R (g s0 0) w1

/-- slices.order2CmpFunc[beadlayer/region.side] -/
def wp_slices_order2CmpFunc_region_side (c : Cfg) (a0 a1 a2 a3 a4 : Value) (w : World) (R : Value → World → Prop) : Prop :=
  heldP fun S => S w.drew ∧
  idxP 5 a0 a2 fun v15 =>
  ldAS S 5 v15 fun v16 =>
  idxP 5 a0 a1 fun v19 =>
  ldAS S 5 v19 fun v20 =>
  callV c.P a4 #[v16, v20] w.drew fun v21 w1 => S w1 ∧
  binP .lss v21 (.int .i64 0) fun v22 =>
  condP v22
    (nilP a3 fun v24 =>
      ld v24 w1 fun v25 =>
      binP .add v25 (.int .i64 1) fun v26 =>
      nilP a3 fun v27 =>
      st v27 v26 w1 fun w2 =>
      R (.tuple #[a2, a1]) w2)
    (R (.tuple #[a1, a2]) w1)

/-- strings.IndexByte -/
def wp_strings_IndexByte (c : Cfg) (a0 a1 : Value) (w : World) (R : Value → World → Prop) : Prop :=
  Ret c.P c.f_internal_stringslite_IndexByte #[a0, a1] w fun v7 w1 =>
  R v7 w1

/-- internal/stringslite.IndexByte -/
def wp_internal_stringslite_IndexByte (c : Cfg) (a0 a1 : Value) (w : World) (R : Value → World → Prop) : Prop :=
  Ret c.P c.f_internal_bytealg_IndexByteString #[a0, a1] w fun v7 w1 =>
  R v7 w1

/-- strings.trimLeftByte -/
def wp_strings_trimLeftByte (c : Cfg) (a0 a1 : Value) (w : World) (R : Value → World → Prop) : Prop :=
  loopP (fun nx0 s0 j0 w1 =>
    joinP (fun k1 =>
      lenStr (g s0 0) fun v6 =>
      binP .gtr v6 (.int .i64 0) fun v7 =>
      guardP v7 true
        (strIx (g s0 0) (.int .i64 0) fun v10 =>
          binP .eql v10 a1 fun v12 =>
          k1 [v12] w1)
        (k1 [(.bool false)] w1)) fun s1 j1 w2 =>
    condP (g s1 0)
      (pureP c.P (Instr.sliceAt c.t_string (g s0 0) (some (.int .i64 1)) none none) fun v15 =>
        nx0 [v15] w2)
      (R (g s0 0) w2)) [a0] w

/-- strings.trimRightByte -/
def wp_strings_trimRightByte (c : Cfg) (a0 a1 : Value) (w : World) (R : Value → World → Prop) : Prop :=
  loopP (fun nx0 s0 j0 w1 =>
    joinP (fun k1 =>
      lenStr (g s0 0) fun v6 =>
      binP .gtr v6 (.int .i64 0) fun v7 =>
      guardP v7 true
        (lenStr (g s0 0) fun v11 =>
          binP .sub v11 (.int .i64 1) fun v12 =>
          strIx (g s0 0) v12 fun v13 =>
          binP .eql v13 a1 fun v15 =>
          k1 [v15] w1)
        (k1 [(.bool false)] w1)) fun s1 j1 w2 =>
    condP (g s1 0)
      (lenStr (g s0 0) fun v19 =>
        binP .sub v19 (.int .i64 1) fun v20 =>
        pureP c.P (Instr.sliceAt c.t_string (g s0 0) none (some v20) none) fun v21 =>
        nx0 [v21] w2)
      (R (g s0 0) w2)) [a0] w

/-- strings.trimLeftASCII -/
def wp_strings_trimLeftASCII (c : Cfg) (a0 a1 : Value) (w : World) (R : Value → World → Prop) : Prop :=
  joinP (fun k0 =>
    loopP (fun nx1 s1 j1 w2 =>
      lenStr (g s1 0) fun v6 =>
      binP .gtr v6 (.int .i64 0) fun v7 =>
      condP v7
        (strIx (g s1 0) (.int .i64 0) fun v10 =>
          Ret c.P c.f_p_strings_asciiSet_contains #[a1, v10] w2 fun v11 w3 =>
          notP v11 fun v12 =>
          condP v12
            (k0 [(g s1 0)] w3)
            (pureP c.P (Instr.sliceAt c.t_string (g s1 0) (some (.int .i64 1)) none none) fun v14 =>
              nx1 [v14] w3))
        (k0 [(g s1 0)] w2)) [a0] w) fun s0 j0 w1 =>
  R (g s0 0) w1

/-- strings.trimRightASCII -/
def wp_strings_trimRightASCII (c : Cfg) (a0 a1 : Value) (w : World) (R : Value → World → Prop) : Prop :=
  joinP (fun k0 =>
    loopP (fun nx1 s1 j1 w2 =>
      lenStr (g s1 0) fun v6 =>
      binP .gtr v6 (.int .i64 0) fun v7 =>
      condP v7
        (lenStr (g s1 0) fun v11 =>
          binP .sub v11 (.int .i64 1) fun v12 =>
          strIx (g s1 0) v12 fun v13 =>
          Ret c.P c.f_p_strings_asciiSet_contains #[a1, v13] w2 fun v14 w3 =>
          notP v14 fun v15 =>
          condP v15
            (k0 [(g s1 0)] w3)
            (lenStr (g s1 0) fun v18 =>
              binP .sub v18 (.int .i64 1) fun v19 =>
              pureP c.P (Instr.sliceAt c.t_string (g s1 0) none (some v19) none) fun v20 =>
              nx1 [v20] w3))
        (k0 [(g s1 0)] w2)) [a0] w) fun s0 j0 w1 =>
  R (g s0 0) w1

/-- (*strings.asciiSet).contains -/
def wp_p_strings_asciiSet_contains (c : Cfg) (a0 a1 : Value) (w : World) (R : Value → World → Prop) : Prop :=
  nilP a0 fun v7 =>
  semP c.P (Instr.indexAt c.t_strings_asciiSet v7 a1) w fun v8 w1 =>
  ld v8 w1 fun v9 =>
  R v9 w1

/-- The functions of a program come to this. -/
structure Eqs (c : Cfg) : Prop where
  dummy : True
  blkeep1_NoOrderTravelsLess : ∀ (a0 : Value) (w : World) (R : Value → World → Prop), wp_blkeep1_NoOrderTravelsLess c a0 w R → Ret c.P c.f_blkeep1_NoOrderTravelsLess #[a0] w R
  p_blmake_Stream_Range : ∀ (a0 a1 a2 : Value) (w : World) (R : Value → World → Prop), wp_p_blmake_Stream_Range c a0 a1 a2 w R → Ret c.P c.f_p_blmake_Stream_Range #[a0, a1, a2] w R
  p_blmake_Stream_RightPaths : ∀ (a0 a1 : Value) (w : World) (R : Value → World → Prop), wp_p_blmake_Stream_RightPaths c a0 a1 w R → Ret c.P c.f_p_blmake_Stream_RightPaths #[a0, a1] w R
  p_blmake_Stream_Order : ∀ (a0 a1 : Value) (w : World) (R : Value → World → Prop), wp_p_blmake_Stream_Order c a0 a1 w R → Ret c.P c.f_p_blmake_Stream_Order #[a0, a1] w R
  path_Best : ∀ (a0 a1 : Value) (w : World) (R : Value → World → Prop), wp_path_Best c a0 a1 w R → Ret c.P c.f_path_Best #[a0, a1] w R
  path_Nearest : ∀ (a0 a1 : Value) (w : World) (R : Value → World → Prop), wp_path_Nearest c a0 a1 w R → Ret c.P c.f_path_Nearest #[a0, a1] w R
  path_Begun : ∀ (a0 a1 a2 : Value) (w : World) (R : Value → World → Prop), wp_path_Begun c a0 a1 a2 w R → Ret c.P c.f_path_Begun #[a0, a1, a2] w R
  path_Improved : ∀ (a0 a1 a2 : Value) (w : World) (R : Value → World → Prop), wp_path_Improved c a0 a1 a2 w R → Ret c.P c.f_path_Improved #[a0, a1, a2] w R
  path_Travel : ∀ (a0 a1 a2 : Value) (w : World) (R : Value → World → Prop), wp_path_Travel c a0 a1 a2 w R → Ret c.P c.f_path_Travel #[a0, a1, a2] w R
  path_CheckOrder : ∀ (a0 a1 : Value) (w : World) (R : Value → World → Prop), wp_path_CheckOrder c a0 a1 w R → Ret c.P c.f_path_CheckOrder #[a0, a1] w R
  blkeep1_ready : ∀ (_u : Unit) (w : World) (R : Value → World → Prop), wp_blkeep1_ready c  w R → Ret c.P c.f_blkeep1_ready #[] w R
  p_blmake_Stream_Next : ∀ (a0 a1 : Value) (w : World) (R : Value → World → Prop), wp_p_blmake_Stream_Next c a0 a1 w R → Ret c.P c.f_p_blmake_Stream_Next #[a0, a1] w R
  p_blmake_Stream_PathList : ∀ (a0 a1 : Value) (w : World) (R : Value → World → Prop), wp_p_blmake_Stream_PathList c a0 a1 w R → Ret c.P c.f_p_blmake_Stream_PathList #[a0, a1] w R
  blref1_PathsFault : ∀ (a0 : Value) (w : World) (R : Value → World → Prop), wp_blref1_PathsFault c a0 w R → Ret c.P c.f_blref1_PathsFault #[a0] w R
  path_startPathsFault : ∀ (a0 a1 : Value) (w : World) (R : Value → World → Prop), wp_path_startPathsFault c a0 a1 w R → Ret c.P c.f_path_startPathsFault #[a0, a1] w R
  path_choices : ∀ (a0 a1 : Value) (w : World) (R : Value → World → Prop), wp_path_choices c a0 a1 w R → Ret c.P c.f_path_choices #[a0, a1] w R
  p_path_finder_next : ∀ (a0 a1 a2 : Value) (w : World) (R : Value → World → Prop), wp_p_path_finder_next c a0 a1 a2 w R → Ret c.P c.f_p_path_finder_next #[a0, a1, a2] w R
  path_travel : ∀ (a0 a1 a2 : Value) (w : World) (R : Value → World → Prop), wp_path_travel c a0 a1 a2 w R → Ret c.P c.f_path_travel #[a0, a1, a2] w R
  path_Distance : ∀ (a0 a1 : Value) (w : World) (R : Value → World → Prop), wp_path_Distance c a0 a1 w R → Ret c.P c.f_path_Distance #[a0, a1] w R
  path_indicesFault : ∀ (a0 a1 : Value) (w : World) (R : Value → World → Prop), wp_path_indicesFault c a0 a1 w R → Ret c.P c.f_path_indicesFault #[a0, a1] w R
  path_nearest : ∀ (a0 a1 a2 : Value) (w : World) (R : Value → World → Prop), wp_path_nearest c a0 a1 a2 w R → Ret c.P c.f_path_nearest #[a0, a1, a2] w R
  path_startFault : ∀ (a0 a1 a2 : Value) (w : World) (R : Value → World → Prop), wp_path_startFault c a0 a1 a2 w R → Ret c.P c.f_path_startFault #[a0, a1, a2] w R
  slices_Clone_sl_api_Visit_api_Visit : ∀ (a0 : Value) (w : World) (R : Value → World → Prop), wp_slices_Clone_sl_api_Visit_api_Visit c a0 w R → Ret c.P c.f_slices_Clone_sl_api_Visit_api_Visit #[a0] w R
  path_exchange : ∀ (a0 a1 a2 : Value) (w : World) (R : Value → World → Prop), wp_path_exchange c a0 a1 a2 w R → Ret c.P c.f_path_exchange #[a0, a1, a2] w R
  path_CheckPaths : ∀ (a0 : Value) (w : World) (R : Value → World → Prop), wp_path_CheckPaths c a0 w R → Ret c.P c.f_path_CheckPaths #[a0] w R
  path_orderFault : ∀ (a0 a1 : Value) (w : World) (R : Value → World → Prop), wp_path_orderFault c a0 a1 w R → Ret c.P c.f_path_orderFault #[a0, a1] w R
  flow_Volume : ∀ (a0 : Value) (w : World) (R : Value → World → Prop), wp_flow_Volume c a0 w R → Ret c.P c.f_flow_Volume #[a0] w R
  region_Area : ∀ (a0 : Value) (w : World) (R : Value → World → Prop), wp_region_Area c a0 w R → Ret c.P c.f_region_Area #[a0] w R
  farm_Ends : ∀ (a0 a1 a2 a3 : Value) (w : World) (R : Value → World → Prop), wp_farm_Ends c a0 a1 a2 a3 w R → Ret c.P c.f_farm_Ends #[a0, a1, a2, a3] w R
  blmake_Below : ∀ (a0 a1 : Value) (w : World) (R : Value → World → Prop), wp_blmake_Below c a0 a1 w R → Ret c.P c.f_blmake_Below #[a0, a1] w R
  p_blmake_Stream_Pick : ∀ (a0 a1 : Value) (w : World) (R : Value → World → Prop), wp_p_blmake_Stream_Pick c a0 a1 w R → Ret c.P c.f_p_blmake_Stream_Pick #[a0, a1] w R
  p_blmake_Stream_Flip : ∀ (a0 a1 : Value) (w : World) (R : Value → World → Prop), wp_p_blmake_Stream_Flip c a0 a1 w R → Ret c.P c.f_p_blmake_Stream_Flip #[a0, a1] w R
  p_blmake_Stream_Odd : ∀ (a0 a1 a2 : Value) (w : World) (R : Value → World → Prop), wp_p_blmake_Stream_Odd c a0 a1 a2 w R → Ret c.P c.f_p_blmake_Stream_Odd #[a0, a1, a2] w R
  blref1_pathFault : ∀ (a0 : Value) (w : World) (R : Value → World → Prop), wp_blref1_pathFault c a0 w R → Ret c.P c.f_blref1_pathFault #[a0] w R
  region_IsFar : ∀ (a0 : Value) (w : World) (R : Value → World → Prop), wp_region_IsFar c a0 w R → Ret c.P c.f_region_IsFar #[a0] w R
  path_ends : ∀ (a0 a1 : Value) (w : World) (R : Value → World → Prop), wp_path_ends c a0 a1 w R → Ret c.P c.f_path_ends #[a0, a1] w R
  path_abs : ∀ (a0 : Value) (w : World) (R : Value → World → Prop), wp_path_abs c a0 w R → Ret c.P c.f_path_abs #[a0] w R
  path_PathFault : ∀ (a0 : Value) (w : World) (R : Value → World → Prop), wp_path_PathFault c a0 w R → Ret c.P c.f_path_PathFault #[a0] w R
  path_visitFault : ∀ (a0 a1 : Value) (w : World) (R : Value → World → Prop), wp_path_visitFault c a0 a1 w R → Ret c.P c.f_path_visitFault #[a0, a1] w R
  flow_CheckBeads : ∀ (a0 : Value) (w : World) (R : Value → World → Prop), wp_flow_CheckBeads c a0 w R → Ret c.P c.f_flow_CheckBeads #[a0] w R
  flow_volume : ∀ (a0 : Value) (w : World) (R : Value → World → Prop), wp_flow_volume c a0 w R → Ret c.P c.f_flow_volume #[a0] w R
  region_CheckRegion : ∀ (a0 : Value) (w : World) (R : Value → World → Prop), wp_region_CheckRegion c a0 w R → Ret c.P c.f_region_CheckRegion #[a0] w R
  region_depths : ∀ (a0 : Value) (w : World) (R : Value → World → Prop), wp_region_depths c a0 w R → Ret c.P c.f_region_depths #[a0] w R
  region_abs : ∀ (a0 : Value) (w : World) (R : Value → World → Prop), wp_region_abs c a0 w R → Ret c.P c.f_region_abs #[a0] w R
  region_Doubled : ∀ (a0 : Value) (w : World) (R : Value → World → Prop), wp_region_Doubled c a0 w R → Ret c.P c.f_region_Doubled #[a0] w R
  farm_planned : ∀ (a0 a1 a2 a3 : Value) (w : World) (R : Value → World → Prop), wp_farm_planned c a0 a1 a2 a3 w R → Ret c.P c.f_farm_planned #[a0, a1, a2, a3] w R
  farm_ends : ∀ (a0 a1 a2 a3 : Value) (w : World) (R : Value → World → Prop), wp_farm_ends c a0 a1 a2 a3 w R → Ret c.P c.f_farm_ends #[a0, a1, a2, a3] w R
  blref1_PointFault : ∀ (a0 : Value) (w : World) (R : Value → World → Prop), wp_blref1_PointFault c a0 w R → Ret c.P c.f_blref1_PointFault #[a0] w R
  kit_Outside : ∀ (a0 a1 a2 : Value) (w : World) (R : Value → World → Prop), wp_kit_Outside c a0 a1 a2 w R → Ret c.P c.f_kit_Outside #[a0, a1, a2] w R
  slices_ContainsFunc_sl_api_Point_api_Point : ∀ (a0 a1 : Value) (w : World) (R : Value → World → Prop), wp_slices_ContainsFunc_sl_api_Point_api_Point c a0 a1 w R → Ret c.P c.f_slices_ContainsFunc_sl_api_Point_api_Point #[a0, a1] w R
  region_CheckRing : ∀ (a0 : Value) (w : World) (R : Value → World → Prop), wp_region_CheckRing c a0 w R → Ret c.P c.f_region_CheckRing #[a0] w R
  region_sides : ∀ (a0 : Value) (w : World) (R : Value → World → Prop), wp_region_sides c a0 w R → Ret c.P c.f_region_sides #[a0] w R
  slices_SortFunc_sl_region_side_region_side : ∀ (a0 a1 : Value) (w : World) (R : Value → World → Prop), wp_slices_SortFunc_sl_region_side_region_side c a0 a1 w R → Ret c.P c.f_slices_SortFunc_sl_region_side_region_side #[a0, a1] w R
  region_CheckRegion_1 : ∀ (a0 a1 : Value) (w : World) (R : Value → World → Prop), wp_region_CheckRegion_1 c a0 a1 w R → Ret c.P c.f_region_CheckRegion_1 #[a0, a1] w R
  cmp_Compare_int : ∀ (a0 a1 : Value) (w : World) (R : Value → World → Prop), wp_cmp_Compare_int c a0 a1 w R → Ret c.P c.f_cmp_Compare_int #[a0, a1] w R
  region_Meet : ∀ (a0 a1 a2 a3 : Value) (w : World) (R : Value → World → Prop), wp_region_Meet c a0 a1 a2 a3 w R → Ret c.P c.f_region_Meet #[a0, a1, a2, a3] w R
  region_isIn : ∀ (a0 a1 : Value) (w : World) (R : Value → World → Prop), wp_region_isIn c a0 a1 w R → Ret c.P c.f_region_isIn #[a0, a1] w R
  farm_CheckPlan : ∀ (a0 a1 a2 : Value) (w : World) (R : Value → World → Prop), wp_farm_CheckPlan c a0 a1 a2 w R → Ret c.P c.f_farm_CheckPlan #[a0, a1, a2] w R
  farm_isChange : ∀ (a0 : Value) (w : World) (R : Value → World → Prop), wp_farm_isChange c a0 w R → Ret c.P c.f_farm_isChange #[a0] w R
  farm_clock_do : ∀ (a0 a1 a2 : Value) (w : World) (R : Value → World → Prop), wp_farm_clock_do c a0 a1 a2 w R → Ret c.P c.f_farm_clock_do #[a0, a1, a2] w R
  blref1_in : ∀ (a0 a1 a2 : Value) (w : World) (R : Value → World → Prop), wp_blref1_in c a0 a1 a2 w R → Ret c.P c.f_blref1_in #[a0, a1, a2] w R
  slices_IndexFunc_sl_api_Point_api_Point : ∀ (a0 a1 : Value) (w : World) (R : Value → World → Prop), wp_slices_IndexFunc_sl_api_Point_api_Point c a0 a1 w R → Ret c.P c.f_slices_IndexFunc_sl_api_Point_api_Point #[a0, a1] w R
  slices_ContainsFunc_api_Ring_api_Point : ∀ (a0 a1 : Value) (w : World) (R : Value → World → Prop), wp_slices_ContainsFunc_api_Ring_api_Point c a0 a1 w R → Ret c.P c.f_slices_ContainsFunc_api_Ring_api_Point #[a0, a1] w R
  region_sidesFault : ∀ (a0 : Value) (w : World) (R : Value → World → Prop), wp_region_sidesFault c a0 w R → Ret c.P c.f_region_sidesFault #[a0] w R
  slices_pdqsortCmpFunc_region_side : ∀ (a0 a1 a2 a3 a4 : Value) (w : World) (R : Value → World → Prop), wp_slices_pdqsortCmpFunc_region_side c a0 a1 a2 a3 a4 w R → Ret c.P c.f_slices_pdqsortCmpFunc_region_side #[a0, a1, a2, a3, a4] w R
  math_bits_Len : ∀ (a0 : Value) (w : World) (R : Value → World → Prop), wp_math_bits_Len c a0 w R → Ret c.P c.f_math_bits_Len #[a0] w R
  cmp_isNaN_int : ∀ (a0 : Value) (w : World) (R : Value → World → Prop), wp_cmp_isNaN_int c a0 w R → Ret c.P c.f_cmp_isNaN_int #[a0] w R
  region_apart : ∀ (a0 a1 a2 a3 : Value) (w : World) (R : Value → World → Prop), wp_region_apart c a0 a1 a2 a3 w R → Ret c.P c.f_region_apart #[a0, a1, a2, a3] w R
  region_Meet_1 : ∀ (a0 a1 : Value) (w : World) (R : Value → World → Prop), wp_region_Meet_1 c a0 a1 w R → Ret c.P c.f_region_Meet_1 #[a0, a1] w R
  region_turn : ∀ (a0 a1 a2 : Value) (w : World) (R : Value → World → Prop), wp_region_turn c a0 a1 a2 w R → Ret c.P c.f_region_turn #[a0, a1, a2] w R
  farm_fault : ∀ (a0 a1 : Value) (w : World) (R : Value → World → Prop), wp_farm_fault c a0 a1 w R → Ret c.P c.f_farm_fault #[a0, a1] w R
  slices_Contains_sl_bool_bool : ∀ (a0 a1 : Value) (w : World) (R : Value → World → Prop), wp_slices_Contains_sl_bool_bool c a0 a1 w R → Ret c.P c.f_slices_Contains_sl_bool_bool #[a0, a1] w R
  slices_IndexFunc_api_Ring_api_Point : ∀ (a0 a1 : Value) (w : World) (R : Value → World → Prop), wp_slices_IndexFunc_api_Ring_api_Point c a0 a1 w R → Ret c.P c.f_slices_IndexFunc_api_Ring_api_Point #[a0, a1] w R
  region_foldsBack : ∀ (a0 a1 a2 : Value) (w : World) (R : Value → World → Prop), wp_region_foldsBack c a0 a1 a2 w R → Ret c.P c.f_region_foldsBack #[a0, a1, a2] w R
  slices_insertionSortCmpFunc_region_side : ∀ (a0 a1 a2 a3 : Value) (w : World) (R : Value → World → Prop), wp_slices_insertionSortCmpFunc_region_side c a0 a1 a2 a3 w R → Ret c.P c.f_slices_insertionSortCmpFunc_region_side #[a0, a1, a2, a3] w R
  slices_heapSortCmpFunc_region_side : ∀ (a0 a1 a2 a3 : Value) (w : World) (R : Value → World → Prop), wp_slices_heapSortCmpFunc_region_side c a0 a1 a2 a3 w R → Ret c.P c.f_slices_heapSortCmpFunc_region_side #[a0, a1, a2, a3] w R
  slices_breakPatternsCmpFunc_region_side : ∀ (a0 a1 a2 a3 : Value) (w : World) (R : Value → World → Prop), wp_slices_breakPatternsCmpFunc_region_side c a0 a1 a2 a3 w R → Ret c.P c.f_slices_breakPatternsCmpFunc_region_side #[a0, a1, a2, a3] w R
  slices_choosePivotCmpFunc_region_side : ∀ (a0 a1 a2 a3 : Value) (w : World) (R : Value → World → Prop), wp_slices_choosePivotCmpFunc_region_side c a0 a1 a2 a3 w R → Ret c.P c.f_slices_choosePivotCmpFunc_region_side #[a0, a1, a2, a3] w R
  slices_reverseRangeCmpFunc_region_side : ∀ (a0 a1 a2 a3 : Value) (w : World) (R : Value → World → Prop), wp_slices_reverseRangeCmpFunc_region_side c a0 a1 a2 a3 w R → Ret c.P c.f_slices_reverseRangeCmpFunc_region_side #[a0, a1, a2, a3] w R
  slices_partialInsertionSortCmpFunc_region_side : ∀ (a0 a1 a2 a3 : Value) (w : World) (R : Value → World → Prop), wp_slices_partialInsertionSortCmpFunc_region_side c a0 a1 a2 a3 w R → Ret c.P c.f_slices_partialInsertionSortCmpFunc_region_side #[a0, a1, a2, a3] w R
  slices_partitionEqualCmpFunc_region_side : ∀ (a0 a1 a2 a3 a4 : Value) (w : World) (R : Value → World → Prop), wp_slices_partitionEqualCmpFunc_region_side c a0 a1 a2 a3 a4 w R → Ret c.P c.f_slices_partitionEqualCmpFunc_region_side #[a0, a1, a2, a3, a4] w R
  slices_partitionCmpFunc_region_side : ∀ (a0 a1 a2 a3 a4 : Value) (w : World) (R : Value → World → Prop), wp_slices_partitionCmpFunc_region_side c a0 a1 a2 a3 a4 w R → Ret c.P c.f_slices_partitionCmpFunc_region_side #[a0, a1, a2, a3, a4] w R
  farm_CheckPrinters : ∀ (a0 : Value) (w : World) (R : Value → World → Prop), wp_farm_CheckPrinters c a0 w R → Ret c.P c.f_farm_CheckPrinters #[a0] w R
  farm_CheckJobs : ∀ (a0 : Value) (w : World) (R : Value → World → Prop), wp_farm_CheckJobs c a0 w R → Ret c.P c.f_farm_CheckJobs #[a0] w R
  slices_Index_sl_bool_bool : ∀ (a0 a1 : Value) (w : World) (R : Value → World → Prop), wp_slices_Index_sl_bool_bool c a0 a1 w R → Ret c.P c.f_slices_Index_sl_bool_bool #[a0, a1] w R
  slices_siftDownCmpFunc_region_side : ∀ (a0 a1 a2 a3 a4 : Value) (w : World) (R : Value → World → Prop), wp_slices_siftDownCmpFunc_region_side c a0 a1 a2 a3 a4 w R → Ret c.P c.f_slices_siftDownCmpFunc_region_side #[a0, a1, a2, a3, a4] w R
  slices_nextPowerOfTwo : ∀ (a0 : Value) (w : World) (R : Value → World → Prop), wp_slices_nextPowerOfTwo c a0 w R → Ret c.P c.f_slices_nextPowerOfTwo #[a0] w R
  p_slices_xorshift_Next : ∀ (a0 : Value) (w : World) (R : Value → World → Prop), wp_p_slices_xorshift_Next c a0 w R → Ret c.P c.f_p_slices_xorshift_Next #[a0] w R
  slices_medianAdjacentCmpFunc_region_side : ∀ (a0 a1 a2 a3 : Value) (w : World) (R : Value → World → Prop), wp_slices_medianAdjacentCmpFunc_region_side c a0 a1 a2 a3 w R → Ret c.P c.f_slices_medianAdjacentCmpFunc_region_side #[a0, a1, a2, a3] w R
  slices_medianCmpFunc_region_side : ∀ (a0 a1 a2 a3 a4 a5 : Value) (w : World) (R : Value → World → Prop), wp_slices_medianCmpFunc_region_side c a0 a1 a2 a3 a4 a5 w R → Ret c.P c.f_slices_medianCmpFunc_region_side #[a0, a1, a2, a3, a4, a5] w R
  kit_IsKey : ∀ (a0 : Value) (w : World) (R : Value → World → Prop), wp_kit_IsKey c a0 w R → Ret c.P c.f_kit_IsKey #[a0] w R
  slices_order2CmpFunc_region_side : ∀ (a0 a1 a2 a3 a4 : Value) (w : World) (R : Value → World → Prop), wp_slices_order2CmpFunc_region_side c a0 a1 a2 a3 a4 w R → Ret c.P c.f_slices_order2CmpFunc_region_side #[a0, a1, a2, a3, a4] w R
  strings_IndexByte : ∀ (a0 a1 : Value) (w : World) (R : Value → World → Prop), wp_strings_IndexByte c a0 a1 w R → Ret c.P c.f_strings_IndexByte #[a0, a1] w R
  internal_stringslite_IndexByte : ∀ (a0 a1 : Value) (w : World) (R : Value → World → Prop), wp_internal_stringslite_IndexByte c a0 a1 w R → Ret c.P c.f_internal_stringslite_IndexByte #[a0, a1] w R
  strings_trimLeftByte : ∀ (a0 a1 : Value) (w : World) (R : Value → World → Prop), wp_strings_trimLeftByte c a0 a1 w R → Ret c.P c.f_strings_trimLeftByte #[a0, a1] w R
  strings_trimRightByte : ∀ (a0 a1 : Value) (w : World) (R : Value → World → Prop), wp_strings_trimRightByte c a0 a1 w R → Ret c.P c.f_strings_trimRightByte #[a0, a1] w R
  strings_trimLeftASCII : ∀ (a0 a1 : Value) (w : World) (R : Value → World → Prop), wp_strings_trimLeftASCII c a0 a1 w R → Ret c.P c.f_strings_trimLeftASCII #[a0, a1] w R
  strings_trimRightASCII : ∀ (a0 a1 : Value) (w : World) (R : Value → World → Prop), wp_strings_trimRightASCII c a0 a1 w R → Ret c.P c.f_strings_trimRightASCII #[a0, a1] w R
  p_strings_asciiSet_contains : ∀ (a0 a1 : Value) (w : World) (R : Value → World → Prop), wp_p_strings_asciiSet_contains c a0 a1 w R → Ret c.P c.f_p_strings_asciiSet_contains #[a0, a1] w R

end Go.Eng

