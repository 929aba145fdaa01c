/- Part of a proof: the law PlansMade gives true for every list of integers and leaves its argument as it was; there are no conditions beyond those that the given row states. -/
import Derived.Test.YtcalcoakjagklaaDoorEng
set_option linter.unusedVariables false
set_option linter.unusedSimpArgs false
/-! The numbers of functions and types. -/
namespace Go.Eng
open Go
structure Cfg where
  P : Program
  f_bllaw1_PlansMade : Nat
  f_bllaw1_farmed : Nat
  f_blmake_Below : Nat
  f_blref1_ChangeFault : Nat
  f_blref1_EarliestOf : Nat
  f_blref1_EarliestOf_1 : Nat
  f_blref1_EarliestOf_1_1 : Nat
  f_blref1_EndsBy : Nat
  f_blref1_FarmFault : Nat
  f_blref1_GreedyOf : Nat
  f_blref1_JobsFault : Nat
  f_blref1_Key : Nat
  f_blref1_LateBy : Nat
  f_blref1_LeastLateOf : Nat
  f_blref1_LeastLateOf_1 : Nat
  f_blref1_PrintersFault : Nat
  f_blref1_SpanFault : Nat
  f_blref1_endsOn : Nat
  f_blref1_in : Nat
  f_blref1_total : Nat
  f_blref1_truth : Nat
  f_cmp_Compare_int : Nat
  f_cmp_Or_api_Errno : Nat
  f_cmp_Or_int : Nat
  f_cmp_isNaN_int : Nat
  f_farm_CheckJobs : Nat
  f_farm_CheckPlan : Nat
  f_farm_CheckPrinters : Nat
  f_farm_Earliest : Nat
  f_farm_Ends : Nat
  f_farm_Greedy : Nat
  f_farm_LeastLate : Nat
  f_farm_LeastLate_1 : Nat
  f_farm_clock_do : Nat
  f_farm_ends : Nat
  f_farm_fault : Nat
  f_farm_isChange : Nat
  f_farm_orders : Nat
  f_farm_orders_1 : Nat
  f_farm_planned : Nat
  f_internal_bytealg_Cutover : Nat
  f_internal_bytealg_IndexByteString : Nat
  f_internal_bytealg_IndexRabinKarp_string : Nat
  f_internal_bytealg_IndexString : Nat
  f_internal_stringslite_Index : Nat
  f_internal_stringslite_IndexByte : Nat
  f_kit_IsKey : Nat
  f_kit_Outside : Nat
  f_p_blmake_Stream_ChangeTime : Nat
  f_p_blmake_Stream_Flip : Nat
  f_p_blmake_Stream_JobList : Nat
  f_p_blmake_Stream_Next : Nat
  f_p_blmake_Stream_Odd : Nat
  f_p_blmake_Stream_Pick : Nat
  f_p_blmake_Stream_PrinterList : Nat
  f_p_blmake_Stream_Range : Nat
  f_p_blmake_Stream_Some : Nat
  f_p_farm_planner_better : Nat
  f_p_farm_planner_better_1 : Nat
  f_p_farm_planner_try : Nat
  f_p_strings_asciiSet_contains : Nat
  f_slices_Clone_sl_int_int : Nat
  f_slices_Clone_sl_sl_int_sl_int : Nat
  f_slices_CompareFunc_sl_sl_int_sl_sl_int_sl_int_sl_int : Nat
  f_slices_Compare_sl_int_int : Nat
  f_slices_ContainsFunc_sl_sl_int_sl_int : Nat
  f_slices_Contains_sl_bool_bool : Nat
  f_slices_Contains_sl_int_int : Nat
  f_slices_EqualFunc_sl_sl_int_sl_sl_int_sl_int_sl_int : Nat
  f_slices_Equal_sl_int_int : Nat
  f_slices_IndexFunc_sl_sl_int_sl_int : Nat
  f_slices_Index_sl_bool_bool : Nat
  f_slices_Index_sl_int_int : Nat
  f_strings_Contains : Nat
  f_strings_Index : Nat
  f_strings_IndexByte : Nat
  f_strings_Trim : Nat
  f_strings_trimLeftASCII : Nat
  f_strings_trimLeftByte : Nat
  f_strings_trimRightASCII : Nat
  f_strings_trimRightByte : Nat
  t_api_Job : Nat
  t_api_Printer : Nat
  t_blmake_Stream : Nat
  t_bool : Nat
  t_farm_clock : Nat
  t_farm_planner : Nat
  t_func_588 : Nat
  t_func_sl_int_285 : Nat
  t_func_sl_sl_int_int_165 : Nat
  t_int : Nat
  t_sl_api_Errno : Nat
  t_sl_api_Job : Nat
  t_sl_api_Printer : Nat
  t_sl_bool : Nat
  t_sl_farm_clock : Nat
  t_sl_int : Nat
  t_sl_sl_int : Nat
  t_sl_string : Nat
  t_string : Nat
  t_strings_asciiSet : Nat

/-- a slot of a list of values -/
def g (vs : List Value) (i : Nat) : Value := vs.getD i undef
/-- bytes -/
def Bs (l : List Nat) : ByteArray := ⟨(l.map UInt8.ofNat).toArray⟩
end Go.Eng

/-! What each function comes to (printed by gen.py). -/
namespace Go.Eng
open Go

/-- beadlayer/bllaw1.PlansMade -/
def wp_bllaw1_PlansMade (c : Cfg) (a0 : Value) (w : World) (R : Value → World → Prop) : Prop :=
  pureP c.P (Instr.build c.t_blmake_Stream #[(0, a0)]) fun v25 =>
  newP c.t_blmake_Stream (Value.cells v25) w fun v26 w1 =>
  Ret c.P c.f_p_blmake_Stream_PrinterList #[v26, (.int .i64 2)] w1 fun v28 w2 =>
  Ret c.P c.f_p_blmake_Stream_JobList #[v26, (.int .i64 4)] w2 fun v30 w3 =>
  Ret c.P c.f_p_blmake_Stream_ChangeTime #[v26] w3 fun v32 w4 =>
  Ret c.P c.f_p_blmake_Stream_Flip #[v26, (.int .i64 3)] w4 fun v34 w5 =>
  joinP (fun k0 => condP v34
    (Ret c.P c.f_p_blmake_Stream_PrinterList #[v26, (.int .i64 3)] w5 fun v36 w7 =>
      Ret c.P c.f_p_blmake_Stream_JobList #[v26, (.int .i64 3)] w7 fun v38 w8 =>
      k0 [v36, v38] w8)
    (k0 [v28, v30] w5)) fun s0 j0 w6 =>
  Ret c.P c.f_blref1_FarmFault #[(g s0 0), (g s0 1)] w6 fun v41 w9 =>
  Ret c.P c.f_blref1_ChangeFault #[v32] w9 fun v43 w10 =>
  semP c.P (Instr.buildSlice c.t_sl_api_Errno 2 #[(0, v41), (1, v43)]) w10 fun v44 w11 =>
  Ret c.P c.f_cmp_Or_api_Errno #[v44] w11 fun v45 w12 =>
  Ret c.P c.f_farm_Earliest #[(g s0 0), (g s0 1), v32] w12 fun v50 w13 =>
  exP 0 v50 fun v51 =>
  exP 1 v50 fun v52 =>
  exP 2 v50 fun v53 =>
  Ret c.P c.f_farm_Greedy #[(g s0 0), (g s0 1), v32] w13 fun v58 w14 =>
  exP 0 v58 fun v59 =>
  exP 1 v58 fun v60 =>
  exP 2 v58 fun v61 =>
  binP .eql v45 (.int .i64 0) fun v63 =>
  joinP (fun k1 => condP v63
    (Ret c.P c.f_blref1_EarliestOf #[(g s0 0), (g s0 1), v32] w14 fun v68 w16 =>
      exP 0 v68 fun v69 =>
      exP 1 v68 fun v70 =>
      Ret c.P c.f_blref1_GreedyOf #[(g s0 0), (g s0 1), v32] w16 fun v75 w17 =>
      exP 0 v75 fun v76 =>
      exP 1 v75 fun v77 =>
      k1 [v69, v76, v70, v77] w17)
    (k1 [(.slice none 0 0), (.slice none 0 0), (.int .i64 0), (.int .i64 0)] w14)) fun s1 j1 w15 =>
  joinP (fun k2 =>
    binP .neq v53 v45 fun v80 =>
    guardP v80 false
      (Ret c.P c.f_slices_EqualFunc_sl_sl_int_sl_sl_int_sl_int_sl_int #[v51, (g s1 0), (.func (.func c.f_slices_Equal_sl_int_int) #[] #[])] w15 fun v84 w19 =>
        notP v84 fun v85 =>
        guardP v85 false
          (binP .neq v52 (g s1 2) fun v90 =>
            guardP v90 false
              (binP .neq v61 v45 fun v95 =>
                guardP v95 false
                  (Ret c.P c.f_slices_EqualFunc_sl_sl_int_sl_sl_int_sl_int_sl_int #[v59, (g s1 1), (.func (.func c.f_slices_Equal_sl_int_int) #[] #[])] w19 fun v100 w20 =>
                    notP v100 fun v101 =>
                    guardP v101 false
                      (binP .neq v60 (g s1 3) fun v106 =>
                        k2 [v106] w20)
                      (k2 [(.bool true)] w20))
                  (k2 [(.bool true)] w19))
              (k2 [(.bool true)] w19))
          (k2 [(.bool true)] w19))
      (k2 [(.bool true)] w15)) fun s2 j2 w18 =>
  condP (g s2 0)
    (R (.bool false) w18)
    (lenP (g s0 0) fun v109 =>
      binP .eql v109 (.int .i64 0) fun v110 =>
      condP v110
        (Ret c.P c.f_bllaw1_farmed #[] w18 fun v111 w21 =>
          R v111 w21)
        (pureP c.P (Instr.sliceAt c.t_sl_api_Printer (g s0 0) none (some (.int .i64 1)) none) fun v113 =>
          Ret c.P c.f_blref1_FarmFault #[v113, (g s0 1)] w18 fun v115 w22 =>
          Ret c.P c.f_blref1_ChangeFault #[v32] w22 fun v117 w23 =>
          semP c.P (Instr.buildSlice c.t_sl_api_Errno 2 #[(0, v115), (1, v117)]) w23 fun v118 w24 =>
          Ret c.P c.f_cmp_Or_api_Errno #[v118] w24 fun v119 w25 =>
          idxP 2 (g s0 0) (.int .i64 0) fun v122 =>
          ldA 2 v122 w25 fun v123 =>
          Ret c.P c.f_farm_LeastLate #[v123, (g s0 1), v32] w25 fun v126 w26 =>
          exP 0 v126 fun v127 =>
          exP 1 v126 fun v128 =>
          exP 2 v126 fun v129 =>
          binP .neq v119 (.int .i64 0) fun v131 =>
          condP v131
            (joinP (fun k3 =>
                binP .eql v129 v119 fun v134 =>
                guardP v134 true
                  (lenP v127 fun v137 =>
                    binP .eql v137 (.int .i64 0) fun v138 =>
                    guardP v138 true
                      (binP .eql v128 (.int .i64 0) fun v142 =>
                        guardP v142 true
                          (Ret c.P c.f_bllaw1_farmed #[] w26 fun v145 w28 =>
                            k3 [v145] w28)
                          (k3 [(.bool false)] w26))
                      (k3 [(.bool false)] w26))
                  (k3 [(.bool false)] w26)) fun s3 j3 w27 =>
              R (g s3 0) w27)
            (idxP 2 (g s0 0) (.int .i64 0) fun v149 =>
              ldA 2 v149 w26 fun v150 =>
              Ret c.P c.f_blref1_LeastLateOf #[v150, (g s0 1), v32] w26 fun v153 w29 =>
              exP 0 v153 fun v154 =>
              exP 1 v153 fun v155 =>
              joinP (fun k4 =>
                binP .eql v129 (.int .i64 0) fun v157 =>
                guardP v157 true
                  (Ret c.P c.f_slices_Equal_sl_int_int #[v127, v154] w29 fun v161 w31 =>
                    guardP v161 true
                      (binP .eql v128 v155 fun v166 =>
                        guardP v166 true
                          (Ret c.P c.f_bllaw1_farmed #[] w31 fun v169 w32 =>
                            k4 [v169] w32)
                          (k4 [(.bool false)] w31))
                      (k4 [(.bool false)] w31))
                  (k4 [(.bool false)] w29)) fun s4 j4 w30 =>
              R (g s4 0) w30)))

/-- (*beadlayer/blmake.Stream).PrinterList -/
def wp_p_blmake_Stream_PrinterList (c : Cfg) (a0 a1 : Value) (w : World) (R : Value → World → Prop) : Prop :=
  semP c.P (Instr.buildSlice c.t_sl_string 3 #[(0, (.string (Bs [112, 49]))), (1, (.string (Bs [112, 50]))), (2, (.string (Bs [112, 51])))]) w fun v9 w1 =>
  Ret c.P c.f_p_blmake_Stream_Range #[a0, (.int .i64 1), a1] w1 fun v12 w2 =>
  pureP c.P (Instr.sliceAt c.t_sl_string v9 none (some v12) none) fun v13 =>
  lenP v13 fun v14 =>
  loopP (fun nx0 s0 j0 w3 =>
    binP .lss (g s0 1) v14 fun v16 =>
    condP v16
      (idxP 1 v13 (g s0 1) fun v17 =>
        ld v17 w3 fun v18 =>
        semP c.P (Instr.buildSlice c.t_sl_string 3 #[(0, (.string (Bs [112, 108, 97]))), (1, (.string (Bs [112, 108, 97]))), (2, (.string (Bs [112, 101, 116])))]) w3 fun v22 w4 =>
        Ret c.P c.f_p_blmake_Stream_Some #[a0, v22] w4 fun v23 w5 =>
        pureP c.P (Instr.build c.t_api_Printer #[(0, v18), (1, v23)]) fun v24 =>
        semP c.P (Instr.buildSlice c.t_sl_api_Printer 1 #[(0, v24)]) w5 fun v25 w6 =>
        semP c.P (Builtin.append_ #[c.t_sl_api_Printer, c.t_sl_api_Printer] c.t_sl_api_Printer #[(g s0 0), v25]) w6 fun v26 w7 =>
        binP .add (g s0 1) (.int .i64 1) fun v27 =>
        nx0 [v26, v27] w7)
      (Ret c.P c.f_p_blmake_Stream_Flip #[a0, (.int .i64 20)] w3 fun v29 w8 =>
        joinP (fun k1 => condP v29
          (lenP (g s0 0) fun v33 =>
            Ret c.P c.f_p_blmake_Stream_Next #[a0, v33] w8 fun v34 w10 =>
            idxP 2 (g s0 0) v34 fun v35 =>
            joinP (fun k2 =>
              heldP fun S => S w10.drew ∧
              nilP v35 fun v40 =>
              offP 0 v40 fun v41 =>
              ldS S v41 fun v42 =>
              nilP v35 fun v47 =>
              offP 1 v47 fun v48 =>
              ldS S v48 fun v49 =>
              (semP c.P (Instr.buildSlice c.t_sl_string 3 #[(0, v42), (1, (.string (Bs []))), (2, (.string (Bs [112, 49])))]) w10.drew fun v43 w12 => S w12 ∧
                (Ret c.P c.f_p_blmake_Stream_Some #[a0, v43] w12 fun v44 w13 => S w13 ∧
                  semP c.P (Instr.buildSlice c.t_sl_string 2 #[(0, v49), (1, (.string (Bs [])))]) w13 fun v50 w14 => S w14 ∧
                  Ret c.P c.f_p_blmake_Stream_Some #[a0, v50] w14 fun v51 w15 => S w15 ∧
                  nilP v35 fun v52 =>
                  offP 0 v52 fun v53 =>
                  st v53 v44 w15 fun w16 =>
                  nilP v35 fun v54 =>
                  offP 1 v54 fun v55 =>
                  st v55 v51 w16 fun w17 =>
                  k2 [] w17)
                ∧ (semP c.P (Instr.buildSlice c.t_sl_string 2 #[(0, v49), (1, (.string (Bs [])))]) w12 fun v50_1 w18 => S w18 ∧
                  Ret c.P c.f_p_blmake_Stream_Some #[a0, v43] w18 fun v44_1 w19 => S w19 ∧
                  Ret c.P c.f_p_blmake_Stream_Some #[a0, v50_1] w19 fun v51_1 w20 => S w20 ∧
                  nilP v35 fun v52_1 =>
                  offP 0 v52_1 fun v53_1 =>
                  st v53_1 v44_1 w20 fun w21 =>
                  nilP v35 fun v54_1 =>
                  offP 1 v54_1 fun v55_1 =>
                  st v55_1 v51_1 w21 fun w22 =>
                  k2 [] w22))
              ∧ (semP c.P (Instr.buildSlice c.t_sl_string 2 #[(0, v49), (1, (.string (Bs [])))]) w10.drew fun v50_2 w23 => S w23 ∧
                semP c.P (Instr.buildSlice c.t_sl_string 3 #[(0, v42), (1, (.string (Bs []))), (2, (.string (Bs [112, 49])))]) w23 fun v43_1 w24 => S w24 ∧
                Ret c.P c.f_p_blmake_Stream_Some #[a0, v43_1] w24 fun v44_2 w25 => S w25 ∧
                Ret c.P c.f_p_blmake_Stream_Some #[a0, v50_2] w25 fun v51_2 w26 => S w26 ∧
                nilP v35 fun v52_2 =>
                offP 0 v52_2 fun v53_2 =>
                st v53_2 v44_2 w26 fun w27 =>
                nilP v35 fun v54_2 =>
                offP 1 v54_2 fun v55_2 =>
                st v55_2 v51_2 w27 fun w28 =>
                k2 [] w28)) fun s2 j2 w11 =>
            k1 [] w11)
          (k1 [] w8)) fun s1 j1 w9 =>
        Ret c.P c.f_p_blmake_Stream_Flip #[a0, (.int .i64 40)] w9 fun v57 w29 =>
        joinP (fun k3 => condP v57
          (k3 [(.slice none 0 0)] w29)
          (k3 [(g s0 0)] w29)) fun s3 j3 w30 =>
        R (g s3 0) w30)) [(.slice none 0 0), (.int .i64 0)] w2

/-- (*beadlayer/blmake.Stream).JobList -/
def wp_p_blmake_Stream_JobList (c : Cfg) (a0 a1 : Value) (w : World) (R : Value → World → Prop) : Prop :=
  semP c.P (Instr.buildSlice c.t_sl_string 5 #[(0, (.string (Bs [106, 49]))), (1, (.string (Bs [106, 50]))), (2, (.string (Bs [106, 51]))), (3, (.string (Bs [106, 52]))), (4, (.string (Bs [106, 53])))]) w fun v9 w1 =>
  Ret c.P c.f_p_blmake_Stream_Range #[a0, (.int .i64 0), a1] w1 fun v12 w2 =>
  pureP c.P (Instr.sliceAt c.t_sl_string v9 none (some v12) none) fun v13 =>
  lenP v13 fun v14 =>
  loopP (fun nx0 s0 j0 w3 =>
    binP .lss (g s0 1) v14 fun v16 =>
    condP v16
      (idxP 1 v13 (g s0 1) fun v17 =>
        ld v17 w3 fun v18 =>
        semP c.P (Instr.buildSlice c.t_sl_string 3 #[(0, (.string (Bs [112, 108, 97]))), (1, (.string (Bs [112, 108, 97]))), (2, (.string (Bs [112, 101, 116])))]) w3 fun v22 w4 =>
        Ret c.P c.f_p_blmake_Stream_Some #[a0, v22] w4 fun v23 w5 =>
        semP c.P (Instr.buildSlice c.t_sl_int 5 #[(0, (.int .i64 10)), (1, (.int .i64 20)), (2, (.int .i64 20)), (3, (.int .i64 30)), (4, (.int .i64 45))]) w5 fun v25 w6 =>
        Ret c.P c.f_p_blmake_Stream_Pick #[a0, v25] w6 fun v26 w7 =>
        semP c.P (Instr.buildSlice c.t_sl_int 5 #[(0, (.int .i64 0)), (1, (.int .i64 20)), (2, (.int .i64 40)), (3, (.int .i64 60)), (4, (.int .i64 100))]) w7 fun v28 w8 =>
        Ret c.P c.f_p_blmake_Stream_Pick #[a0, v28] w8 fun v29 w9 =>
        pureP c.P (Instr.build c.t_api_Job #[(0, v18), (1, v23), (2, v26), (3, v29)]) fun v30 =>
        semP c.P (Instr.buildSlice c.t_sl_api_Job 1 #[(0, v30)]) w9 fun v31 w10 =>
        semP c.P (Builtin.append_ #[c.t_sl_api_Job, c.t_sl_api_Job] c.t_sl_api_Job #[(g s0 0), v31]) w10 fun v32 w11 =>
        binP .add (g s0 1) (.int .i64 1) fun v33 =>
        nx0 [v32, v33] w11)
      (joinP (fun k1 =>
          lenP (g s0 0) fun v35 =>
          binP .gtr v35 (.int .i64 0) fun v36 =>
          guardP v36 true
            (Ret c.P c.f_p_blmake_Stream_Flip #[a0, (.int .i64 20)] w3 fun v39 w13 =>
              k1 [v39] w13)
            (k1 [(.bool false)] w3)) fun s1 j1 w12 =>
        joinP (fun k2 => condP (g s1 0)
          (lenP (g s0 0) fun v44 =>
            Ret c.P c.f_p_blmake_Stream_Next #[a0, v44] w12 fun v45 w15 =>
            idxP 4 (g s0 0) v45 fun v46 =>
            joinP (fun k3 =>
              heldP fun S => S w15.drew ∧
              nilP v46 fun v52 =>
              offP 0 v52 fun v53 =>
              ldS S v53 fun v54 =>
              nilP v46 fun v61 =>
              offP 3 v61 fun v62 =>
              ldS S v62 fun v63 =>
              (semP c.P (Instr.buildSlice c.t_sl_string 3 #[(0, v54), (1, (.string (Bs []))), (2, (.string (Bs [106, 49])))]) w15.drew fun v55 w17 => S w17 ∧
                (Ret c.P c.f_p_blmake_Stream_Some #[a0, v55] w17 fun v56 w18 => S w18 ∧
                  (Ret c.P c.f_p_blmake_Stream_Odd #[a0, (.int .i64 1), (.int .i64 100000)] w18 fun v58 w19 => S w19 ∧
                    semP c.P (Instr.buildSlice c.t_sl_int 2 #[(0, v63), (1, (.int .i64 (-1)))]) w19 fun v64 w20 => S w20 ∧
                    Ret c.P c.f_p_blmake_Stream_Pick #[a0, v64] w20 fun v65 w21 => S w21 ∧
                    nilP v46 fun v66 =>
                    offP 0 v66 fun v67 =>
                    st v67 v56 w21 fun w22 =>
                    nilP v46 fun v68 =>
                    offP 2 v68 fun v69 =>
                    st v69 v58 w22 fun w23 =>
                    nilP v46 fun v70 =>
                    offP 3 v70 fun v71 =>
                    st v71 v65 w23 fun w24 =>
                    k3 [] w24)
                  ∧ (semP c.P (Instr.buildSlice c.t_sl_int 2 #[(0, v63), (1, (.int .i64 (-1)))]) w18 fun v64_1 w25 => S w25 ∧
                    Ret c.P c.f_p_blmake_Stream_Odd #[a0, (.int .i64 1), (.int .i64 100000)] w25 fun v58_1 w26 => S w26 ∧
                    Ret c.P c.f_p_blmake_Stream_Pick #[a0, v64_1] w26 fun v65_1 w27 => S w27 ∧
                    nilP v46 fun v66_1 =>
                    offP 0 v66_1 fun v67_1 =>
                    st v67_1 v56 w27 fun w28 =>
                    nilP v46 fun v68_1 =>
                    offP 2 v68_1 fun v69_1 =>
                    st v69_1 v58_1 w28 fun w29 =>
                    nilP v46 fun v70_1 =>
                    offP 3 v70_1 fun v71_1 =>
                    st v71_1 v65_1 w29 fun w30 =>
                    k3 [] w30))
                ∧ (semP c.P (Instr.buildSlice c.t_sl_int 2 #[(0, v63), (1, (.int .i64 (-1)))]) w17 fun v64_2 w31 => S w31 ∧
                  Ret c.P c.f_p_blmake_Stream_Some #[a0, v55] w31 fun v56_1 w32 => S w32 ∧
                  Ret c.P c.f_p_blmake_Stream_Odd #[a0, (.int .i64 1), (.int .i64 100000)] w32 fun v58_2 w33 => S w33 ∧
                  Ret c.P c.f_p_blmake_Stream_Pick #[a0, v64_2] w33 fun v65_2 w34 => S w34 ∧
                  nilP v46 fun v66_2 =>
                  offP 0 v66_2 fun v67_2 =>
                  st v67_2 v56_1 w34 fun w35 =>
                  nilP v46 fun v68_2 =>
                  offP 2 v68_2 fun v69_2 =>
                  st v69_2 v58_2 w35 fun w36 =>
                  nilP v46 fun v70_2 =>
                  offP 3 v70_2 fun v71_2 =>
                  st v71_2 v65_2 w36 fun w37 =>
                  k3 [] w37))
              ∧ (semP c.P (Instr.buildSlice c.t_sl_int 2 #[(0, v63), (1, (.int .i64 (-1)))]) w15.drew fun v64_3 w38 => S w38 ∧
                semP c.P (Instr.buildSlice c.t_sl_string 3 #[(0, v54), (1, (.string (Bs []))), (2, (.string (Bs [106, 49])))]) w38 fun v55_1 w39 => S w39 ∧
                Ret c.P c.f_p_blmake_Stream_Some #[a0, v55_1] w39 fun v56_2 w40 => S w40 ∧
                Ret c.P c.f_p_blmake_Stream_Odd #[a0, (.int .i64 1), (.int .i64 100000)] w40 fun v58_3 w41 => S w41 ∧
                Ret c.P c.f_p_blmake_Stream_Pick #[a0, v64_3] w41 fun v65_3 w42 => S w42 ∧
                nilP v46 fun v66_3 =>
                offP 0 v66_3 fun v67_3 =>
                st v67_3 v56_2 w42 fun w43 =>
                nilP v46 fun v68_3 =>
                offP 2 v68_3 fun v69_3 =>
                st v69_3 v58_3 w43 fun w44 =>
                nilP v46 fun v70_3 =>
                offP 3 v70_3 fun v71_3 =>
                st v71_3 v65_3 w44 fun w45 =>
                k3 [] w45)) fun s3 j3 w16 =>
            k2 [] w16)
          (k2 [] w12)) fun s2 j2 w14 =>
        R (g s0 0) w14)) [(.slice none 0 0), (.int .i64 0)] w2

/-- (*beadlayer/blmake.Stream).ChangeTime -/
def wp_p_blmake_Stream_ChangeTime (c : Cfg) (a0 : Value) (w : World) (R : Value → World → Prop) : Prop :=
  semP c.P (Instr.buildSlice c.t_sl_int 3 #[(0, (.int .i64 (-1))), (1, (.int .i64 100001)), (2, (.int .i64 10))]) w fun v5 w1 =>
  Ret c.P c.f_p_blmake_Stream_Pick #[a0, v5] w1 fun v6 w2 =>
  semP c.P (Instr.buildSlice c.t_sl_int 6 #[(0, (.int .i64 0)), (1, (.int .i64 5)), (2, (.int .i64 10)), (3, (.int .i64 10)), (4, (.int .i64 30)), (5, v6)]) w2 fun v7 w3 =>
  Ret c.P c.f_p_blmake_Stream_Pick #[a0, v7] w3 fun v8 w4 =>
  R v8 w4

/-- (*beadlayer/blmake.Stream).Flip -/
def wp_p_blmake_Stream_Flip (c : Cfg) (a0 a1 : Value) (w : World) (R : Value → World → Prop) : Prop :=
  Ret c.P c.f_p_blmake_Stream_Next #[a0, a1] w fun v7 w1 =>
  binP .eql v7 (.int .i64 0) fun v8 =>
  R v8 w1

/-- cmp.Or[beadlayer/api.Errno] -/
def wp_cmp_Or_api_Errno (c : Cfg) (a0 : Value) (w : World) (R : Value → World → Prop) : Prop :=
  lenP a0 fun v7 =>
  loopP (fun nx0 s0 j0 w1 =>
    binP .lss (g s0 0) v7 fun v9 =>
    condP v9
      (idxP 1 a0 (g s0 0) fun v10 =>
        ld v10 w1 fun v11 =>
        binP .neq v11 (.int .i64 0) fun v14 =>
        condP v14
          (R v11 w1)
          (binP .add (g s0 0) (.int .i64 1) fun v16 =>
            nx0 [v16] w1))
      (R (.int .i64 0) w1)) [(.int .i64 0)] w

/-- beadlayer/blref1.FarmFault -/
def wp_blref1_FarmFault (c : Cfg) (a0 a1 : Value) (w : World) (R : Value → World → Prop) : Prop :=
  Ret c.P c.f_blref1_PrintersFault #[a0] w fun v6 w1 =>
  Ret c.P c.f_blref1_JobsFault #[a1] w1 fun v8 w2 =>
  semP c.P (Instr.buildSlice c.t_sl_api_Errno 2 #[(0, v6), (1, v8)]) w2 fun v9 w3 =>
  Ret c.P c.f_cmp_Or_api_Errno #[v9] w3 fun v10 w4 =>
  R v10 w4

/-- beadlayer/blref1.ChangeFault -/
def wp_blref1_ChangeFault (c : Cfg) (a0 : Value) (w : World) (R : Value → World → Prop) : Prop :=
  Ret c.P c.f_blref1_SpanFault #[a0, (.int .i64 0), (.int .i64 100000)] w fun v4 w1 =>
  R v4 w1

/-- beadlayer/farm.Earliest -/
def wp_farm_Earliest (c : Cfg) (a0 a1 a2 : Value) (w : World) (R : Value → World → Prop) : Prop :=
  Ret c.P c.f_farm_fault #[a0, a1] w fun v13 w1 =>
  binP .neq v13 (.int .i64 0) fun v15 =>
  condP v15
    (R (.tuple #[(.slice none 0 0), (.int .i64 0), v13]) w1)
    (Ret c.P c.f_farm_isChange #[a2] w1 fun v18 w2 =>
      notP v18 fun v19 =>
      condP v19
        (R (.tuple #[(.slice none 0 0), (.int .i64 0), (.int .i64 1)]) w2)
        (joinP (fun k0 =>
            lenP a1 fun v21 =>
            binP .gtr v21 (.int .i64 7) fun v22 =>
            guardP v22 false
              (lenP a0 fun v25 =>
                binP .gtr v25 (.int .i64 4) fun v26 =>
                k0 [v26] w2)
              (k0 [(.bool true)] w2)) fun s0 j0 w3 =>
          condP (g s0 0)
            (R (.tuple #[(.slice none 0 0), (.int .i64 0), (.int .i64 2)]) w3)
            (joinP (fun k1 =>
                heldP fun S => S w3.drew ∧
                lenP a0 fun v32 =>
                lenP a1 fun v35 =>
                (semP c.P (Instr.makeSlice c.t_sl_sl_int v32 v32) w3.drew fun v33 w5 => S w5 ∧
                  semP c.P (Instr.makeSlice c.t_sl_bool v35 v35) w5 fun v36 w6 =>
                  pureP c.P (Instr.build c.t_farm_planner #[(0, a0), (1, a1), (2, a2), (3, v33), (4, v36)]) fun v37 =>
                  newP c.t_farm_planner (Value.cells v37) w6 fun v38 w7 =>
                  k1 [v38] w7)
                ∧ (semP c.P (Instr.makeSlice c.t_sl_bool v35 v35) w3.drew fun v36_1 w8 =>
                  semP c.P (Instr.makeSlice c.t_sl_sl_int v32 v32) w8 fun v33_1 w9 => S w9 ∧
                  pureP c.P (Instr.build c.t_farm_planner #[(0, a0), (1, a1), (2, a2), (3, v33_1), (4, v36_1)]) fun v37_1 =>
                  newP c.t_farm_planner (Value.cells v37_1) w9 fun v38_1 w10 =>
                  k1 [v38_1] w10)) fun s1 j1 w4 =>
              idxP 2 a0 (.int .i64 0) fun v41 =>
              offP 1 v41 fun v42 =>
              ld v42 w4 fun v43 =>
              pureP c.P (Instr.build c.t_farm_clock #[(0, (.int .i64 0)), (1, v43)]) fun v44 =>
              lenP a1 fun v46 =>
              Ret c.P c.f_p_farm_planner_try #[(g s1 0), (.int .i64 0), v44, v46, (.int .i64 0), (.int .i64 0)] w4 fun v47 w11 =>
              nilP (g s1 0) fun v49 =>
              offP 5 v49 fun v50 =>
              ld v50 w11.drew fun v51 =>
              nilP (g s1 0) fun v53 =>
              offP 6 v53 fun v54 =>
              ld v54 w11.drew fun v55 =>
              R (.tuple #[v51, v55, (.int .i64 0)]) w11.drew)))

/-- beadlayer/farm.Greedy -/
def wp_farm_Greedy (c : Cfg) (a0 a1 a2 : Value) (w : World) (R : Value → World → Prop) : Prop :=
  Ret c.P c.f_farm_fault #[a0, a1] w fun v22 w1 =>
  binP .neq v22 (.int .i64 0) fun v24 =>
  condP v24
    (R (.tuple #[(.slice none 0 0), (.int .i64 0), v22]) w1)
    (Ret c.P c.f_farm_isChange #[a2] w1 fun v27 w2 =>
      notP v27 fun v28 =>
      condP v28
        (R (.tuple #[(.slice none 0 0), (.int .i64 0), (.int .i64 1)]) w2)
        (lenP a0 fun v30 =>
          semP c.P (Instr.makeSlice c.t_sl_sl_int v30 v30) w2 fun v31 w3 =>
          lenP a0 fun v33 =>
          loopP (fun nx0 s0 j0 w4 =>
            binP .lss (g s0 1) v33 fun v35 =>
            condP v35
              (idxP 2 a0 (g s0 1) fun v36 =>
                ldA 2 v36 w4 fun v37 =>
                newP c.t_api_Printer #[(.string (Bs [])), (.string (Bs []))] w4 fun v13 w5 =>
                stA 2 v13 v37 w5 fun w6 =>
                offP 1 v13 fun v39 =>
                ld v39 w6 fun v40 =>
                pureP c.P (Instr.build c.t_farm_clock #[(0, (.int .i64 0)), (1, v40)]) fun v41 =>
                semP c.P (Instr.buildSlice c.t_sl_farm_clock 1 #[(0, v41)]) w6 fun v42 w7 =>
                semP c.P (Builtin.append_ #[c.t_sl_farm_clock, c.t_sl_farm_clock] c.t_sl_farm_clock #[(g s0 0), v42]) w7 fun v43 w8 =>
                binP .add (g s0 1) (.int .i64 1) fun v44 =>
                nx0 [v43, v44] w8)
              (lenP a1 fun v46 =>
                loopP (fun nx1 s1 j1 w9 =>
                  binP .lss (g s1 1) v46 fun v48 =>
                  condP v48
                    (idxP 4 a1 (g s1 1) fun v50 =>
                      ldA 4 v50 w9 fun v51 =>
                      newP c.t_api_Job #[(.string (Bs [])), (.string (Bs [])), (.int .i64 0), (.int .i64 0)] w9 fun v16 w10 =>
                      stA 4 v16 v51 w10 fun w11 =>
                      lenP (g s0 0) fun v53 =>
                      loopP (fun nx2 s2 j2 w12 =>
                        binP .lss (g s2 1) v53 fun v55 =>
                        condP v55
                          (joinP (fun k3 =>
                              idxP 2 (g s0 0) (g s2 1) fun v57 =>
                              ldA 2 v57 w12 fun v58 =>
                              newP c.t_farm_clock #[(.int .i64 0), (.string (Bs []))] w12 fun v19 w14 =>
                              stA 2 v19 v58 w14 fun w15 =>
                              heldP fun S => S w15.drew ∧
                              ldAS S 2 v19 fun v59 =>
                              ldAS S 4 v16 fun v60 =>
                              idxP 2 (g s0 0) (g s2 0) fun v66 =>
                              ldAS S 2 v66 fun v67 =>
                              ldAS S 4 v16 fun v68 =>
                              Ret c.P c.f_farm_clock_do #[v59, v60, a2] w15.drew fun v62 w16 => S w16 ∧
                              fld1 0 v62 fun v63 =>
                              Ret c.P c.f_farm_clock_do #[v67, v68, a2] w16 fun v70 w17 => S w17 ∧
                              fld1 0 v70 fun v71 =>
                              binP .lss v63 v71 fun v72 =>
                              joinP (fun k4 => condP v72
                                (k4 [(g s2 1)] w17)
                                (k4 [(g s2 0)] w17)) fun s4 j4 w18 =>
                              k3 [(g s4 0)] w18) fun s3 j3 w13 =>
                            binP .add (g s2 1) (.int .i64 1) fun v74 =>
                            nx2 [(g s3 0), v74] w13)
                          (idxP 2 (g s0 0) (g s2 0) fun v79 =>
                            ldA 2 v79 w12.drew fun v80 =>
                            ldA 4 v16 w12.drew fun v81 =>
                            Ret c.P c.f_farm_clock_do #[v80, v81, a2] w12.drew fun v83 w19 =>
                            idxP 2 (g s0 0) (g s2 0) fun v84 =>
                            stA 2 v84 v83 w19 fun w20 =>
                            idxP 1 v31 (g s2 0) fun v89 =>
                            ld v89 w20 fun v90 =>
                            semP c.P (Instr.buildSlice c.t_sl_int 1 #[(0, (g s1 1))]) w20 fun v92 w21 =>
                            semP c.P (Builtin.append_ #[c.t_sl_int, c.t_sl_int] c.t_sl_int #[v90, v92]) w21 fun v93 w22 =>
                            idxP 1 v31 (g s2 0) fun v94 =>
                            st v94 v93 w22 fun w23 =>
                            idxP 2 (g s0 0) (g s2 0) fun v98 =>
                            offP 0 v98 fun v99 =>
                            ld v99 w23 fun v100 =>
                            pureP c.P (Builtin.max_ #[c.t_int, c.t_int] c.t_int #[(g s1 0), v100]) fun v101 =>
                            binP .add (g s1 1) (.int .i64 1) fun v102 =>
                            nx1 [v101, v102] w23)) [(.int .i64 0), (.int .i64 0)] w11)
                    (R (.tuple #[v31, (g s1 0), (.int .i64 0)]) w9)) [(.int .i64 0), (.int .i64 0)] w4)) [(.slice none 0 0), (.int .i64 0)] w3))

/-- beadlayer/blref1.EarliestOf -/
def wp_blref1_EarliestOf (c : Cfg) (a0 a1 a2 : Value) (w : World) (R : Value → World → Prop) : Prop :=
  newP c.t_sl_api_Printer (Value.cells a0) w fun v3 w1 =>
  newP c.t_sl_api_Job (Value.cells a1) w1 fun v4 w2 =>
  newP c.t_int (Value.cells a2) w2 fun v5 w3 =>
  newP c.t_sl_sl_int #[(.slice none 0 0)] w3 fun v8 w4 =>
  newP c.t_int #[(.int .i64 0)] w4 fun v9 w5 =>
  newP c.t_int #[(.int .i64 0)] w5 fun v10 w6 =>
  st v9 (.int .i64 (-1)) w6 fun w7 =>
  st v10 (.int .i64 0) w7 fun w8 =>
  newP c.t_func_sl_sl_int_int_165 #[.nilFunc] w8 fun v11 w9 =>
  st v11 (.func (.func c.f_blref1_EarliestOf_1) #[] #[v4, v3, v5, v9, v10, v8, v11]) w9 fun w10 =>
  heldP fun S => S w10.drew ∧
  ldS S v11 fun v13 =>
  ld v3 w10.drew fun v14 => S w10.drew ∧
  lenP v14 fun v15 =>
  semP c.P (Instr.makeSlice c.t_sl_sl_int v15 v15) w10.drew fun v16 w11 => S w11 ∧
  callV c.P v13 #[v16, (.int .i64 0)] w11 fun v17 w12 =>
  ld v8 w12.drew fun v18 =>
  ld v9 w12.drew fun v19 =>
  R (.tuple #[v18, v19]) w12.drew

/-- beadlayer/blref1.GreedyOf -/
def wp_blref1_GreedyOf (c : Cfg) (a0 a1 a2 : Value) (w : World) (R : Value → World → Prop) : Prop :=
  lenP a0 fun v18 =>
  semP c.P (Instr.makeSlice c.t_sl_sl_int v18 v18) w fun v19 w1 =>
  lenP a1 fun v21 =>
  loopP (fun nx0 s0 j0 w2 =>
    binP .lss (g s0 0) v21 fun v23 =>
    condP v23
      (lenP a0 fun v26 =>
        loopP (fun nx1 s1 j1 w3 =>
          binP .lss (g s1 2) v26 fun v28 =>
          condP v28
            (joinP (fun k2 =>
                joinP (fun k3 =>
                  heldP fun S => S w3.drew ∧
                  idxP 2 a0 (g s1 2) fun v32 =>
                  ldAS S 2 v32 fun v33 =>
                  idxP 1 v19 (g s1 2) fun v37 =>
                  ldS S v37 fun v38 =>
                  (Ret c.P c.f_slices_Clone_sl_int_int #[v38] w3.drew fun v39 w6 => S w6 ∧
                    semP c.P (Instr.buildSlice c.t_sl_int 1 #[(0, (g s0 0))]) w6 fun v41 w7 => S w7 ∧
                    semP c.P (Builtin.append_ #[c.t_sl_int, c.t_sl_int] c.t_sl_int #[v39, v41]) w7 fun v42 w8 => S w8 ∧
                    Ret c.P c.f_blref1_endsOn #[v33, a1, v42, a2] w8 fun v44 w9 => S w9 ∧
                    k3 [v44] w9)
                  ∧ (semP c.P (Instr.buildSlice c.t_sl_int 1 #[(0, (g s0 0))]) w3.drew fun v41_1 w10 => S w10 ∧
                    Ret c.P c.f_slices_Clone_sl_int_int #[v38] w10 fun v39_1 w11 => S w11 ∧
                    semP c.P (Builtin.append_ #[c.t_sl_int, c.t_sl_int] c.t_sl_int #[v39_1, v41_1]) w11 fun v42_1 w12 => S w12 ∧
                    Ret c.P c.f_blref1_endsOn #[v33, a1, v42_1, a2] w12 fun v44_1 w13 => S w13 ∧
                    k3 [v44_1] w13)) fun s3 j3 w5 =>
                lenP (g s3 0) fun v47 =>
                binP .sub v47 (.int .i64 1) fun v48 =>
                idxP 1 (g s3 0) v48 fun v49 =>
                ld v49 w5 fun v50 =>
                joinP (fun k4 =>
                  binP .lss (g s1 1) (.int .i64 0) fun v52 =>
                  guardP v52 false
                    (binP .lss v50 (g s1 1) fun v56 =>
                      k4 [v56] w5)
                    (k4 [(.bool true)] w5)) fun s4 j4 w14 =>
                joinP (fun k5 => condP (g s4 0)
                  (k5 [(g s1 2), v50] w14)
                  (k5 [(g s1 0), (g s1 1)] w14)) fun s5 j5 w15 =>
                k2 [(g s5 0), (g s5 1)] w15) fun s2 j2 w4 =>
              binP .add (g s1 2) (.int .i64 1) fun v60 =>
              nx1 [(g s2 0), (g s2 1), v60] w4)
            (idxP 1 v19 (g s1 0) fun v65 =>
              ld v65 w3 fun v66 =>
              semP c.P (Instr.buildSlice c.t_sl_int 1 #[(0, (g s0 0))]) w3 fun v68 w16 =>
              semP c.P (Builtin.append_ #[c.t_sl_int, c.t_sl_int] c.t_sl_int #[v66, v68]) w16 fun v69 w17 =>
              idxP 1 v19 (g s1 0) fun v70 =>
              st v70 v69 w17 fun w18 =>
              binP .add (g s0 0) (.int .i64 1) fun v71 =>
              nx0 [v71] w18)) [(.int .i64 0), (.int .i64 (-1)), (.int .i64 0)] w2)
      (Ret c.P c.f_blref1_EndsBy #[a0, a1, v19, a2] w2 fun v77 w19 =>
        exP 0 v77 fun v78 =>
        exP 1 v77 fun v79 =>
        R (.tuple #[v19, v79]) w19)) [(.int .i64 0)] w1

/-- slices.EqualFunc[[][]int,[][]int,[]int,[]int] -/
def wp_slices_EqualFunc_sl_sl_int_sl_sl_int_sl_int_sl_int (c : Cfg) (a0 a1 a2 : Value) (w : World) (R : Value → World → Prop) : Prop :=
  lenP a0 fun v11 =>
  lenP a1 fun v13 =>
  binP .neq v11 v13 fun v14 =>
  condP v14
    (R (.bool false) w)
    (lenP a0 fun v16 =>
      loopP (fun nx0 s0 j0 w1 =>
        binP .lss (g s0 0) v16 fun v18 =>
        condP v18
          (idxP 1 a0 (g s0 0) fun v20 =>
            ld v20 w1 fun v21 =>
            idxP 1 a1 (g s0 0) fun v24 =>
            ld v24 w1 fun v25 =>
            callV c.P a2 #[v21, v25] w1 fun v29 w2 =>
            notP v29 fun v30 =>
            condP v30
              (R (.bool false) w2)
              (binP .add (g s0 0) (.int .i64 1) fun v31 =>
                nx0 [v31] w2))
          (R (.bool true) w1)) [(.int .i64 0)] w)

/-- slices.Equal[[]int,int] -/
def wp_slices_Equal_sl_int_int (c : Cfg) (a0 a1 : Value) (w : World) (R : Value → World → Prop) : Prop :=
  lenP a0 fun v7 =>
  lenP a1 fun v9 =>
  binP .neq v7 v9 fun v10 =>
  condP v10
    (R (.bool false) w)
    (lenP a0 fun v12 =>
      loopP (fun nx0 s0 j0 w1 =>
        binP .lss (g s0 0) v12 fun v14 =>
        condP v14
          (idxP 1 a0 (g s0 0) fun v18 =>
            ld v18 w1.drew fun v19 =>
            idxP 1 a1 (g s0 0) fun v22 =>
            ld v22 w1.drew fun v23 =>
            binP .neq v19 v23 fun v24 =>
            condP v24
              (R (.bool false) w1.drew)
              (binP .add (g s0 0) (.int .i64 1) fun v25 =>
                nx0 [v25] w1.drew))
          (R (.bool true) w1)) [(.int .i64 0)] w)

/-- beadlayer/bllaw1.farmed -/
def wp_bllaw1_farmed (c : Cfg) (w : World) (R : Value → World → Prop) : Prop :=
  pureP c.P (Instr.build c.t_api_Printer #[(0, (.string (Bs [112]))), (1, (.string (Bs [97])))]) fun v5 =>
  semP c.P (Instr.buildSlice c.t_sl_api_Printer 1 #[(0, v5)]) w fun v6 w1 =>
  pureP c.P (Instr.build c.t_api_Job #[(0, (.string (Bs [106]))), (1, (.string (Bs [98]))), (2, (.int .i64 20))]) fun v7 =>
  semP c.P (Instr.buildSlice c.t_sl_api_Job 1 #[(0, v7)]) w1 fun v8 w2 =>
  semP c.P (Instr.buildSlice c.t_sl_int 1 #[(0, (.int .i64 0))]) w2 fun v9 w3 =>
  semP c.P (Instr.buildSlice c.t_sl_sl_int 1 #[(0, v9)]) w3 fun v10 w4 =>
  Ret c.P c.f_farm_Ends #[v6, v8, v10, (.int .i64 5)] w4 fun v11 w5 =>
  exP 0 v11 fun v12 =>
  exP 1 v11 fun v13 =>
  exP 2 v11 fun v14 =>
  joinP (fun k0 =>
    binP .eql v14 (.int .i64 0) fun v16 =>
    guardP v16 true
      (binP .eql v13 (.int .i64 25) fun v19 =>
        guardP v19 true
          (semP c.P (Instr.buildSlice c.t_sl_int 1 #[(0, (.int .i64 25))]) w5 fun v23 w7 =>
            Ret c.P c.f_slices_Equal_sl_int_int #[v12, v23] w7 fun v24 w8 =>
            k0 [v24] w8)
          (k0 [(.bool false)] w5))
      (k0 [(.bool false)] w5)) fun s0 j0 w6 =>
  R (g s0 0) w6

/-- beadlayer/farm.LeastLate -/
def wp_farm_LeastLate (c : Cfg) (a0 a1 a2 : Value) (w : World) (R : Value → World → Prop) : Prop :=
  newP c.t_api_Printer (Value.cells a0) w fun v3 w1 =>
  newP c.t_sl_api_Job (Value.cells a1) w1 fun v4 w2 =>
  newP c.t_int (Value.cells a2) w2 fun v5 w3 =>
  ldA 2 v3 w3 fun v12 =>
  semP c.P (Instr.buildSlice c.t_sl_api_Printer 1 #[(0, v12)]) w3 fun v13 w4 =>
  ld v4 w4 fun v14 =>
  Ret c.P c.f_farm_fault #[v13, v14] w4 fun v15 w5 =>
  binP .neq v15 (.int .i64 0) fun v17 =>
  condP v17
    (R (.tuple #[(.slice none 0 0), (.int .i64 0), v15]) w5)
    (ld v5 w5 fun v19 =>
      Ret c.P c.f_farm_isChange #[v19] w5 fun v20 w6 =>
      notP v20 fun v21 =>
      condP v21
        (R (.tuple #[(.slice none 0 0), (.int .i64 0), (.int .i64 1)]) w6)
        (ld v4 w6 fun v22 =>
          lenP v22 fun v23 =>
          binP .gtr v23 (.int .i64 7) fun v24 =>
          condP v24
            (R (.tuple #[(.slice none 0 0), (.int .i64 0), (.int .i64 2)]) w6)
            (newP c.t_sl_int #[(.slice none 0 0)] w6 fun v10 w7 =>
              newP c.t_int #[(.int .i64 0)] w7 fun v11 w8 =>
              st v11 (.int .i64 (-1)) w8 fun w9 =>
              ld v4 w9 fun v25 =>
              lenP v25 fun v26 =>
              Ret c.P c.f_farm_orders #[v26, (.func (.func c.f_farm_LeastLate_1) #[] #[v3, v4, v5, v11, v10])] w9 fun v28 w10 =>
              ld v10 w10.drew fun v29 =>
              ld v11 w10.drew fun v30 =>
              R (.tuple #[v29, v30, (.int .i64 0)]) w10.drew)))

/-- beadlayer/blref1.LeastLateOf -/
def wp_blref1_LeastLateOf (c : Cfg) (a0 a1 a2 : Value) (w : World) (R : Value → World → Prop) : Prop :=
  newP c.t_api_Printer (Value.cells a0) w fun v3 w1 =>
  newP c.t_sl_api_Job (Value.cells a1) w1 fun v4 w2 =>
  newP c.t_int (Value.cells a2) w2 fun v5 w3 =>
  newP c.t_sl_int #[(.slice none 0 0)] w3 fun v8 w4 =>
  newP c.t_int #[(.int .i64 0)] w4 fun v9 w5 =>
  st v9 (.int .i64 (-1)) w5 fun w6 =>
  newP c.t_func_sl_int_285 #[.nilFunc] w6 fun v10 w7 =>
  st v10 (.func (.func c.f_blref1_LeastLateOf_1) #[] #[v4, v3, v5, v9, v8, v10]) w7 fun w8 =>
  ld v10 w8 fun v12 =>
  callV c.P v12 #[(.slice none 0 0)] w8 fun v13 w9 =>
  ld v8 w9.drew fun v14 =>
  ld v9 w9.drew fun v15 =>
  R (.tuple #[v14, v15]) w9.drew

/-- (*beadlayer/blmake.Stream).Range -/
def wp_p_blmake_Stream_Range (c : Cfg) (a0 a1 a2 : Value) (w : World) (R : Value → World → Prop) : Prop :=
  binP .lss a2 a1 fun v9 =>
  condP v9
    (R a1 w)
    (binP .sub a2 a1 fun v15 =>
      binP .add v15 (.int .i64 1) fun v16 =>
      Ret c.P c.f_p_blmake_Stream_Next #[a0, v16] w fun v17 w1 =>
      binP .add a1 v17 fun v18 =>
      R v18 w1)

/-- (*beadlayer/blmake.Stream).Some -/
def wp_p_blmake_Stream_Some (c : Cfg) (a0 a1 : Value) (w : World) (R : Value → World → Prop) : Prop :=
  lenP a1 fun v8 =>
  Ret c.P c.f_p_blmake_Stream_Next #[a0, v8] w fun v9 w1 =>
  idxP 1 a1 v9 fun v10 =>
  ld v10 w1 fun v11 =>
  R v11 w1

/-- (*beadlayer/blmake.Stream).Next -/
def wp_p_blmake_Stream_Next (c : Cfg) (a0 a1 : Value) (w : World) (R : Value → World → Prop) : Prop :=
  nilP a0 fun v8 =>
  offP 1 v8 fun v9 =>
  ld v9 w fun v10 =>
  binP .add v10 (.int .i64 1) fun v11 =>
  nilP a0 fun v12 =>
  offP 1 v12 fun v13 =>
  st v13 v11 w fun w1 =>
  nilP a0 fun v15 =>
  offP 0 v15 fun v16 =>
  ld v16 w1 fun v17 =>
  lenP v17 fun v18 =>
  binP .eql v18 (.int .i64 0) fun v19 =>
  condP v19
    (nilP a0 fun v21 =>
      offP 1 v21 fun v22 =>
      ld v22 w1 fun v23 =>
      binP .mul v23 (.int .i64 7919) fun v24 =>
      Ret c.P c.f_blmake_Below #[v24, a1] w1 fun v26 w2 =>
      R v26 w2)
    (nilP a0 fun v28 =>
      offP 1 v28 fun v29 =>
      ld v29 w1.drew fun v30 =>
      binP .sub v30 (.int .i64 1) fun v31 =>
      nilP a0 fun v33 =>
      offP 0 v33 fun v34 =>
      ld v34 w1.drew fun v35 =>
      lenP v35 fun v36 =>
      binP .rem v31 v36 fun v37 =>
      nilP a0 fun v39 =>
      offP 1 v39 fun v40 =>
      ld v40 w1.drew.drew fun v41 =>
      binP .sub v41 (.int .i64 1) fun v42 =>
      nilP a0 fun v44 =>
      offP 0 v44 fun v45 =>
      ld v45 w1.drew.drew fun v46 =>
      lenP v46 fun v47 =>
      binP .quo v42 v47 fun v48 =>
      nilP a0 fun v50 =>
      offP 0 v50 fun v51 =>
      ld v51 w1.drew.drew fun v52 =>
      idxP 1 v52 v37 fun v54 =>
      ld v54 w1.drew.drew fun v55 =>
      Ret c.P c.f_blmake_Below #[v55, (.int .i64 1073741824)] w1.drew.drew fun v56 w3 =>
      binP .add (.int .i64 7919) v37 fun v59 =>
      binP .mul v48 v59 fun v60 =>
      binP .add v56 v60 fun v61 =>
      Ret c.P c.f_blmake_Below #[v61, a1] w3 fun v63 w4 =>
      R v63 w4)

/-- (*beadlayer/blmake.Stream).Pick -/
def wp_p_blmake_Stream_Pick (c : Cfg) (a0 a1 : Value) (w : World) (R : Value → World → Prop) : Prop :=
  lenP a1 fun v8 =>
  Ret c.P c.f_p_blmake_Stream_Next #[a0, v8] w fun v9 w1 =>
  idxP 1 a1 v9 fun v10 =>
  ld v10 w1 fun v11 =>
  R v11 w1

/-- (*beadlayer/blmake.Stream).Odd -/
def wp_p_blmake_Stream_Odd (c : Cfg) (a0 a1 a2 : Value) (w : World) (R : Value → World → Prop) : Prop :=
  Ret c.P c.f_p_blmake_Stream_Flip #[a0, (.int .i64 12)] w fun v8 w1 =>
  condP v8
    (binP .sub a1 (.int .i64 1) fun v11 =>
      binP .add a2 (.int .i64 1) fun v13 =>
      semP c.P (Instr.buildSlice c.t_sl_int 6 #[(0, v11), (1, v13), (2, a1), (3, a2), (4, (.int .i64 (-1099511627776))), (5, (.int .i64 1099511627776))]) w1 fun v16 w2 =>
      Ret c.P c.f_p_blmake_Stream_Pick #[a0, v16] w2 fun v17 w3 =>
      R v17 w3)
    (Ret c.P c.f_p_blmake_Stream_Range #[a0, a1, a2] w1 fun v21 w4 =>
      R v21 w4)

/-- beadlayer/blref1.PrintersFault -/
def wp_blref1_PrintersFault (c : Cfg) (a0 : Value) (w : World) (R : Value → World → Prop) : Prop :=
  lenP a0 fun v7 =>
  binP .eql v7 (.int .i64 0) fun v8 =>
  condP v8
    (R (.int .i64 8) w)
    (lenP a0 fun v11 =>
      binP .gtr v11 (.int .i64 50) fun v12 =>
      condP v12
        (R (.int .i64 2) w)
        (lenP a0 fun v14 =>
          loopP (fun nx0 s0 j0 w1 =>
            binP .lss (g s0 0) v14 fun v16 =>
            condP v16
              (idxP 2 a0 (g s0 0) fun v18 =>
                ldA 2 v18 w1 fun v19 =>
                newP c.t_api_Printer #[(.string (Bs [])), (.string (Bs []))] w1 fun v4 w2 =>
                stA 2 v4 v19 w2 fun w3 =>
                joinP (fun k1 =>
                  offP 0 v4 fun v21 =>
                  ld v21 w3 fun v22 =>
                  Ret c.P c.f_blref1_Key #[v22] w3 fun v23 w5 =>
                  notP v23 fun v24 =>
                  guardP v24 false
                    (offP 1 v4 fun v26 =>
                      ld v26 w5 fun v27 =>
                      Ret c.P c.f_blref1_Key #[v27] w5 fun v28 w6 =>
                      notP v28 fun v29 =>
                      k1 [v29] w6)
                    (k1 [(.bool true)] w5)) fun s1 j1 w4 =>
                condP (g s1 0)
                  (R (.int .i64 5) w4)
                  (joinP (fun k2 =>
                      binP .gtr (g s0 0) (.int .i64 0) fun v33 =>
                      guardP v33 true
                        (offP 0 v4 fun v35 =>
                          ld v35 w4.drew fun v36 =>
                          binP .sub (g s0 0) (.int .i64 1) fun v39 =>
                          idxP 2 a0 v39 fun v40 =>
                          offP 0 v40 fun v41 =>
                          ld v41 w4.drew fun v42 =>
                          binP .leq v36 v42 fun v43 =>
                          k2 [v43] w4.drew)
                        (k2 [(.bool false)] w4.drew)) fun s2 j2 w7 =>
                    condP (g s2 0)
                      (R (.int .i64 7) w7)
                      (binP .add (g s0 0) (.int .i64 1) fun v45 =>
                        nx0 [v45] w7)))
              (R (.int .i64 0) w1)) [(.int .i64 0)] w))

/-- beadlayer/blref1.JobsFault -/
def wp_blref1_JobsFault (c : Cfg) (a0 : Value) (w : World) (R : Value → World → Prop) : Prop :=
  lenP a0 fun v6 =>
  binP .gtr v6 (.int .i64 500) fun v7 =>
  condP v7
    (R (.int .i64 2) w)
    (lenP a0 fun v9 =>
      loopP (fun nx0 s0 j0 w1 =>
        binP .lss (g s0 0) v9 fun v11 =>
        condP v11
          (idxP 4 a0 (g s0 0) fun v13 =>
            ldA 4 v13 w1 fun v14 =>
            newP c.t_api_Job #[(.string (Bs [])), (.string (Bs [])), (.int .i64 0), (.int .i64 0)] w1 fun v4 w2 =>
            stA 4 v4 v14 w2 fun w3 =>
            joinP (fun k1 =>
              offP 0 v4 fun v16 =>
              ld v16 w3 fun v17 =>
              Ret c.P c.f_blref1_Key #[v17] w3 fun v18 w5 =>
              notP v18 fun v19 =>
              guardP v19 false
                (offP 1 v4 fun v21 =>
                  ld v21 w5 fun v22 =>
                  Ret c.P c.f_blref1_Key #[v22] w5 fun v23 w6 =>
                  notP v23 fun v24 =>
                  k1 [v24] w6)
                (k1 [(.bool true)] w5)) fun s1 j1 w4 =>
            condP (g s1 0)
              (R (.int .i64 5) w4)
              (joinP (fun k2 =>
                  offP 2 v4 fun v27 =>
                  ld v27 w4 fun v28 =>
                  Ret c.P c.f_blref1_in #[v28, (.int .i64 1), (.int .i64 100000)] w4 fun v29 w8 =>
                  notP v29 fun v30 =>
                  guardP v30 false
                    (offP 3 v4 fun v32 =>
                      ld v32 w8 fun v33 =>
                      Ret c.P c.f_blref1_in #[v33, (.int .i64 0), (.int .i64 1000000000)] w8 fun v34 w9 =>
                      notP v34 fun v35 =>
                      k2 [v35] w9)
                    (k2 [(.bool true)] w8)) fun s2 j2 w7 =>
                condP (g s2 0)
                  (R (.int .i64 1) w7)
                  (joinP (fun k3 =>
                      binP .gtr (g s0 0) (.int .i64 0) fun v39 =>
                      guardP v39 true
                        (offP 0 v4 fun v41 =>
                          ld v41 w7.drew fun v42 =>
                          binP .sub (g s0 0) (.int .i64 1) fun v45 =>
                          idxP 4 a0 v45 fun v46 =>
                          offP 0 v46 fun v47 =>
                          ld v47 w7.drew fun v48 =>
                          binP .leq v42 v48 fun v49 =>
                          k3 [v49] w7.drew)
                        (k3 [(.bool false)] w7.drew)) fun s3 j3 w10 =>
                    condP (g s3 0)
                      (R (.int .i64 7) w10)
                      (binP .add (g s0 0) (.int .i64 1) fun v51 =>
                        nx0 [v51] w10))))
          (R (.int .i64 0) w1)) [(.int .i64 0)] w)

/-- beadlayer/blref1.SpanFault -/
def wp_blref1_SpanFault (c : Cfg) (a0 a1 a2 : Value) (w : World) (R : Value → World → Prop) : Prop :=
  Ret c.P c.f_blref1_in #[a0, a1, a2] w fun v10 w1 =>
  notP v10 fun v11 =>
  condP v11
    (R (.int .i64 1) w1)
    (R (.int .i64 0) w1)

/-- beadlayer/farm.fault -/
def wp_farm_fault (c : Cfg) (a0 a1 : Value) (w : World) (R : Value → World → Prop) : Prop :=
  Ret c.P c.f_farm_CheckPrinters #[a0] w fun v7 w1 =>
  binP .neq v7 (.int .i64 0) fun v9 =>
  condP v9
    (R v7 w1)
    (Ret c.P c.f_farm_CheckJobs #[a1] w1 fun v12 w2 =>
      R v12 w2)

/-- beadlayer/farm.isChange -/
def wp_farm_isChange (c : Cfg) (a0 : Value) (w : World) (R : Value → World → Prop) : Prop :=
  Ret c.P c.f_kit_Outside #[a0, (.int .i64 0), (.int .i64 100000)] w fun v4 w1 =>
  notP v4 fun v5 =>
  R v5 w1

/-- (*beadlayer/farm.planner).try -/
def wp_p_farm_planner_try (c : Cfg) (a0 a1 a2 a3 a4 a5 : Value) (w : World) (R : Value → World → Prop) : Prop :=
  newP c.t_farm_clock (Value.cells a2) w fun v8 w1 =>
  joinP (fun k0 =>
    nilP a0 fun v18 =>
    offP 5 v18 fun v19 =>
    ld v19 w1 fun v20 =>
    pureP c.P (do eqGuard .neq c.t_sl_sl_int (.tmp 20) (.const (.slice none 0 0)) v20 (.slice none 0 0); binOp .neq c.t_sl_sl_int v20 (.slice none 0 0)) fun v21 =>
    guardP v21 true
      (nilP a0 fun v25 =>
        offP 6 v25 fun v26 =>
        ld v26 w1 fun v27 =>
        binP .gtr a4 v27 fun v28 =>
        k0 [v28] w1)
      (k0 [(.bool false)] w1)) fun s0 j0 w2 =>
  condP (g s0 0)
    (R (.tuple #[]) w2)
    (binP .eql a3 (.int .i64 0) fun v31 =>
      condP v31
        (Ret c.P c.f_p_farm_planner_better #[a0, a4, a5] w2 fun v35 w3 =>
          joinP (fun k1 => condP v35
            (nilP a0 fun v41 =>
              offP 6 v41 fun v42 =>
              st v42 a4 w3 fun w5 =>
              nilP a0 fun v43 =>
              offP 7 v43 fun v44 =>
              st v44 a5 w5 fun w6 =>
              nilP a0 fun v45 =>
              offP 5 v45 fun v46 =>
              st v46 (.slice none 0 0) w6 fun w7 =>
              nilP a0 fun v48 =>
              offP 3 v48 fun v49 =>
              ld v49 w7 fun v50 =>
              lenP v50 fun v51 =>
              loopP (fun nx2 s2 j2 w8 =>
                binP .lss (g s2 0) v51 fun v53 =>
                condP v53
                  (idxP 1 v50 (g s2 0) fun v54 =>
                    ld v54 w8 fun v55 =>
                    heldP fun S => S w8.drew ∧
                    nilP a0 fun v58 =>
                    offP 5 v58 fun v59 =>
                    ldS S v59 fun v60 =>
                    Ret c.P c.f_slices_Clone_sl_int_int #[v55] w8.drew fun v62 w9 => S w9 ∧
                    semP c.P (Instr.buildSlice c.t_sl_sl_int 1 #[(0, v62)]) w9 fun v63 w10 => S w10 ∧
                    semP c.P (Builtin.append_ #[c.t_sl_sl_int, c.t_sl_sl_int] c.t_sl_sl_int #[v60, v63]) w10 fun v64 w11 =>
                    nilP a0 fun v65 =>
                    offP 5 v65 fun v66 =>
                    st v66 v64 w11 fun w12 =>
                    binP .add (g s2 0) (.int .i64 1) fun v67 =>
                    nx2 [v67] w12)
                  (k1 [] w8)) [(.int .i64 0)] w7)
            (k1 [] w3)) fun s1 j1 w4 =>
          R (.tuple #[]) w4)
        (nilP a0 fun v69 =>
          offP 1 v69 fun v70 =>
          ld v70 w2 fun v71 =>
          lenP v71 fun v72 =>
          loopP (fun nx3 s3 j3 w13 =>
            binP .lss (g s3 0) v72 fun v74 =>
            condP v74
              (joinP (fun k4 =>
                  idxP 4 v71 (g s3 0) fun v76 =>
                  ldA 4 v76 w13 fun v77 =>
                  newP c.t_api_Job #[(.string (Bs [])), (.string (Bs [])), (.int .i64 0), (.int .i64 0)] w13 fun v15 w15 =>
                  stA 4 v15 v77 w15 fun w16 =>
                  nilP a0 fun v79 =>
                  offP 4 v79 fun v80 =>
                  ld v80 w16 fun v81 =>
                  idxP 1 v81 (g s3 0) fun v83 =>
                  ld v83 w16 fun v84 =>
                  condP v84
                    (k4 [] w16)
                    (joinP (fun k5 =>
                        heldP fun S => S w16.drew ∧
                        ldAS S 2 v8 fun v85 =>
                        ldAS S 4 v15 fun v86 =>
                        nilP a0 fun v88 =>
                        offP 2 v88 fun v89 =>
                        ldS S v89 fun v90 =>
                        (Ret c.P c.f_farm_clock_do #[v85, v86, v90] w16.drew fun v91 w18 => S w18 ∧
                          newP c.t_farm_clock #[(.int .i64 0), (.string (Bs []))] w18 fun v16 w19 => S w19 ∧
                          stA 2 v16 v91 w19 fun w20 =>
                          k5 [v16] w20)
                        ∧ (newP c.t_farm_clock #[(.int .i64 0), (.string (Bs []))] w16.drew fun v16_1 w21 => S w21 ∧
                          Ret c.P c.f_farm_clock_do #[v85, v86, v90] w21 fun v91_1 w22 => S w22 ∧
                          stA 2 v16_1 v91_1 w22 fun w23 =>
                          k5 [v16_1] w23)) fun s5 j5 w17 =>
                      nilP a0 fun v93 =>
                      offP 4 v93 fun v94 =>
                      ld v94 w17 fun v95 =>
                      idxP 1 v95 (g s3 0) fun v97 =>
                      st v97 (.bool true) w17 fun w24 =>
                      heldP fun S => S w24.drew ∧
                      nilP a0 fun v99 =>
                      offP 3 v99 fun v100 =>
                      ldS S v100 fun v101 =>
                      nilP a0 fun v104 =>
                      offP 3 v104 fun v105 =>
                      ldS S v105 fun v106 =>
                      idxP 1 v106 a1 fun v108 =>
                      ldS S v108 fun v109 =>
                      semP c.P (Instr.buildSlice c.t_sl_int 1 #[(0, (g s3 0))]) w24.drew fun v111 w25 => S w25 ∧
                      semP c.P (Builtin.append_ #[c.t_sl_int, c.t_sl_int] c.t_sl_int #[v109, v111]) w25 fun v112 w26 => S w26 ∧
                      idxP 1 v101 a1 fun v113 =>
                      st v113 v112 w26 fun w27 =>
                      ldA 2 (g s5 0) w27 fun v116 =>
                      binP .sub a3 (.int .i64 1) fun v118 =>
                      offP 0 (g s5 0) fun v120 =>
                      ld v120 w27 fun v121 =>
                      pureP c.P (Builtin.max_ #[c.t_int, c.t_int] c.t_int #[a4, v121]) fun v122 =>
                      offP 0 (g s5 0) fun v124 =>
                      ld v124 w27 fun v125 =>
                      binP .add a5 v125 fun v126 =>
                      Ret c.P c.f_p_farm_planner_try #[a0, a1, v116, v118, v122, v126] w27 fun v127 w28 =>
                      nilP a0 fun v129 =>
                      offP 3 v129 fun v130 =>
                      ld v130 w28.drew fun v131 =>
                      nilP a0 fun v134 =>
                      offP 3 v134 fun v135 =>
                      ld v135 w28.drew fun v136 =>
                      idxP 1 v136 a1 fun v138 =>
                      ld v138 w28.drew fun v139 =>
                      nilP a0 fun v141 =>
                      offP 3 v141 fun v142 =>
                      ld v142 w28.drew fun v143 =>
                      idxP 1 v143 a1 fun v145 =>
                      ld v145 w28.drew fun v146 =>
                      lenP v146 fun v147 =>
                      binP .sub v147 (.int .i64 1) fun v148 =>
                      pureP c.P (Instr.sliceAt c.t_sl_int v139 none (some v148) none) fun v149 =>
                      idxP 1 v131 a1 fun v150 =>
                      st v150 v149 w28.drew fun w29 =>
                      nilP a0 fun v152 =>
                      offP 4 v152 fun v153 =>
                      ld v153 w29 fun v154 =>
                      idxP 1 v154 (g s3 0) fun v156 =>
                      st v156 (.bool false) w29 fun w30 =>
                      k4 [] w30)) fun s4 j4 w14 =>
                binP .add (g s3 0) (.int .i64 1) fun v157 =>
                nx3 [v157] w14)
              (binP .add a1 (.int .i64 1) fun v159 =>
                nilP a0 fun v161 =>
                offP 0 v161 fun v162 =>
                ld v162 w13 fun v163 =>
                lenP v163 fun v164 =>
                binP .lss v159 v164 fun v165 =>
                joinP (fun k6 => condP v165
                  (binP .add a1 (.int .i64 1) fun v168 =>
                    nilP a0 fun v170 =>
                    offP 0 v170 fun v171 =>
                    ld v171 w13 fun v172 =>
                    binP .add a1 (.int .i64 1) fun v174 =>
                    idxP 2 v172 v174 fun v175 =>
                    offP 1 v175 fun v176 =>
                    ld v176 w13 fun v177 =>
                    pureP c.P (Instr.build c.t_farm_clock #[(0, (.int .i64 0)), (1, v177)]) fun v178 =>
                    Ret c.P c.f_p_farm_planner_try #[a0, v168, v178, a3, a4, a5] w13 fun v182 w32 =>
                    k6 [] w32)
                  (k6 [] w13)) fun s6 j6 w31 =>
                R (.tuple #[]) w31)) [(.int .i64 0)] w2))

/-- (beadlayer/farm.clock).do -/
def wp_farm_clock_do (c : Cfg) (a0 a1 a2 : Value) (w : World) (R : Value → World → Prop) : Prop :=
  newP c.t_farm_clock (Value.cells a0) w fun v3 w1 =>
  newP c.t_api_Job (Value.cells a1) w1 fun v4 w2 =>
  newP c.t_farm_clock #[(.int .i64 0), (.string (Bs []))] w2 fun v6 w3 =>
  offP 1 v3 fun v7 =>
  ld v7 w3 fun v8 =>
  offP 1 v4 fun v9 =>
  ld v9 w3 fun v10 =>
  binP .neq v8 v10 fun v11 =>
  joinP (fun k0 => condP v11
    (offP 0 v3 fun v12 =>
      ld v12 w3 fun v13 =>
      binP .add v13 a2 fun v15 =>
      offP 0 v3 fun v16 =>
      st v16 v15 w3 fun w5 =>
      k0 [] w5)
    (k0 [] w3)) fun s0 j0 w4 =>
  offP 0 v3 fun v17 =>
  ld v17 w4 fun v18 =>
  offP 2 v4 fun v19 =>
  ld v19 w4 fun v20 =>
  binP .add v18 v20 fun v21 =>
  offP 1 v4 fun v22 =>
  ld v22 w4 fun v23 =>
  pureP c.P (Instr.build c.t_farm_clock #[(0, v21), (1, v23)]) fun v24 =>
  stA 2 v6 v24 w4 fun w6 =>
  ldA 2 v6 w6 fun v6_1 =>
  R v6_1 w6

/-- beadlayer/blref1.EarliestOf$1 -/
def wp_blref1_EarliestOf_1 (c : Cfg) (a0 a1 a2 a3 a4 a5 a6 a7 a8 : Value) (w : World) (R : Value → World → Prop) : Prop :=
  ld a2 w fun v17 =>
  lenP v17 fun v18 =>
  pureP c.P (do eqGuard .shl c.t_int (.const (.int .i64 1)) (.tmp 18) (.int .i64 1) v18; binOp .shl c.t_int (.int .i64 1) v18) fun v19 =>
  binP .sub v19 (.int .i64 1) fun v20 =>
  binP .eql a1 v20 fun v21 =>
  condP v21
    (ld a3 w fun v23 =>
      ld a2 w fun v24 =>
      ld a4 w fun v26 =>
      Ret c.P c.f_blref1_EndsBy #[v23, v24, a0, v26] w fun v27 w1 =>
      exP 0 v27 fun v28 =>
      exP 1 v27 fun v29 =>
      joinP (fun k0 =>
        heldP fun S => S w1.drew ∧
        ldS S a5 fun v30 =>
        binP .lss v30 (.int .i64 0) fun v31 =>
        guardP v31 false
          (ldS S a5 fun v34 =>
            ldS S a6 fun v38 =>
            ldS S a7 fun v41 =>
            Ret c.P c.f_cmp_Compare_int #[v29, v34] w1.drew fun v35 w3 => S w3 ∧
            Ret c.P c.f_blref1_total #[v28] w3 fun v37 w4 => S w4 ∧
            Ret c.P c.f_cmp_Compare_int #[v37, v38] w4 fun v39 w5 => S w5 ∧
            Ret c.P c.f_slices_CompareFunc_sl_sl_int_sl_sl_int_sl_int_sl_int #[a0, v41, (.func (.func c.f_slices_Compare_sl_int_int) #[] #[])] w5 fun v42 w6 => S w6 ∧
            semP c.P (Instr.buildSlice c.t_sl_int 3 #[(0, v35), (1, v39), (2, v42)]) w6 fun v43 w7 => S w7 ∧
            Ret c.P c.f_cmp_Or_int #[v43] w7 fun v44 w8 => S w8 ∧
            binP .lss v44 (.int .i64 0) fun v45 =>
            k0 [v45] w8)
          (k0 [(.bool true)] w1.drew)) fun s0 j0 w2 =>
      joinP (fun k1 => condP (g s0 0)
        (Ret c.P c.f_blref1_total #[v28] w2 fun v50 w10 =>
          st a7 a0 w10 fun w11 =>
          st a5 v29 w11 fun w12 =>
          st a6 v50 w12 fun w13 =>
          k1 [] w13)
        (k1 [] w2)) fun s1 j1 w9 =>
      R (.tuple #[]) w9)
    (ld a3 w fun v51 =>
      lenP v51 fun v52 =>
      loopP (fun nx2 s2 j2 w14 =>
        binP .lss (g s2 0) v52 fun v54 =>
        condP v54
          (ld a2 w14 fun v56 =>
            lenP v56 fun v57 =>
            loopP (fun nx3 s3 j3 w15 =>
              binP .lss (g s3 0) v57 fun v59 =>
              condP v59
                (joinP (fun k4 =>
                    joinP (fun k5 =>
                      pureP c.P (do eqGuard .shr c.t_int (.tmp 61) (.tmp 62) a1 (g s3 0); binOp .shr c.t_int a1 (g s3 0)) fun v63 =>
                      binP .rem v63 (.int .i64 2) fun v64 =>
                      binP .eql v64 (.int .i64 0) fun v65 =>
                      guardP v65 true
                        (binP .add (g s2 0) (.int .i64 1) fun v69 =>
                          pureP c.P (Instr.sliceAt c.t_sl_sl_int a0 (some v69) none none) fun v70 =>
                          Ret c.P c.f_slices_ContainsFunc_sl_sl_int_sl_int #[v70, (.func (.func c.f_blref1_EarliestOf_1_1) #[] #[])] w15 fun v71 w18 =>
                          notP v71 fun v72 =>
                          k5 [v72] w18)
                        (k5 [(.bool false)] w15)) fun s5 j5 w17 =>
                    joinP (fun k6 => condP (g s5 0)
                      (Ret c.P c.f_slices_Clone_sl_sl_int_sl_int #[a0] w17 fun v75 w20 =>
                        idxP 1 a0 (g s2 0) fun v80 =>
                        ld v80 w20 fun v81 =>
                        Ret c.P c.f_slices_Clone_sl_int_int #[v81] w20 fun v82 w21 =>
                        semP c.P (Instr.buildSlice c.t_sl_int 1 #[(0, (g s3 0))]) w21 fun v84 w22 =>
                        semP c.P (Builtin.append_ #[c.t_sl_int, c.t_sl_int] c.t_sl_int #[v82, v84]) w22 fun v85 w23 =>
                        idxP 1 v75 (g s2 0) fun v86 =>
                        st v86 v85 w23 fun w24 =>
                        ld a8 w24.drew fun v87 =>
                        pureP c.P (do eqGuard .shl c.t_int (.const (.int .i64 1)) (.tmp 90) (.int .i64 1) (g s3 0); binOp .shl c.t_int (.int .i64 1) (g s3 0)) fun v91 =>
                        pureP c.P (do eqGuard .or c.t_int (.tmp 89) (.tmp 91) a1 v91; binOp .or c.t_int a1 v91) fun v92 =>
                        callV c.P v87 #[v75, v92] w24.drew fun v93 w25 =>
                        k6 [] w25)
                      (k6 [] w17)) fun s6 j6 w19 =>
                    k4 [] w19) fun s4 j4 w16 =>
                  binP .add (g s3 0) (.int .i64 1) fun v94 =>
                  nx3 [v94] w16)
                (binP .add (g s2 0) (.int .i64 1) fun v95 =>
                  nx2 [v95] w15)) [(.int .i64 0)] w14)
          (R (.tuple #[]) w14)) [(.int .i64 0)] w)

/-- beadlayer/blref1.EndsBy -/
def wp_blref1_EndsBy (c : Cfg) (a0 a1 a2 a3 : Value) (w : World) (R : Value → World → Prop) : Prop :=
  lenP a1 fun v17 =>
  semP c.P (Instr.makeSlice c.t_sl_int v17 v17) w fun v18 w1 =>
  lenP a2 fun v20 =>
  loopP (fun nx0 s0 j0 w2 =>
    binP .lss (g s0 1) v20 fun v22 =>
    condP v22
      (idxP 1 a2 (g s0 1) fun v24 =>
        ld v24 w2 fun v25 =>
        idxP 2 a0 (g s0 1) fun v28 =>
        ldA 2 v28 w2 fun v29 =>
        Ret c.P c.f_blref1_endsOn #[v29, a1, v25, a3] w2 fun v33 w3 =>
        lenP v33 fun v34 =>
        loopP (fun nx1 s1 j1 w4 =>
          binP .lss (g s1 1) v34 fun v36 =>
          condP v36
            (idxP 1 v33 (g s1 1) fun v38 =>
              ld v38 w4 fun v39 =>
              idxP 1 v25 (g s1 1) fun v43 =>
              ld v43 w4 fun v44 =>
              idxP 1 v18 v44 fun v46 =>
              st v46 v39 w4 fun w5 =>
              pureP c.P (Builtin.max_ #[c.t_int, c.t_int] c.t_int #[(g s1 0), v39]) fun v49 =>
              binP .add (g s1 1) (.int .i64 1) fun v50 =>
              nx1 [v49, v50] w5)
            (binP .add (g s0 1) (.int .i64 1) fun v51 =>
              nx0 [(g s1 0), v51] w4)) [(g s0 0), (.int .i64 0)] w3)
      (R (.tuple #[v18, (g s0 0)]) w2)) [(.int .i64 0), (.int .i64 0)] w1

/-- cmp.Or[int] -/
def wp_cmp_Or_int (c : Cfg) (a0 : Value) (w : World) (R : Value → World → Prop) : Prop :=
  lenP a0 fun v7 =>
  loopP (fun nx0 s0 j0 w1 =>
    binP .lss (g s0 0) v7 fun v9 =>
    condP v9
      (idxP 1 a0 (g s0 0) fun v10 =>
        ld v10 w1 fun v11 =>
        binP .neq v11 (.int .i64 0) fun v14 =>
        condP v14
          (R v11 w1)
          (binP .add (g s0 0) (.int .i64 1) fun v16 =>
            nx0 [v16] w1))
      (R (.int .i64 0) w1)) [(.int .i64 0)] w

/-- cmp.Compare[int] -/
def wp_cmp_Compare_int (c : Cfg) (a0 a1 : Value) (w : World) (R : Value → World → Prop) : Prop :=
  Ret c.P c.f_cmp_isNaN_int #[a0] w fun v8 w1 =>
  Ret c.P c.f_cmp_isNaN_int #[a1] w1 fun v10 w2 =>
  condP v8
    (condP v10
        (R (.int .i64 0) w2)
        (R (.int .i64 (-1)) w2))
    (condP v10
        (R (.int .i64 1) w2)
        (binP .lss a0 a1 fun v16 =>
          condP v16
            (R (.int .i64 (-1)) w2)
            (binP .gtr a0 a1 fun v19 =>
              condP v19
                (R (.int .i64 1) w2)
                (R (.int .i64 0) w2))))

/-- beadlayer/blref1.total -/
def wp_blref1_total (c : Cfg) (a0 : Value) (w : World) (R : Value → World → Prop) : Prop :=
  lenP a0 fun v7 =>
  loopP (fun nx0 s0 j0 w1 =>
    binP .lss (g s0 1) v7 fun v9 =>
    condP v9
      (idxP 1 a0 (g s0 1) fun v10 =>
        ld v10 w1 fun v11 =>
        binP .add (g s0 0) v11 fun v14 =>
        binP .add (g s0 1) (.int .i64 1) fun v15 =>
        nx0 [v14, v15] w1)
      (R (g s0 0) w1)) [(.int .i64 0), (.int .i64 0)] w

/-- slices.CompareFunc[[][]int,[][]int,[]int,[]int] -/
def wp_slices_CompareFunc_sl_sl_int_sl_sl_int_sl_int_sl_int (c : Cfg) (a0 a1 a2 : Value) (w : World) (R : Value → World → Prop) : Prop :=
  lenP a0 fun v12 =>
  loopP (fun nx0 s0 j0 w1 =>
    binP .lss (g s0 0) v12 fun v14 =>
    condP v14
      (idxP 1 a0 (g s0 0) fun v16 =>
        ld v16 w1 fun v17 =>
        lenP a1 fun v20 =>
        binP .geq (g s0 0) v20 fun v21 =>
        condP v21
          (R (.int .i64 1) w1)
          (idxP 1 a1 (g s0 0) fun v24 =>
            ld v24 w1 fun v25 =>
            callV c.P a2 #[v17, v25] w1 fun v29 w2 =>
            binP .neq v29 (.int .i64 0) fun v31 =>
            condP v31
              (R v29 w2)
              (binP .add (g s0 0) (.int .i64 1) fun v33 =>
                nx0 [v33] w2)))
      (lenP a0 fun v35 =>
        lenP a1 fun v37 =>
        binP .lss v35 v37 fun v38 =>
        condP v38
          (R (.int .i64 (-1)) w1)
          (R (.int .i64 0) w1))) [(.int .i64 0)] w

/-- slices.Compare[[]int,int] -/
def wp_slices_Compare_sl_int_int (c : Cfg) (a0 a1 : Value) (w : World) (R : Value → World → Prop) : Prop :=
  lenP a0 fun v10 =>
  loopP (fun nx0 s0 j0 w1 =>
    binP .lss (g s0 0) v10 fun v12 =>
    condP v12
      (idxP 1 a0 (g s0 0) fun v14 =>
        ld v14 w1 fun v15 =>
        lenP a1 fun v18 =>
        binP .geq (g s0 0) v18 fun v19 =>
        condP v19
          (R (.int .i64 1) w1)
          (idxP 1 a1 (g s0 0) fun v22 =>
            ld v22 w1 fun v23 =>
            Ret c.P c.f_cmp_Compare_int #[v15, v23] w1 fun v26 w2 =>
            binP .neq v26 (.int .i64 0) fun v28 =>
            condP v28
              (R v26 w2)
              (binP .add (g s0 0) (.int .i64 1) fun v30 =>
                nx0 [v30] w2)))
      (lenP a0 fun v32 =>
        lenP a1 fun v34 =>
        binP .lss v32 v34 fun v35 =>
        condP v35
          (R (.int .i64 (-1)) w1)
          (R (.int .i64 0) w1))) [(.int .i64 0)] w

/-- slices.ContainsFunc[[][]int,[]int] -/
def wp_slices_ContainsFunc_sl_sl_int_sl_int (c : Cfg) (a0 a1 : Value) (w : World) (R : Value → World → Prop) : Prop :=
  Ret c.P c.f_slices_IndexFunc_sl_sl_int_sl_int #[a0, a1] w fun v7 w1 =>
  binP .geq v7 (.int .i64 0) fun v8 =>
  R v8 w1

/-- beadlayer/blref1.EarliestOf$1$1 -/
def wp_blref1_EarliestOf_1_1 (c : Cfg) (a0 : Value) (w : World) (R : Value → World → Prop) : Prop :=
  lenP a0 fun v4 =>
  binP .gtr v4 (.int .i64 0) fun v5 =>
  R v5 w

/-- slices.Clone[[][]int,[]int] -/
def wp_slices_Clone_sl_sl_int_sl_int (c : Cfg) (a0 : Value) (w : World) (R : Value → World → Prop) : Prop :=
  pureP c.P (do eqGuard .eql c.t_sl_sl_int (.tmp 3) (.const (.slice none 0 0)) a0 (.slice none 0 0); binOp .eql c.t_sl_sl_int a0 (.slice none 0 0)) fun v4 =>
  condP v4
    (R (.slice none 0 0) w)
    (semP c.P (Instr.buildSlice c.t_sl_sl_int 0 #[]) w fun v5 w1 =>
      semP c.P (Builtin.append_ #[c.t_sl_sl_int, c.t_sl_sl_int] c.t_sl_sl_int #[v5, a0]) w1 fun v7 w2 =>
      R v7 w2)

/-- slices.Clone[[]int,int] -/
def wp_slices_Clone_sl_int_int (c : Cfg) (a0 : Value) (w : World) (R : Value → World → Prop) : Prop :=
  pureP c.P (do eqGuard .eql c.t_sl_int (.tmp 3) (.const (.slice none 0 0)) a0 (.slice none 0 0); binOp .eql c.t_sl_int a0 (.slice none 0 0)) fun v4 =>
  condP v4
    (R (.slice none 0 0) w)
    (semP c.P (Instr.buildSlice c.t_sl_int 0 #[]) w fun v5 w1 =>
      semP c.P (Builtin.append_ #[c.t_sl_int, c.t_sl_int] c.t_sl_int #[v5, a0]) w1 fun v7 w2 =>
      R v7 w2)

/-- beadlayer/blref1.endsOn -/
def wp_blref1_endsOn (c : Cfg) (a0 a1 a2 a3 : Value) (w : World) (R : Value → World → Prop) : Prop :=
  newP c.t_api_Printer (Value.cells a0) w fun v4 w1 =>
  lenP a2 fun v14 =>
  loopP (fun nx0 s0 j0 w2 =>
    binP .lss (g s0 2) v14 fun v16 =>
    condP v16
      (idxP 1 a2 (g s0 2) fun v17 =>
        ld v17 w2 fun v18 =>
        heldP fun S => S w2.drew ∧
        idxP 4 a1 v18 fun v22 =>
        offP 2 v22 fun v23 =>
        ldS S v23 fun v24 =>
        idxP 4 a1 v18 fun v28 =>
        offP 1 v28 fun v29 =>
        ldS S v29 fun v30 =>
        offP 1 v4 fun v31 =>
        ldS S v31 fun v32 =>
        binP .neq v30 v32 fun v33 =>
        Ret c.P c.f_blref1_truth #[v33] w2.drew fun v34 w3 => S w3 ∧
        binP .mul a3 v34 fun v35 =>
        binP .add v24 v35 fun v36 =>
        binP .add (g s0 1) v36 fun v37 =>
        idxP 4 a1 v18 fun v40 =>
        offP 1 v40 fun v41 =>
        ld v41 w3 fun v42 =>
        offP 1 v4 fun v43 =>
        st v43 v42 w3 fun w4 =>
        semP c.P (Instr.buildSlice c.t_sl_int 1 #[(0, v37)]) w4 fun v46 w5 =>
        semP c.P (Builtin.append_ #[c.t_sl_int, c.t_sl_int] c.t_sl_int #[(g s0 0), v46]) w5 fun v47 w6 =>
        binP .add (g s0 2) (.int .i64 1) fun v48 =>
        nx0 [v47, v37, v48] w6)
      (R (g s0 0) w2)) [(.slice none 0 0), (.int .i64 0), (.int .i64 0)] w1

/-- beadlayer/farm.Ends -/
def wp_farm_Ends (c : Cfg) (a0 a1 a2 a3 : Value) (w : World) (R : Value → World → Prop) : Prop :=
  Ret c.P c.f_farm_planned #[a0, a1, a2, a3] w fun v18 w1 =>
  binP .neq v18 (.int .i64 0) fun v20 =>
  condP v20
    (R (.tuple #[(.slice none 0 0), (.int .i64 0), v18]) w1)
    (Ret c.P c.f_farm_ends #[a0, a1, a2, a3] w1 fun v27 w2 =>
      exP 0 v27 fun v28 =>
      exP 1 v27 fun v29 =>
      R (.tuple #[v28, v29, (.int .i64 0)]) w2)

/-- beadlayer/farm.orders -/
def wp_farm_orders (c : Cfg) (a0 a1 : Value) (w : World) (R : Value → World → Prop) : Prop :=
  newP c.t_int (Value.cells a0) w fun v2 w1 =>
  newP c.t_func_sl_int_285 (Value.cells a1) w1 fun v3 w2 =>
  newP c.t_sl_int #[(.slice none 0 0)] w2 fun v4 w3 =>
  ld v2 w3 fun v7 =>
  semP c.P (Instr.makeSlice c.t_sl_bool v7 v7) w3 fun v8 w4 =>
  newP c.t_sl_bool #[(.slice none 0 0)] w4 fun v5 w5 =>
  st v5 v8 w5 fun w6 =>
  newP c.t_func_588 #[.nilFunc] w6 fun v6 w7 =>
  st v6 (.func (.func c.f_farm_orders_1) #[] #[v4, v2, v3, v5, v6]) w7 fun w8 =>
  ld v6 w8 fun v10 =>
  callV c.P v10 #[] w8 fun v11 w9 =>
  R (.tuple #[]) w9

/-- beadlayer/farm.LeastLate$1 -/
def wp_farm_LeastLate_1 (c : Cfg) (a0 a1 a2 a3 a4 a5 : Value) (w : World) (R : Value → World → Prop) : Prop :=
  offP 1 a1 fun v11 =>
  ld v11 w fun v12 =>
  pureP c.P (Instr.build c.t_farm_clock #[(0, (.int .i64 0)), (1, v12)]) fun v13 =>
  newP c.t_farm_clock #[(.int .i64 0), (.string (Bs []))] w fun v7 w1 =>
  stA 2 v7 v13 w1 fun w2 =>
  lenP a0 fun v15 =>
  loopP (fun nx0 s0 j0 w3 =>
    binP .lss (g s0 1) v15 fun v17 =>
    condP v17
      (idxP 1 a0 (g s0 1) fun v18 =>
        ld v18 w3 fun v19 =>
        heldP fun S => S w3.drew ∧
        ldAS S 2 v7 fun v20 =>
        ldS S a3 fun v25 =>
        ld a2 w3.drew fun v21 => S w3.drew ∧
        idxP 4 v21 v19 fun v23 =>
        ldAS S 4 v23 fun v24 =>
        Ret c.P c.f_farm_clock_do #[v20, v24, v25] w3.drew fun v26 w4 =>
        stA 2 v7 v26 w4 fun w5 =>
        offP 0 v7 fun v28 =>
        ld v28 w5.drew fun v29 =>
        ld a2 w5.drew fun v30 =>
        idxP 4 v30 v19 fun v32 =>
        offP 3 v32 fun v33 =>
        ld v33 w5.drew fun v34 =>
        binP .sub v29 v34 fun v35 =>
        pureP c.P (Builtin.max_ #[c.t_int, c.t_int] c.t_int #[(.int .i64 0), v35]) fun v36 =>
        binP .add (g s0 0) v36 fun v37 =>
        binP .add (g s0 1) (.int .i64 1) fun v38 =>
        nx0 [v37, v38] w5.drew)
      (joinP (fun k1 =>
          ld a4 w3 fun v39 =>
          binP .lss v39 (.int .i64 0) fun v40 =>
          guardP v40 false
            (ld a4 w3 fun v43 =>
              binP .lss (g s0 0) v43 fun v44 =>
              k1 [v44] w3)
            (k1 [(.bool true)] w3)) fun s1 j1 w6 =>
        joinP (fun k2 => condP (g s1 0)
          (Ret c.P c.f_slices_Clone_sl_int_int #[a0] w6 fun v47 w8 =>
            st a5 v47 w8 fun w9 =>
            st a4 (g s0 0) w9 fun w10 =>
            k2 [] w10)
          (k2 [] w6)) fun s2 j2 w7 =>
        R (.tuple #[]) w7)) [(.int .i64 0), (.int .i64 0)] w2

/-- beadlayer/blref1.LeastLateOf$1 -/
def wp_blref1_LeastLateOf_1 (c : Cfg) (a0 a1 a2 a3 a4 a5 a6 : Value) (w : World) (R : Value → World → Prop) : Prop :=
  lenP a0 fun v12 =>
  ld a1 w fun v13 =>
  lenP v13 fun v14 =>
  binP .eql v12 v14 fun v15 =>
  condP v15
    (ldA 2 a2 w fun v17 =>
      semP c.P (Instr.buildSlice c.t_sl_api_Printer 1 #[(0, v17)]) w fun v18 w1 =>
      ld a1 w1 fun v19 =>
      semP c.P (Instr.buildSlice c.t_sl_sl_int 1 #[(0, a0)]) w1 fun v21 w2 =>
      ld a3 w2 fun v22 =>
      Ret c.P c.f_blref1_LateBy #[v18, v19, v21, v22] w2 fun v23 w3 =>
      exP 0 v23 fun v24 =>
      exP 1 v23 fun v25 =>
      joinP (fun k0 =>
        ld a4 w3 fun v26 =>
        binP .lss v26 (.int .i64 0) fun v27 =>
        guardP v27 false
          (ld a4 w3 fun v30 =>
            binP .lss v24 v30 fun v31 =>
            k0 [v31] w3)
          (k0 [(.bool true)] w3)) fun s0 j0 w4 =>
      joinP (fun k1 => condP (g s0 0)
        (st a5 a0 w4 fun w6 =>
          st a4 v24 w6 fun w7 =>
          k1 [] w7)
        (k1 [] w4)) fun s1 j1 w5 =>
      R (.tuple #[]) w5)
    (ld a1 w fun v35 =>
      lenP v35 fun v36 =>
      loopP (fun nx2 s2 j2 w8 =>
        binP .lss (g s2 0) v36 fun v38 =>
        condP v38
          (joinP (fun k3 =>
              Ret c.P c.f_slices_Contains_sl_int_int #[a0, (g s2 0)] w8 fun v42 w10 =>
              notP v42 fun v43 =>
              joinP (fun k4 => condP v43
                (joinP (fun k5 =>
                    heldP fun S => S w10.drew ∧
                    ldS S a6 fun v44 =>
                    (Ret c.P c.f_slices_Clone_sl_int_int #[a0] w10.drew fun v46 w13 => S w13 ∧
                      semP c.P (Instr.buildSlice c.t_sl_int 1 #[(0, (g s2 0))]) w13 fun v48 w14 => S w14 ∧
                      semP c.P (Builtin.append_ #[c.t_sl_int, c.t_sl_int] c.t_sl_int #[v46, v48]) w14 fun v49 w15 => S w15 ∧
                      callV c.P v44 #[v49] w15 fun v50 w16 =>
                      k5 [] w16)
                    ∧ (semP c.P (Instr.buildSlice c.t_sl_int 1 #[(0, (g s2 0))]) w10.drew fun v48_1 w17 => S w17 ∧
                      Ret c.P c.f_slices_Clone_sl_int_int #[a0] w17 fun v46_1 w18 => S w18 ∧
                      semP c.P (Builtin.append_ #[c.t_sl_int, c.t_sl_int] c.t_sl_int #[v46_1, v48_1]) w18 fun v49_1 w19 => S w19 ∧
                      callV c.P v44 #[v49_1] w19 fun v50_1 w20 =>
                      k5 [] w20)) fun s5 j5 w12 =>
                  k4 [] w12)
                (k4 [] w10)) fun s4 j4 w11 =>
              k3 [] w11) fun s3 j3 w9 =>
            binP .add (g s2 0) (.int .i64 1) fun v51 =>
            nx2 [v51] w9)
          (R (.tuple #[]) w8)) [(.int .i64 0)] w)

/-- beadlayer/blref1.LateBy -/
def wp_blref1_LateBy (c : Cfg) (a0 a1 a2 a3 : Value) (w : World) (R : Value → World → Prop) : Prop :=
  Ret c.P c.f_blref1_EndsBy #[a0, a1, a2, a3] w fun v21 w1 =>
  exP 0 v21 fun v22 =>
  exP 1 v21 fun v23 =>
  lenP a1 fun v25 =>
  loopP (fun nx0 s0 j0 w2 =>
    binP .lss (g s0 2) v25 fun v27 =>
    condP v27
      (joinP (fun k1 =>
          idxP 4 a1 (g s0 2) fun v29 =>
          ldA 4 v29 w2 fun v30 =>
          newP c.t_api_Job #[(.string (Bs [])), (.string (Bs [])), (.int .i64 0), (.int .i64 0)] w2 fun v15 w4 =>
          stA 4 v15 v30 w4 fun w5 =>
          idxP 1 v22 (g s0 2) fun v33 =>
          ld v33 w5.drew fun v34 =>
          offP 3 v15 fun v35 =>
          ld v35 w5.drew fun v36 =>
          binP .gtr v34 v36 fun v37 =>
          joinP (fun k2 => condP v37
            (idxP 1 v22 (g s0 2) fun v41 =>
              ld v41 w5.drew.drew fun v42 =>
              offP 3 v15 fun v43 =>
              ld v43 w5.drew.drew fun v44 =>
              binP .sub v42 v44 fun v45 =>
              binP .add (g s0 0) v45 fun v46 =>
              offP 0 v15 fun v48 =>
              ld v48 w5.drew.drew fun v49 =>
              semP c.P (Instr.buildSlice c.t_sl_string 1 #[(0, v49)]) w5.drew.drew fun v50 w7 =>
              semP c.P (Builtin.append_ #[c.t_sl_string, c.t_sl_string] c.t_sl_string #[(g s0 1), v50]) w7 fun v51 w8 =>
              k2 [v46, v51] w8)
            (k2 [(g s0 0), (g s0 1)] w5.drew)) fun s2 j2 w6 =>
          k1 [(g s2 0), (g s2 1)] w6) fun s1 j1 w3 =>
        binP .add (g s0 2) (.int .i64 1) fun v52 =>
        nx0 [(g s1 0), (g s1 1), v52] w3)
      (R (.tuple #[(g s0 0), (g s0 1)]) w2)) [(.int .i64 0), (.slice none 0 0), (.int .i64 0)] w1

/-- slices.Contains[[]int,int] -/
def wp_slices_Contains_sl_int_int (c : Cfg) (a0 a1 : Value) (w : World) (R : Value → World → Prop) : Prop :=
  Ret c.P c.f_slices_Index_sl_int_int #[a0, a1] w fun v7 w1 =>
  binP .geq v7 (.int .i64 0) fun v8 =>
  R v8 w1

/-- beadlayer/blmake.Below -/
def wp_blmake_Below (c : Cfg) (a0 a1 : Value) (w : World) (R : Value → World → Prop) : Prop :=
  binP .lss a1 (.int .i64 1) fun v6 =>
  condP v6
    (R (.int .i64 0) w)
    (binP .rem a0 a1 fun v9 =>
      binP .lss v9 (.int .i64 0) fun v11 =>
      joinP (fun k0 => condP v11
        (binP .add v9 a1 fun v14 =>
          k0 [v14] w)
        (k0 [v9] w)) fun s0 j0 w1 =>
      R (g s0 0) w1)

/-- beadlayer/blref1.Key -/
def wp_blref1_Key (c : Cfg) (a0 : Value) (w : World) (R : Value → World → Prop) : Prop :=
  joinP (fun k0 =>
    lenStr a0 fun v4 =>
    Ret c.P c.f_blref1_in #[v4, (.int .i64 1), (.int .i64 40)] w fun v5 w2 =>
    guardP v5 true
      (pureP c.P (Instr.sliceAt c.t_string a0 none (some (.int .i64 1)) none) fun v8 =>
        Ret c.P c.f_strings_Contains #[(.string (Bs [97, 98, 99, 100, 101, 102, 103, 104, 105, 106, 107, 108, 109, 110, 111, 112, 113, 114, 115, 116, 117, 118, 119, 120, 121, 122])), v8] w2 fun v9 w3 =>
        guardP v9 true
          (Ret c.P c.f_strings_Trim #[a0, (.string (Bs [97, 98, 99, 100, 101, 102, 103, 104, 105, 106, 107, 108, 109, 110, 111, 112, 113, 114, 115, 116, 117, 118, 119, 120, 121, 122, 48, 49, 50, 51, 52, 53, 54, 55, 56, 57, 45, 95]))] w3 fun v13 w4 =>
            binP .eql v13 (.string (Bs [])) fun v14 =>
            k0 [v14] w4)
          (k0 [(.bool false)] w3))
      (k0 [(.bool false)] w2)) fun s0 j0 w1 =>
  R (g s0 0) w1

/-- beadlayer/blref1.in -/
def wp_blref1_in (c : Cfg) (a0 a1 a2 : Value) (w : World) (R : Value → World → Prop) : Prop :=
  joinP (fun k0 =>
    binP .leq a1 a0 fun v9 =>
    guardP v9 true
      (binP .leq a0 a2 fun v13 =>
        k0 [v13] w)
      (k0 [(.bool false)] w)) fun s0 j0 w1 =>
  R (g s0 0) w1

/-- beadlayer/farm.CheckPrinters -/
def wp_farm_CheckPrinters (c : Cfg) (a0 : Value) (w : World) (R : Value → World → Prop) : Prop :=
  lenP a0 fun v6 =>
  binP .eql v6 (.int .i64 0) fun v7 =>
  condP v7
    (R (.int .i64 8) w)
    (lenP a0 fun v9 =>
      binP .gtr v9 (.int .i64 50) fun v10 =>
      condP v10
        (R (.int .i64 2) w)
        (lenP a0 fun v12 =>
          loopP (fun nx0 s0 j0 w1 =>
            binP .lss (g s0 0) v12 fun v14 =>
            condP v14
              (idxP 2 a0 (g s0 0) fun v16 =>
                ldA 2 v16 w1 fun v17 =>
                newP c.t_api_Printer #[(.string (Bs [])), (.string (Bs []))] w1 fun v4 w2 =>
                stA 2 v4 v17 w2 fun w3 =>
                joinP (fun k1 =>
                  offP 0 v4 fun v18 =>
                  ld v18 w3 fun v19 =>
                  Ret c.P c.f_kit_IsKey #[v19] w3 fun v20 w5 =>
                  notP v20 fun v21 =>
                  guardP v21 false
                    (offP 1 v4 fun v23 =>
                      ld v23 w5 fun v24 =>
                      Ret c.P c.f_kit_IsKey #[v24] w5 fun v25 w6 =>
                      notP v25 fun v26 =>
                      k1 [v26] w6)
                    (k1 [(.bool true)] w5)) fun s1 j1 w4 =>
                condP (g s1 0)
                  (R (.int .i64 5) w4)
                  (joinP (fun k2 =>
                      binP .gtr (g s0 0) (.int .i64 0) fun v29 =>
                      guardP v29 true
                        (offP 0 v4 fun v31 =>
                          ld v31 w4.drew fun v32 =>
                          binP .sub (g s0 0) (.int .i64 1) fun v35 =>
                          idxP 2 a0 v35 fun v36 =>
                          offP 0 v36 fun v37 =>
                          ld v37 w4.drew fun v38 =>
                          binP .leq v32 v38 fun v39 =>
                          k2 [v39] w4.drew)
                        (k2 [(.bool false)] w4.drew)) fun s2 j2 w7 =>
                    condP (g s2 0)
                      (R (.int .i64 7) w7)
                      (binP .add (g s0 0) (.int .i64 1) fun v41 =>
                        nx0 [v41] w7)))
              (R (.int .i64 0) w1)) [(.int .i64 0)] w))

/-- beadlayer/farm.CheckJobs -/
def wp_farm_CheckJobs (c : Cfg) (a0 : Value) (w : World) (R : Value → World → Prop) : Prop :=
  lenP a0 fun v6 =>
  binP .gtr v6 (.int .i64 500) fun v7 =>
  condP v7
    (R (.int .i64 2) w)
    (lenP a0 fun v9 =>
      loopP (fun nx0 s0 j0 w1 =>
        binP .lss (g s0 0) v9 fun v11 =>
        condP v11
          (idxP 4 a0 (g s0 0) fun v13 =>
            ldA 4 v13 w1 fun v14 =>
            newP c.t_api_Job #[(.string (Bs [])), (.string (Bs [])), (.int .i64 0), (.int .i64 0)] w1 fun v4 w2 =>
            stA 4 v4 v14 w2 fun w3 =>
            joinP (fun k1 =>
              offP 0 v4 fun v16 =>
              ld v16 w3 fun v17 =>
              Ret c.P c.f_kit_IsKey #[v17] w3 fun v18 w5 =>
              notP v18 fun v19 =>
              guardP v19 false
                (offP 1 v4 fun v21 =>
                  ld v21 w5 fun v22 =>
                  Ret c.P c.f_kit_IsKey #[v22] w5 fun v23 w6 =>
                  notP v23 fun v24 =>
                  k1 [v24] w6)
                (k1 [(.bool true)] w5)) fun s1 j1 w4 =>
            condP (g s1 0)
              (R (.int .i64 5) w4)
              (joinP (fun k2 =>
                  offP 2 v4 fun v27 =>
                  ld v27 w4 fun v28 =>
                  Ret c.P c.f_kit_Outside #[v28, (.int .i64 1), (.int .i64 100000)] w4 fun v29 w8 =>
                  guardP v29 false
                    (offP 3 v4 fun v31 =>
                      ld v31 w8 fun v32 =>
                      Ret c.P c.f_kit_Outside #[v32, (.int .i64 0), (.int .i64 1000000000)] w8 fun v33 w9 =>
                      k2 [v33] w9)
                    (k2 [(.bool true)] w8)) fun s2 j2 w7 =>
                condP (g s2 0)
                  (R (.int .i64 1) w7)
                  (joinP (fun k3 =>
                      binP .gtr (g s0 0) (.int .i64 0) fun v37 =>
                      guardP v37 true
                        (offP 0 v4 fun v39 =>
                          ld v39 w7.drew fun v40 =>
                          binP .sub (g s0 0) (.int .i64 1) fun v43 =>
                          idxP 4 a0 v43 fun v44 =>
                          offP 0 v44 fun v45 =>
                          ld v45 w7.drew fun v46 =>
                          binP .leq v40 v46 fun v47 =>
                          k3 [v47] w7.drew)
                        (k3 [(.bool false)] w7.drew)) fun s3 j3 w10 =>
                    condP (g s3 0)
                      (R (.int .i64 7) w10)
                      (binP .add (g s0 0) (.int .i64 1) fun v49 =>
                        nx0 [v49] w10))))
          (R (.int .i64 0) w1)) [(.int .i64 0)] w)

/-- beadlayer/kit.Outside -/
def wp_kit_Outside (c : Cfg) (a0 a1 a2 : Value) (w : World) (R : Value → World → Prop) : Prop :=
  joinP (fun k0 =>
    binP .lss a0 a1 fun v9 =>
    guardP v9 false
      (binP .gtr a0 a2 fun v13 =>
        k0 [v13] w)
      (k0 [(.bool true)] w)) fun s0 j0 w1 =>
  R (g s0 0) w1

/-- (*beadlayer/farm.planner).better -/
def wp_p_farm_planner_better (c : Cfg) (a0 a1 a2 : Value) (w : World) (R : Value → World → Prop) : Prop :=
  nilP a0 fun v9 =>
  offP 5 v9 fun v10 =>
  ld v10 w fun v11 =>
  pureP c.P (do eqGuard .eql c.t_sl_sl_int (.tmp 11) (.const (.slice none 0 0)) v11 (.slice none 0 0); binOp .eql c.t_sl_sl_int v11 (.slice none 0 0)) fun v12 =>
  condP v12
    (R (.bool true) w)
    (heldP fun S => S w.drew ∧
      nilP a0 fun v15 =>
      offP 6 v15 fun v16 =>
      ldS S v16 fun v17 =>
      nilP a0 fun v21 =>
      offP 7 v21 fun v22 =>
      ldS S v22 fun v23 =>
      Ret c.P c.f_cmp_Compare_int #[a1, v17] w.drew fun v18 w1 => S w1 ∧
      Ret c.P c.f_cmp_Compare_int #[a2, v23] w1 fun v24 w2 => S w2 ∧
      semP c.P (Instr.buildSlice c.t_sl_int 2 #[(0, v18), (1, v24)]) w2 fun v25 w3 => S w3 ∧
      Ret c.P c.f_cmp_Or_int #[v25] w3 fun v26 w4 => S w4 ∧
      binP .neq v26 (.int .i64 0) fun v28 =>
      condP v28
        (binP .lss v26 (.int .i64 0) fun v30 =>
          R v30 w4)
        (heldP fun S => S w4.drew ∧
          nilP a0 fun v32 =>
          offP 3 v32 fun v33 =>
          ldS S v33 fun v34 =>
          nilP a0 fun v36 =>
          offP 5 v36 fun v37 =>
          ldS S v37 fun v38 =>
          Ret c.P c.f_slices_CompareFunc_sl_sl_int_sl_sl_int_sl_int_sl_int #[v34, v38, (.func (.func c.f_p_farm_planner_better_1) #[] #[])] w4.drew fun v39 w5 => S w5 ∧
          binP .lss v39 (.int .i64 0) fun v40 =>
          R v40 w5))

/-- cmp.isNaN[int] -/
def wp_cmp_isNaN_int (c : Cfg) (a0 : Value) (w : World) (R : Value → World → Prop) : Prop :=
  binP .neq a0 a0 fun v5 =>
  R v5 w

/-- slices.IndexFunc[[][]int,[]int] -/
def wp_slices_IndexFunc_sl_sl_int_sl_int (c : Cfg) (a0 a1 : Value) (w : World) (R : Value → World → Prop) : Prop :=
  lenP a0 fun v7 =>
  loopP (fun nx0 s0 j0 w1 =>
    binP .lss (g s0 0) v7 fun v9 =>
    condP v9
      (idxP 1 a0 (g s0 0) fun v14 =>
        ld v14 w1 fun v15 =>
        callV c.P a1 #[v15] w1 fun v16 w2 =>
        condP v16
          (R (g s0 0) w2)
          (binP .add (g s0 0) (.int .i64 1) fun v18 =>
            nx0 [v18] w2))
      (R (.int .i64 (-1)) w1)) [(.int .i64 0)] w

/-- beadlayer/blref1.truth -/
def wp_blref1_truth (c : Cfg) (a0 : Value) (w : World) (R : Value → World → Prop) : Prop :=
  condP a0
    (R (.int .i64 1) w)
    (R (.int .i64 0) w)

/-- beadlayer/farm.planned -/
def wp_farm_planned (c : Cfg) (a0 a1 a2 a3 : Value) (w : World) (R : Value → World → Prop) : Prop :=
  Ret c.P c.f_farm_CheckPlan #[a0, a1, a2] w fun v13 w1 =>
  binP .neq v13 (.int .i64 0) fun v15 =>
  condP v15
    (R v13 w1)
    (Ret c.P c.f_farm_isChange #[a3] w1 fun v18 w2 =>
      notP v18 fun v19 =>
      condP v19
        (R (.int .i64 1) w2)
        (R (.int .i64 0) w2))

/-- beadlayer/farm.ends -/
def wp_farm_ends (c : Cfg) (a0 a1 a2 a3 : Value) (w : World) (R : Value → World → Prop) : Prop :=
  lenP a1 fun v18 =>
  semP c.P (Instr.makeSlice c.t_sl_int v18 v18) w fun v19 w1 =>
  lenP a2 fun v21 =>
  loopP (fun nx0 s0 j0 w2 =>
    binP .lss (g s0 1) v21 fun v23 =>
    condP v23
      (idxP 1 a2 (g s0 1) fun v25 =>
        ld v25 w2 fun v26 =>
        idxP 2 a0 (g s0 1) fun v29 =>
        offP 1 v29 fun v30 =>
        ld v30 w2 fun v31 =>
        pureP c.P (Instr.build c.t_farm_clock #[(0, (.int .i64 0)), (1, v31)]) fun v32 =>
        newP c.t_farm_clock #[(.int .i64 0), (.string (Bs []))] w2 fun v14 w3 =>
        stA 2 v14 v32 w3 fun w4 =>
        lenP v26 fun v34 =>
        loopP (fun nx1 s1 j1 w5 =>
          binP .lss (g s1 1) v34 fun v36 =>
          condP v36
            (idxP 1 v26 (g s1 1) fun v37 =>
              ld v37 w5 fun v38 =>
              ldA 2 v14 w5.drew fun v39 =>
              idxP 4 a1 v38 fun v42 =>
              ldA 4 v42 w5.drew fun v43 =>
              Ret c.P c.f_farm_clock_do #[v39, v43, a3] w5.drew fun v45 w6 =>
              stA 2 v14 v45 w6 fun w7 =>
              offP 0 v14 fun v48 =>
              ld v48 w7 fun v49 =>
              idxP 1 v19 v38 fun v50 =>
              st v50 v49 w7 fun w8 =>
              offP 0 v14 fun v52 =>
              ld v52 w8 fun v53 =>
              pureP c.P (Builtin.max_ #[c.t_int, c.t_int] c.t_int #[(g s1 0), v53]) fun v54 =>
              binP .add (g s1 1) (.int .i64 1) fun v55 =>
              nx1 [v54, v55] w8)
            (binP .add (g s0 1) (.int .i64 1) fun v56 =>
              nx0 [(g s1 0), v56] w5)) [(g s0 0), (.int .i64 0)] w4)
      (R (.tuple #[v19, (g s0 0)]) w2)) [(.int .i64 0), (.int .i64 0)] w1

/-- beadlayer/farm.orders$1 -/
def wp_farm_orders_1 (c : Cfg) (a0 a1 a2 a3 a4 : Value) (w : World) (R : Value → World → Prop) : Prop :=
  ld a0 w fun v6 =>
  lenP v6 fun v7 =>
  ld a1 w fun v8 =>
  binP .eql v7 v8 fun v9 =>
  condP v9
    (ld a2 w fun v10 =>
      ld a0 w fun v11 =>
      callV c.P v10 #[v11] w fun v12 w1 =>
      R (.tuple #[]) w1)
    (ld a1 w fun v13 =>
      loopP (fun nx0 s0 j0 w2 =>
        binP .lss (g s0 0) v13 fun v15 =>
        condP v15
          (joinP (fun k1 =>
              ld a3 w2 fun v17 =>
              idxP 1 v17 (g s0 0) fun v19 =>
              ld v19 w2 fun v20 =>
              notP v20 fun v21 =>
              joinP (fun k2 => condP v21
                (ld a3 w2 fun v22 =>
                  idxP 1 v22 (g s0 0) fun v24 =>
                  st v24 (.bool true) w2 fun w5 =>
                  ld a0 w5 fun v25 =>
                  semP c.P (Instr.buildSlice c.t_sl_int 1 #[(0, (g s0 0))]) w5 fun v27 w6 =>
                  semP c.P (Builtin.append_ #[c.t_sl_int, c.t_sl_int] c.t_sl_int #[v25, v27]) w6 fun v28 w7 =>
                  st a0 v28 w7 fun w8 =>
                  ld a4 w8 fun v29 =>
                  callV c.P v29 #[] w8 fun v30 w9 =>
                  ld a0 w9 fun v31 =>
                  ld a0 w9 fun v32 =>
                  lenP v32 fun v33 =>
                  binP .sub v33 (.int .i64 1) fun v34 =>
                  pureP c.P (Instr.sliceAt c.t_sl_int v31 none (some v34) none) fun v35 =>
                  st a0 v35 w9 fun w10 =>
                  ld a3 w10 fun v36 =>
                  idxP 1 v36 (g s0 0) fun v38 =>
                  st v38 (.bool false) w10 fun w11 =>
                  k2 [] w11)
                (k2 [] w2)) fun s2 j2 w4 =>
              k1 [] w4) fun s1 j1 w3 =>
            binP .add (g s0 0) (.int .i64 1) fun v39 =>
            nx0 [v39] w3)
          (R (.tuple #[]) w2)) [(.int .i64 0)] w)

/-- slices.Index[[]int,int] -/
def wp_slices_Index_sl_int_int (c : Cfg) (a0 a1 : Value) (w : World) (R : Value → World → Prop) : Prop :=
  lenP a0 fun v7 =>
  loopP (fun nx0 s0 j0 w1 =>
    binP .lss (g s0 0) v7 fun v9 =>
    condP v9
      (idxP 1 a0 (g s0 0) fun v14 =>
        ld v14 w1 fun v15 =>
        binP .eql a1 v15 fun v16 =>
        condP v16
          (R (g s0 0) w1)
          (binP .add (g s0 0) (.int .i64 1) fun v18 =>
            nx0 [v18] w1))
      (R (.int .i64 (-1)) w1)) [(.int .i64 0)] w

/-- strings.Contains -/
def wp_strings_Contains (c : Cfg) (a0 a1 : Value) (w : World) (R : Value → World → Prop) : Prop :=
  Ret c.P c.f_strings_Index #[a0, a1] w fun v7 w1 =>
  binP .geq v7 (.int .i64 0) fun v8 =>
  R v8 w1

/-- beadlayer/kit.IsKey -/
def wp_kit_IsKey (c : Cfg) (a0 : Value) (w : World) (R : Value → World → Prop) : Prop :=
  joinP (fun k0 =>
    binP .neq a0 (.string (Bs [])) fun v4 =>
    guardP v4 true
      (lenStr a0 fun v7 =>
        binP .leq v7 (.int .i64 40) fun v8 =>
        guardP v8 true
          (strIx a0 (.int .i64 0) fun v12 =>
            Ret c.P c.f_strings_IndexByte #[(.string (Bs [97, 98, 99, 100, 101, 102, 103, 104, 105, 106, 107, 108, 109, 110, 111, 112, 113, 114, 115, 116, 117, 118, 119, 120, 121, 122])), v12] w fun v13 w2 =>
            binP .geq v13 (.int .i64 0) fun v14 =>
            guardP v14 true
              (Ret c.P c.f_strings_Trim #[a0, (.string (Bs [97, 98, 99, 100, 101, 102, 103, 104, 105, 106, 107, 108, 109, 110, 111, 112, 113, 114, 115, 116, 117, 118, 119, 120, 121, 122, 48, 49, 50, 51, 52, 53, 54, 55, 56, 57, 45, 95]))] w2 fun v18 w3 =>
                binP .eql v18 (.string (Bs [])) fun v19 =>
                k0 [v19] w3)
              (k0 [(.bool false)] w2))
          (k0 [(.bool false)] w))
      (k0 [(.bool false)] w)) fun s0 j0 w1 =>
  R (g s0 0) w1

/-- (*beadlayer/farm.planner).better$1 -/
def wp_p_farm_planner_better_1 (c : Cfg) (a0 a1 : Value) (w : World) (R : Value → World → Prop) : Prop :=
  Ret c.P c.f_slices_Compare_sl_int_int #[a0, a1] w fun v7 w1 =>
  R v7 w1

/-- beadlayer/farm.CheckPlan -/
def wp_farm_CheckPlan (c : Cfg) (a0 a1 a2 : Value) (w : World) (R : Value → World → Prop) : Prop :=
  Ret c.P c.f_farm_fault #[a0, a1] w fun v15 w1 =>
  binP .neq v15 (.int .i64 0) fun v17 =>
  condP v17
    (R v15 w1)
    (lenP a2 fun v20 =>
      lenP a0 fun v22 =>
      binP .neq v20 v22 fun v23 =>
      condP v23
        (R (.int .i64 3) w1)
        (lenP a1 fun v25 =>
          semP c.P (Instr.makeSlice c.t_sl_bool v25 v25) w1 fun v26 w2 =>
          lenP a2 fun v28 =>
          loopP (fun nx0 s0 j0 w3 =>
            binP .lss (g s0 0) v28 fun v30 =>
            condP v30
              (idxP 1 a2 (g s0 0) fun v31 =>
                ld v31 w3 fun v32 =>
                lenP v32 fun v34 =>
                loopP (fun nx1 s1 j1 w4 =>
                  binP .lss (g s1 0) v34 fun v36 =>
                  condP v36
                    (idxP 1 v32 (g s1 0) fun v37 =>
                      ld v37 w4 fun v38 =>
                      joinP (fun k2 =>
                        binP .lss v38 (.int .i64 0) fun v40 =>
                        guardP v40 false
                          (lenP a1 fun v44 =>
                            binP .geq v38 v44 fun v45 =>
                            k2 [v45] w4)
                          (k2 [(.bool true)] w4)) fun s2 j2 w5 =>
                      condP (g s2 0)
                        (R (.int .i64 1) w5)
                        (idxP 1 v26 v38 fun v49 =>
                          ld v49 w5 fun v50 =>
                          condP v50
                            (R (.int .i64 6) w5)
                            (idxP 1 v26 v38 fun v53 =>
                              st v53 (.bool true) w5 fun w6 =>
                              binP .add (g s1 0) (.int .i64 1) fun v54 =>
                              nx1 [v54] w6)))
                    (binP .add (g s0 0) (.int .i64 1) fun v55 =>
                      nx0 [v55] w4)) [(.int .i64 0)] w3)
              (Ret c.P c.f_slices_Contains_sl_bool_bool #[v26, (.bool false)] w3 fun v57 w7 =>
                condP v57
                  (R (.int .i64 8) w7)
                  (R (.int .i64 0) w7))) [(.int .i64 0)] w2))

/-- strings.Index -/
def wp_strings_Index (c : Cfg) (a0 a1 : Value) (w : World) (R : Value → World → Prop) : Prop :=
  Ret c.P c.f_internal_stringslite_Index #[a0, a1] w fun v7 w1 =>
  R v7 w1

/-- strings.trimLeftByte -/
def wp_strings_trimLeftByte (c : Cfg) (a0 a1 : Value) (w : World) (R : Value → World → Prop) : Prop :=
  loopP (fun nx0 s0 j0 w1 =>
    joinP (fun k1 =>
      lenStr (g s0 0) fun v6 =>
      binP .gtr v6 (.int .i64 0) fun v7 =>
      guardP v7 true
        (strIx (g s0 0) (.int .i64 0) fun v10 =>
          binP .eql v10 a1 fun v12 =>
          k1 [v12] w1)
        (k1 [(.bool false)] w1)) fun s1 j1 w2 =>
    condP (g s1 0)
      (pureP c.P (Instr.sliceAt c.t_string (g s0 0) (some (.int .i64 1)) none none) fun v15 =>
        nx0 [v15] w2)
      (R (g s0 0) w2)) [a0] w

/-- strings.trimRightByte -/
def wp_strings_trimRightByte (c : Cfg) (a0 a1 : Value) (w : World) (R : Value → World → Prop) : Prop :=
  loopP (fun nx0 s0 j0 w1 =>
    joinP (fun k1 =>
      lenStr (g s0 0) fun v6 =>
      binP .gtr v6 (.int .i64 0) fun v7 =>
      guardP v7 true
        (lenStr (g s0 0) fun v11 =>
          binP .sub v11 (.int .i64 1) fun v12 =>
          strIx (g s0 0) v12 fun v13 =>
          binP .eql v13 a1 fun v15 =>
          k1 [v15] w1)
        (k1 [(.bool false)] w1)) fun s1 j1 w2 =>
    condP (g s1 0)
      (lenStr (g s0 0) fun v19 =>
        binP .sub v19 (.int .i64 1) fun v20 =>
        pureP c.P (Instr.sliceAt c.t_string (g s0 0) none (some v20) none) fun v21 =>
        nx0 [v21] w2)
      (R (g s0 0) w2)) [a0] w

/-- strings.trimLeftASCII -/
def wp_strings_trimLeftASCII (c : Cfg) (a0 a1 : Value) (w : World) (R : Value → World → Prop) : Prop :=
  joinP (fun k0 =>
    loopP (fun nx1 s1 j1 w2 =>
      lenStr (g s1 0) fun v6 =>
      binP .gtr v6 (.int .i64 0) fun v7 =>
      condP v7
        (strIx (g s1 0) (.int .i64 0) fun v10 =>
          Ret c.P c.f_p_strings_asciiSet_contains #[a1, v10] w2 fun v11 w3 =>
          notP v11 fun v12 =>
          condP v12
            (k0 [(g s1 0)] w3)
            (pureP c.P (Instr.sliceAt c.t_string (g s1 0) (some (.int .i64 1)) none none) fun v14 =>
              nx1 [v14] w3))
        (k0 [(g s1 0)] w2)) [a0] w) fun s0 j0 w1 =>
  R (g s0 0) w1

/-- strings.trimRightASCII -/
def wp_strings_trimRightASCII (c : Cfg) (a0 a1 : Value) (w : World) (R : Value → World → Prop) : Prop :=
  joinP (fun k0 =>
    loopP (fun nx1 s1 j1 w2 =>
      lenStr (g s1 0) fun v6 =>
      binP .gtr v6 (.int .i64 0) fun v7 =>
      condP v7
        (lenStr (g s1 0) fun v11 =>
          binP .sub v11 (.int .i64 1) fun v12 =>
          strIx (g s1 0) v12 fun v13 =>
          Ret c.P c.f_p_strings_asciiSet_contains #[a1, v13] w2 fun v14 w3 =>
          notP v14 fun v15 =>
          condP v15
            (k0 [(g s1 0)] w3)
            (lenStr (g s1 0) fun v18 =>
              binP .sub v18 (.int .i64 1) fun v19 =>
              pureP c.P (Instr.sliceAt c.t_string (g s1 0) none (some v19) none) fun v20 =>
              nx1 [v20] w3))
        (k0 [(g s1 0)] w2)) [a0] w) fun s0 j0 w1 =>
  R (g s0 0) w1

/-- strings.IndexByte -/
def wp_strings_IndexByte (c : Cfg) (a0 a1 : Value) (w : World) (R : Value → World → Prop) : Prop :=
  Ret c.P c.f_internal_stringslite_IndexByte #[a0, a1] w fun v7 w1 =>
  R v7 w1

/-- slices.Contains[[]bool,bool] -/
def wp_slices_Contains_sl_bool_bool (c : Cfg) (a0 a1 : Value) (w : World) (R : Value → World → Prop) : Prop :=
  Ret c.P c.f_slices_Index_sl_bool_bool #[a0, a1] w fun v7 w1 =>
  binP .geq v7 (.int .i64 0) fun v8 =>
  R v8 w1

/-- internal/stringslite.Index -/
def wp_internal_stringslite_Index (c : Cfg) (a0 a1 : Value) (w : World) (R : Value → World → Prop) : Prop :=
  lenStr a1 fun v15 =>
  joinP (fun k0 =>
    binP .eql v15 (.int .i64 0) fun v18 =>
    guardP v18 false
      (binP .eql a1 a0 fun v22 =>
        k0 [v22] w)
      (k0 [(.bool true)] w)) fun s0 j0 w1 =>
  condP (g s0 0)
    (R (.int .i64 0) w1)
    (binP .eql v15 (.int .i64 1) fun v26 =>
      condP v26
        (strIx a1 (.int .i64 0) fun v29 =>
          Ret c.P c.f_internal_stringslite_IndexByte #[a0, v29] w1 fun v30 w2 =>
          R v30 w2)
        (lenStr a0 fun v34 =>
          binP .geq v15 v34 fun v35 =>
          condP v35
            (R (.int .i64 (-1)) w1)
            (joinP (fun k1 =>
                ld (.pointer (some ⟨0, 0, none⟩)) w1 fun v38 =>
                binP .leq v15 v38 fun v39 =>
                guardP v39 true
                  (lenStr a0 fun v42 =>
                    binP .leq v42 (.int .i64 64) fun v43 =>
                    k1 [v43] w1)
                  (k1 [(.bool false)] w1)) fun s1 j1 w3 =>
              condP (g s1 0)
                (Ret c.P c.f_internal_bytealg_IndexString #[a0, a1] w3 fun v47 w4 =>
                  R v47 w4)
                (strIx a1 (.int .i64 0) fun v49 =>
                  strIx a1 (.int .i64 1) fun v51 =>
                  lenStr a0 fun v53 =>
                  binP .sub v53 v15 fun v55 =>
                  binP .add v55 (.int .i64 1) fun v56 =>
                  loopP (fun nx2 s2 j2 w5 =>
                    binP .lss (g s2 0) v56 fun v59 =>
                    condP v59
                      (strIx a0 (g s2 0) fun v62 =>
                        binP .neq v62 v49 fun v64 =>
                        joinP (fun k3 => condP v64
                          (binP .add (g s2 0) (.int .i64 1) fun v67 =>
                            pureP c.P (Instr.sliceAt c.t_string a0 (some v67) (some v56) none) fun v69 =>
                            Ret c.P c.f_internal_stringslite_IndexByte #[v69, v49] w5 fun v71 w7 =>
                            binP .lss v71 (.int .i64 0) fun v73 =>
                            condP v73
                              (R (.int .i64 (-1)) w7)
                              (binP .add v71 (.int .i64 1) fun v76 =>
                                binP .add (g s2 0) v76 fun v77 =>
                                k3 [v77] w7))
                          (k3 [(g s2 0)] w5)) fun s3 j3 w6 =>
                        joinP (fun k4 =>
                          binP .add (g s3 0) (.int .i64 1) fun v80 =>
                          strIx a0 v80 fun v81 =>
                          binP .eql v81 v51 fun v83 =>
                          guardP v83 true
                            (binP .add (g s3 0) v15 fun v89 =>
                              pureP c.P (Instr.sliceAt c.t_string a0 (some (g s3 0)) (some v89) none) fun v90 =>
                              binP .eql v90 a1 fun v92 =>
                              k4 [v92] w6)
                            (k4 [(.bool false)] w6)) fun s4 j4 w8 =>
                        condP (g s4 0)
                          (R (g s3 0) w8)
                          (binP .add (g s3 0) (.int .i64 1) fun v96 =>
                            binP .add (g s2 1) (.int .i64 1) fun v98 =>
                            joinP (fun k5 =>
                              ld (.pointer (some ⟨0, 0, none⟩)) w8 fun v100 =>
                              binP .leq v15 v100 fun v101 =>
                              guardP v101 true
                                (Ret c.P c.f_internal_bytealg_Cutover #[v96] w8 fun v105 w10 =>
                                  binP .gtr v98 v105 fun v106 =>
                                  k5 [v106] w10)
                                (k5 [(.bool false)] w8)) fun s5 j5 w9 =>
                            condP (g s5 0)
                              (pureP c.P (Instr.sliceAt c.t_string a0 (some v96) none none) fun v110 =>
                                Ret c.P c.f_internal_bytealg_IndexString #[v110, a1] w9 fun v112 w11 =>
                                binP .geq v112 (.int .i64 0) fun v114 =>
                                condP v114
                                  (binP .add v112 v96 fun v117 =>
                                    R v117 w11)
                                  (R (.int .i64 (-1)) w11))
                              (joinP (fun k6 =>
                                  ld (.pointer (some ⟨0, 0, none⟩)) w9 fun v119 =>
                                  binP .gtr v15 v119 fun v120 =>
                                  guardP v120 true
                                    (pureP c.P (do eqGuard .shr c.t_int (.tmp 123) (.const (.int .u64 4)) v96 (.int .u64 4); binOp .shr c.t_int v96 (.int .u64 4)) fun v124 =>
                                      binP .add (.int .i64 4) v124 fun v125 =>
                                      binP .geq v98 v125 fun v126 =>
                                      guardP v126 true
                                        (binP .lss v96 v56 fun v131 =>
                                          k6 [v131] w9)
                                        (k6 [(.bool false)] w9))
                                    (k6 [(.bool false)] w9)) fun s6 j6 w12 =>
                                condP (g s6 0)
                                  (pureP c.P (Instr.sliceAt c.t_string a0 (some v96) none none) fun v135 =>
                                    Ret c.P c.f_internal_bytealg_IndexRabinKarp_string #[v135, a1] w12 fun v137 w13 =>
                                    binP .lss v137 (.int .i64 0) fun v139 =>
                                    condP v139
                                      (R (.int .i64 (-1)) w13)
                                      (binP .add v96 v137 fun v142 =>
                                        R v142 w13))
                                  (nx2 [v96, v98] w12))))
                      (R (.int .i64 (-1)) w5)) [(.int .i64 0), (.int .i64 0)] w3))))

/-- (*strings.asciiSet).contains -/
def wp_p_strings_asciiSet_contains (c : Cfg) (a0 a1 : Value) (w : World) (R : Value → World → Prop) : Prop :=
  nilP a0 fun v7 =>
  semP c.P (Instr.indexAt c.t_strings_asciiSet v7 a1) w fun v8 w1 =>
  ld v8 w1 fun v9 =>
  R v9 w1

/-- internal/stringslite.IndexByte -/
def wp_internal_stringslite_IndexByte (c : Cfg) (a0 a1 : Value) (w : World) (R : Value → World → Prop) : Prop :=
  Ret c.P c.f_internal_bytealg_IndexByteString #[a0, a1] w fun v7 w1 =>
  R v7 w1

/-- slices.Index[[]bool,bool] -/
def wp_slices_Index_sl_bool_bool (c : Cfg) (a0 a1 : Value) (w : World) (R : Value → World → Prop) : Prop :=
  lenP a0 fun v7 =>
  loopP (fun nx0 s0 j0 w1 =>
    binP .lss (g s0 0) v7 fun v9 =>
    condP v9
      (idxP 1 a0 (g s0 0) fun v14 =>
        ld v14 w1 fun v15 =>
        pureP c.P (do eqGuard .eql c.t_bool (.tmp 11) (.tmp 15) a1 v15; binOp .eql c.t_bool a1 v15) fun v16 =>
        condP v16
          (R (g s0 0) w1)
          (binP .add (g s0 0) (.int .i64 1) fun v18 =>
            nx0 [v18] w1))
      (R (.int .i64 (-1)) w1)) [(.int .i64 0)] w

/-- The functions of a program come to this. -/
structure Eqs (c : Cfg) : Prop where
  dummy : True
  bllaw1_PlansMade : ∀ (a0 : Value) (w : World) (R : Value → World → Prop), wp_bllaw1_PlansMade c a0 w R → Ret c.P c.f_bllaw1_PlansMade #[a0] w R
  p_blmake_Stream_PrinterList : ∀ (a0 a1 : Value) (w : World) (R : Value → World → Prop), wp_p_blmake_Stream_PrinterList c a0 a1 w R → Ret c.P c.f_p_blmake_Stream_PrinterList #[a0, a1] w R
  p_blmake_Stream_JobList : ∀ (a0 a1 : Value) (w : World) (R : Value → World → Prop), wp_p_blmake_Stream_JobList c a0 a1 w R → Ret c.P c.f_p_blmake_Stream_JobList #[a0, a1] w R
  p_blmake_Stream_ChangeTime : ∀ (a0 : Value) (w : World) (R : Value → World → Prop), wp_p_blmake_Stream_ChangeTime c a0 w R → Ret c.P c.f_p_blmake_Stream_ChangeTime #[a0] w R
  p_blmake_Stream_Flip : ∀ (a0 a1 : Value) (w : World) (R : Value → World → Prop), wp_p_blmake_Stream_Flip c a0 a1 w R → Ret c.P c.f_p_blmake_Stream_Flip #[a0, a1] w R
  cmp_Or_api_Errno : ∀ (a0 : Value) (w : World) (R : Value → World → Prop), wp_cmp_Or_api_Errno c a0 w R → Ret c.P c.f_cmp_Or_api_Errno #[a0] w R
  blref1_FarmFault : ∀ (a0 a1 : Value) (w : World) (R : Value → World → Prop), wp_blref1_FarmFault c a0 a1 w R → Ret c.P c.f_blref1_FarmFault #[a0, a1] w R
  blref1_ChangeFault : ∀ (a0 : Value) (w : World) (R : Value → World → Prop), wp_blref1_ChangeFault c a0 w R → Ret c.P c.f_blref1_ChangeFault #[a0] w R
  farm_Earliest : ∀ (a0 a1 a2 : Value) (w : World) (R : Value → World → Prop), wp_farm_Earliest c a0 a1 a2 w R → Ret c.P c.f_farm_Earliest #[a0, a1, a2] w R
  farm_Greedy : ∀ (a0 a1 a2 : Value) (w : World) (R : Value → World → Prop), wp_farm_Greedy c a0 a1 a2 w R → Ret c.P c.f_farm_Greedy #[a0, a1, a2] w R
  blref1_EarliestOf : ∀ (a0 a1 a2 : Value) (w : World) (R : Value → World → Prop), wp_blref1_EarliestOf c a0 a1 a2 w R → Ret c.P c.f_blref1_EarliestOf #[a0, a1, a2] w R
  blref1_GreedyOf : ∀ (a0 a1 a2 : Value) (w : World) (R : Value → World → Prop), wp_blref1_GreedyOf c a0 a1 a2 w R → Ret c.P c.f_blref1_GreedyOf #[a0, a1, a2] w R
  slices_EqualFunc_sl_sl_int_sl_sl_int_sl_int_sl_int : ∀ (a0 a1 a2 : Value) (w : World) (R : Value → World → Prop), wp_slices_EqualFunc_sl_sl_int_sl_sl_int_sl_int_sl_int c a0 a1 a2 w R → Ret c.P c.f_slices_EqualFunc_sl_sl_int_sl_sl_int_sl_int_sl_int #[a0, a1, a2] w R
  slices_Equal_sl_int_int : ∀ (a0 a1 : Value) (w : World) (R : Value → World → Prop), wp_slices_Equal_sl_int_int c a0 a1 w R → Ret c.P c.f_slices_Equal_sl_int_int #[a0, a1] w R
  bllaw1_farmed : ∀ (_u : Unit) (w : World) (R : Value → World → Prop), wp_bllaw1_farmed c  w R → Ret c.P c.f_bllaw1_farmed #[] w R
  farm_LeastLate : ∀ (a0 a1 a2 : Value) (w : World) (R : Value → World → Prop), wp_farm_LeastLate c a0 a1 a2 w R → Ret c.P c.f_farm_LeastLate #[a0, a1, a2] w R
  blref1_LeastLateOf : ∀ (a0 a1 a2 : Value) (w : World) (R : Value → World → Prop), wp_blref1_LeastLateOf c a0 a1 a2 w R → Ret c.P c.f_blref1_LeastLateOf #[a0, a1, a2] w R
  p_blmake_Stream_Range : ∀ (a0 a1 a2 : Value) (w : World) (R : Value → World → Prop), wp_p_blmake_Stream_Range c a0 a1 a2 w R → Ret c.P c.f_p_blmake_Stream_Range #[a0, a1, a2] w R
  p_blmake_Stream_Some : ∀ (a0 a1 : Value) (w : World) (R : Value → World → Prop), wp_p_blmake_Stream_Some c a0 a1 w R → Ret c.P c.f_p_blmake_Stream_Some #[a0, a1] w R
  p_blmake_Stream_Next : ∀ (a0 a1 : Value) (w : World) (R : Value → World → Prop), wp_p_blmake_Stream_Next c a0 a1 w R → Ret c.P c.f_p_blmake_Stream_Next #[a0, a1] w R
  p_blmake_Stream_Pick : ∀ (a0 a1 : Value) (w : World) (R : Value → World → Prop), wp_p_blmake_Stream_Pick c a0 a1 w R → Ret c.P c.f_p_blmake_Stream_Pick #[a0, a1] w R
  p_blmake_Stream_Odd : ∀ (a0 a1 a2 : Value) (w : World) (R : Value → World → Prop), wp_p_blmake_Stream_Odd c a0 a1 a2 w R → Ret c.P c.f_p_blmake_Stream_Odd #[a0, a1, a2] w R
  blref1_PrintersFault : ∀ (a0 : Value) (w : World) (R : Value → World → Prop), wp_blref1_PrintersFault c a0 w R → Ret c.P c.f_blref1_PrintersFault #[a0] w R
  blref1_JobsFault : ∀ (a0 : Value) (w : World) (R : Value → World → Prop), wp_blref1_JobsFault c a0 w R → Ret c.P c.f_blref1_JobsFault #[a0] w R
  blref1_SpanFault : ∀ (a0 a1 a2 : Value) (w : World) (R : Value → World → Prop), wp_blref1_SpanFault c a0 a1 a2 w R → Ret c.P c.f_blref1_SpanFault #[a0, a1, a2] w R
  farm_fault : ∀ (a0 a1 : Value) (w : World) (R : Value → World → Prop), wp_farm_fault c a0 a1 w R → Ret c.P c.f_farm_fault #[a0, a1] w R
  farm_isChange : ∀ (a0 : Value) (w : World) (R : Value → World → Prop), wp_farm_isChange c a0 w R → Ret c.P c.f_farm_isChange #[a0] w R
  p_farm_planner_try : ∀ (a0 a1 a2 a3 a4 a5 : Value) (w : World) (R : Value → World → Prop), wp_p_farm_planner_try c a0 a1 a2 a3 a4 a5 w R → Ret c.P c.f_p_farm_planner_try #[a0, a1, a2, a3, a4, a5] w R
  farm_clock_do : ∀ (a0 a1 a2 : Value) (w : World) (R : Value → World → Prop), wp_farm_clock_do c a0 a1 a2 w R → Ret c.P c.f_farm_clock_do #[a0, a1, a2] w R
  blref1_EarliestOf_1 : ∀ (a0 a1 a2 a3 a4 a5 a6 a7 a8 : Value) (w : World) (R : Value → World → Prop), wp_blref1_EarliestOf_1 c a0 a1 a2 a3 a4 a5 a6 a7 a8 w R → Ret c.P c.f_blref1_EarliestOf_1 #[a0, a1, a2, a3, a4, a5, a6, a7, a8] w R
  blref1_EndsBy : ∀ (a0 a1 a2 a3 : Value) (w : World) (R : Value → World → Prop), wp_blref1_EndsBy c a0 a1 a2 a3 w R → Ret c.P c.f_blref1_EndsBy #[a0, a1, a2, a3] w R
  cmp_Or_int : ∀ (a0 : Value) (w : World) (R : Value → World → Prop), wp_cmp_Or_int c a0 w R → Ret c.P c.f_cmp_Or_int #[a0] w R
  cmp_Compare_int : ∀ (a0 a1 : Value) (w : World) (R : Value → World → Prop), wp_cmp_Compare_int c a0 a1 w R → Ret c.P c.f_cmp_Compare_int #[a0, a1] w R
  blref1_total : ∀ (a0 : Value) (w : World) (R : Value → World → Prop), wp_blref1_total c a0 w R → Ret c.P c.f_blref1_total #[a0] w R
  slices_CompareFunc_sl_sl_int_sl_sl_int_sl_int_sl_int : ∀ (a0 a1 a2 : Value) (w : World) (R : Value → World → Prop), wp_slices_CompareFunc_sl_sl_int_sl_sl_int_sl_int_sl_int c a0 a1 a2 w R → Ret c.P c.f_slices_CompareFunc_sl_sl_int_sl_sl_int_sl_int_sl_int #[a0, a1, a2] w R
  slices_Compare_sl_int_int : ∀ (a0 a1 : Value) (w : World) (R : Value → World → Prop), wp_slices_Compare_sl_int_int c a0 a1 w R → Ret c.P c.f_slices_Compare_sl_int_int #[a0, a1] w R
  slices_ContainsFunc_sl_sl_int_sl_int : ∀ (a0 a1 : Value) (w : World) (R : Value → World → Prop), wp_slices_ContainsFunc_sl_sl_int_sl_int c a0 a1 w R → Ret c.P c.f_slices_ContainsFunc_sl_sl_int_sl_int #[a0, a1] w R
  blref1_EarliestOf_1_1 : ∀ (a0 : Value) (w : World) (R : Value → World → Prop), wp_blref1_EarliestOf_1_1 c a0 w R → Ret c.P c.f_blref1_EarliestOf_1_1 #[a0] w R
  slices_Clone_sl_sl_int_sl_int : ∀ (a0 : Value) (w : World) (R : Value → World → Prop), wp_slices_Clone_sl_sl_int_sl_int c a0 w R → Ret c.P c.f_slices_Clone_sl_sl_int_sl_int #[a0] w R
  slices_Clone_sl_int_int : ∀ (a0 : Value) (w : World) (R : Value → World → Prop), wp_slices_Clone_sl_int_int c a0 w R → Ret c.P c.f_slices_Clone_sl_int_int #[a0] w R
  blref1_endsOn : ∀ (a0 a1 a2 a3 : Value) (w : World) (R : Value → World → Prop), wp_blref1_endsOn c a0 a1 a2 a3 w R → Ret c.P c.f_blref1_endsOn #[a0, a1, a2, a3] w R
  farm_Ends : ∀ (a0 a1 a2 a3 : Value) (w : World) (R : Value → World → Prop), wp_farm_Ends c a0 a1 a2 a3 w R → Ret c.P c.f_farm_Ends #[a0, a1, a2, a3] w R
  farm_orders : ∀ (a0 a1 : Value) (w : World) (R : Value → World → Prop), wp_farm_orders c a0 a1 w R → Ret c.P c.f_farm_orders #[a0, a1] w R
  farm_LeastLate_1 : ∀ (a0 a1 a2 a3 a4 a5 : Value) (w : World) (R : Value → World → Prop), wp_farm_LeastLate_1 c a0 a1 a2 a3 a4 a5 w R → Ret c.P c.f_farm_LeastLate_1 #[a0, a1, a2, a3, a4, a5] w R
  blref1_LeastLateOf_1 : ∀ (a0 a1 a2 a3 a4 a5 a6 : Value) (w : World) (R : Value → World → Prop), wp_blref1_LeastLateOf_1 c a0 a1 a2 a3 a4 a5 a6 w R → Ret c.P c.f_blref1_LeastLateOf_1 #[a0, a1, a2, a3, a4, a5, a6] w R
  blref1_LateBy : ∀ (a0 a1 a2 a3 : Value) (w : World) (R : Value → World → Prop), wp_blref1_LateBy c a0 a1 a2 a3 w R → Ret c.P c.f_blref1_LateBy #[a0, a1, a2, a3] w R
  slices_Contains_sl_int_int : ∀ (a0 a1 : Value) (w : World) (R : Value → World → Prop), wp_slices_Contains_sl_int_int c a0 a1 w R → Ret c.P c.f_slices_Contains_sl_int_int #[a0, a1] w R
  blmake_Below : ∀ (a0 a1 : Value) (w : World) (R : Value → World → Prop), wp_blmake_Below c a0 a1 w R → Ret c.P c.f_blmake_Below #[a0, a1] w R
  blref1_Key : ∀ (a0 : Value) (w : World) (R : Value → World → Prop), wp_blref1_Key c a0 w R → Ret c.P c.f_blref1_Key #[a0] w R
  blref1_in : ∀ (a0 a1 a2 : Value) (w : World) (R : Value → World → Prop), wp_blref1_in c a0 a1 a2 w R → Ret c.P c.f_blref1_in #[a0, a1, a2] w R
  farm_CheckPrinters : ∀ (a0 : Value) (w : World) (R : Value → World → Prop), wp_farm_CheckPrinters c a0 w R → Ret c.P c.f_farm_CheckPrinters #[a0] w R
  farm_CheckJobs : ∀ (a0 : Value) (w : World) (R : Value → World → Prop), wp_farm_CheckJobs c a0 w R → Ret c.P c.f_farm_CheckJobs #[a0] w R
  kit_Outside : ∀ (a0 a1 a2 : Value) (w : World) (R : Value → World → Prop), wp_kit_Outside c a0 a1 a2 w R → Ret c.P c.f_kit_Outside #[a0, a1, a2] w R
  p_farm_planner_better : ∀ (a0 a1 a2 : Value) (w : World) (R : Value → World → Prop), wp_p_farm_planner_better c a0 a1 a2 w R → Ret c.P c.f_p_farm_planner_better #[a0, a1, a2] w R
  cmp_isNaN_int : ∀ (a0 : Value) (w : World) (R : Value → World → Prop), wp_cmp_isNaN_int c a0 w R → Ret c.P c.f_cmp_isNaN_int #[a0] w R
  slices_IndexFunc_sl_sl_int_sl_int : ∀ (a0 a1 : Value) (w : World) (R : Value → World → Prop), wp_slices_IndexFunc_sl_sl_int_sl_int c a0 a1 w R → Ret c.P c.f_slices_IndexFunc_sl_sl_int_sl_int #[a0, a1] w R
  blref1_truth : ∀ (a0 : Value) (w : World) (R : Value → World → Prop), wp_blref1_truth c a0 w R → Ret c.P c.f_blref1_truth #[a0] w R
  farm_planned : ∀ (a0 a1 a2 a3 : Value) (w : World) (R : Value → World → Prop), wp_farm_planned c a0 a1 a2 a3 w R → Ret c.P c.f_farm_planned #[a0, a1, a2, a3] w R
  farm_ends : ∀ (a0 a1 a2 a3 : Value) (w : World) (R : Value → World → Prop), wp_farm_ends c a0 a1 a2 a3 w R → Ret c.P c.f_farm_ends #[a0, a1, a2, a3] w R
  farm_orders_1 : ∀ (a0 a1 a2 a3 a4 : Value) (w : World) (R : Value → World → Prop), wp_farm_orders_1 c a0 a1 a2 a3 a4 w R → Ret c.P c.f_farm_orders_1 #[a0, a1, a2, a3, a4] w R
  slices_Index_sl_int_int : ∀ (a0 a1 : Value) (w : World) (R : Value → World → Prop), wp_slices_Index_sl_int_int c a0 a1 w R → Ret c.P c.f_slices_Index_sl_int_int #[a0, a1] w R
  strings_Contains : ∀ (a0 a1 : Value) (w : World) (R : Value → World → Prop), wp_strings_Contains c a0 a1 w R → Ret c.P c.f_strings_Contains #[a0, a1] w R
  kit_IsKey : ∀ (a0 : Value) (w : World) (R : Value → World → Prop), wp_kit_IsKey c a0 w R → Ret c.P c.f_kit_IsKey #[a0] w R
  p_farm_planner_better_1 : ∀ (a0 a1 : Value) (w : World) (R : Value → World → Prop), wp_p_farm_planner_better_1 c a0 a1 w R → Ret c.P c.f_p_farm_planner_better_1 #[a0, a1] w R
  farm_CheckPlan : ∀ (a0 a1 a2 : Value) (w : World) (R : Value → World → Prop), wp_farm_CheckPlan c a0 a1 a2 w R → Ret c.P c.f_farm_CheckPlan #[a0, a1, a2] w R
  strings_Index : ∀ (a0 a1 : Value) (w : World) (R : Value → World → Prop), wp_strings_Index c a0 a1 w R → Ret c.P c.f_strings_Index #[a0, a1] w R
  strings_trimLeftByte : ∀ (a0 a1 : Value) (w : World) (R : Value → World → Prop), wp_strings_trimLeftByte c a0 a1 w R → Ret c.P c.f_strings_trimLeftByte #[a0, a1] w R
  strings_trimRightByte : ∀ (a0 a1 : Value) (w : World) (R : Value → World → Prop), wp_strings_trimRightByte c a0 a1 w R → Ret c.P c.f_strings_trimRightByte #[a0, a1] w R
  strings_trimLeftASCII : ∀ (a0 a1 : Value) (w : World) (R : Value → World → Prop), wp_strings_trimLeftASCII c a0 a1 w R → Ret c.P c.f_strings_trimLeftASCII #[a0, a1] w R
  strings_trimRightASCII : ∀ (a0 a1 : Value) (w : World) (R : Value → World → Prop), wp_strings_trimRightASCII c a0 a1 w R → Ret c.P c.f_strings_trimRightASCII #[a0, a1] w R
  strings_IndexByte : ∀ (a0 a1 : Value) (w : World) (R : Value → World → Prop), wp_strings_IndexByte c a0 a1 w R → Ret c.P c.f_strings_IndexByte #[a0, a1] w R
  slices_Contains_sl_bool_bool : ∀ (a0 a1 : Value) (w : World) (R : Value → World → Prop), wp_slices_Contains_sl_bool_bool c a0 a1 w R → Ret c.P c.f_slices_Contains_sl_bool_bool #[a0, a1] w R
  internal_stringslite_Index : ∀ (a0 a1 : Value) (w : World) (R : Value → World → Prop), wp_internal_stringslite_Index c a0 a1 w R → Ret c.P c.f_internal_stringslite_Index #[a0, a1] w R
  p_strings_asciiSet_contains : ∀ (a0 a1 : Value) (w : World) (R : Value → World → Prop), wp_p_strings_asciiSet_contains c a0 a1 w R → Ret c.P c.f_p_strings_asciiSet_contains #[a0, a1] w R
  internal_stringslite_IndexByte : ∀ (a0 a1 : Value) (w : World) (R : Value → World → Prop), wp_internal_stringslite_IndexByte c a0 a1 w R → Ret c.P c.f_internal_stringslite_IndexByte #[a0, a1] w R
  slices_Index_sl_bool_bool : ∀ (a0 a1 : Value) (w : World) (R : Value → World → Prop), wp_slices_Index_sl_bool_bool c a0 a1 w R → Ret c.P c.f_slices_Index_sl_bool_bool #[a0, a1] w R

end Go.Eng

