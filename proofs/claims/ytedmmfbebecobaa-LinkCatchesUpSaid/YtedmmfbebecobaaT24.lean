/-
  The functions' code in the evaluator's form, printed by a program of ours from the loaded program, and checked against it.
  Conditions: none.
-/
import Derived.Test.YtedmmfbebecobaaProg
import Derived.KernelRfl
import Derived.Test.YtedmmfbebecobaaEB
namespace Go.Proofs.Ytedmmfbebecobaa
open Go Go.E2
noncomputable section
abbrev f_main_main : FuncId := 0
abbrev f_gosem_cut : FuncId := 1
abbrev f_gosem_cut_init : FuncId := 2
abbrev f_quietuslaw24_LinkSendsAsSpecified : FuncId := 3
abbrev f_quietuslaw24_LinkReceivesOnce : FuncId := 4
abbrev f_quietuslaw24_LinkReceivesAsSpecified : FuncId := 5
abbrev f_quietuslaw24_LinkDeliversInOrder : FuncId := 6
abbrev f_quietuslaw24_LinkCatchesUp : FuncId := 7
abbrev f_quietuslaw24_fewOut : FuncId := 8
abbrev f_quietuslaw24_sanity : FuncId := 9
abbrev f_link_Put : FuncId := 10
abbrev f_link_Fold : FuncId := 11
abbrev f_link_Frames : FuncId := 12
abbrev f_link_Acknowledge : FuncId := 13
abbrev f_quietusref24_Put : FuncId := 14
abbrev f_quietusref24_Fold : FuncId := 15
abbrev f_quietusref24_Frames : FuncId := 16
abbrev f_quietusref24_Acknowledge : FuncId := 17
abbrev f_link_ValidOut : FuncId := 18
abbrev f_quietusref24_ValidOut : FuncId := 19
abbrev f_quietusref24_SameOut : FuncId := 20
abbrev f_quietusref24_SameFrames : FuncId := 21
abbrev f_link_ValidIn : FuncId := 22
abbrev f_link_Receive : FuncId := 23
abbrev f_quietusref24_SameIn : FuncId := 24
abbrev f_link_Restart : FuncId := 25
abbrev f_quietusref24_Receive : FuncId := 26
abbrev f_quietusref24_ValidIn : FuncId := 27
abbrev f_quietuslaw24_act : FuncId := 28
abbrev f_quietuslaw24_ordered : FuncId := 29
abbrev f_quietuslaw24_put : FuncId := 30
abbrev f_link_isBody : FuncId := 31
abbrev f_link_end : FuncId := 32
abbrev f_slices_Clone_string_string : FuncId := 33
abbrev f_link_frames : FuncId := 34
abbrev f_link_within_int : FuncId := 35
abbrev f_quietusref24_End : FuncId := 36
abbrev f_slices_ContainsFunc_string_string : FuncId := 37
abbrev f_link_ValidOut_1 : FuncId := 38
abbrev f_slices_BinarySearchFunc_api_Frame_api_Frame_int : FuncId := 39
abbrev f_link_Receive_1 : FuncId := 40
abbrev f_slices_Insert_api_Frame_api_Frame : FuncId := 41
abbrev f_slices_Clone_api_Frame_api_Frame : FuncId := 42
abbrev f_slices_DeleteFunc_api_Frame_api_Frame : FuncId := 43
abbrev f_link_Receive_2 : FuncId := 44
abbrev f_quietusref24_insert : FuncId := 45
abbrev f_quietuslaw24_message : FuncId := 46
abbrev f_quietuslaw24_summary : FuncId := 47
abbrev f_link_frames_1 : FuncId := 48
abbrev f_slices_IndexFunc_string_string : FuncId := 49
abbrev f_slices_overlaps_api_Frame : FuncId := 50
abbrev f_slices_rotateRight_api_Frame : FuncId := 51
abbrev f_slices_IndexFunc_api_Frame_api_Frame : FuncId := 52
abbrev f_slices_rotateLeft_api_Frame : FuncId := 53
abbrev f_slices_Reverse_api_Frame_api_Frame : FuncId := 54
abbrev f_runtime_boundsError_Error : FuncId := 55
abbrev f_runtime_boundsError_RuntimeError : FuncId := 56
abbrev f_runtime_errorString_Error : FuncId := 57
abbrev f_runtime_errorString_RuntimeError : FuncId := 58
abbrev f_runtime_plainError_Error : FuncId := 59
abbrev f_runtime_plainError_RuntimeError : FuncId := 60
abbrev f_runtime_errorAddressString_Error : FuncId := 61
abbrev f_runtime_errorAddressString_RuntimeError : FuncId := 62
abbrev f_runtime_TypeAssertionError_Error : FuncId := 63
abbrev f_runtime_TypeAssertionError_RuntimeError : FuncId := 64
abbrev f_runtime_PanicNilError_Error : FuncId := 65
abbrev f_runtime_PanicNilError_RuntimeError : FuncId := 66
abbrev f_internal_abi_Type_Align : FuncId := 67
abbrev f_internal_runtime_maps_unhashableTypeError_Error : FuncId := 68
abbrev f_internal_runtime_maps_unhashableTypeError_RuntimeError : FuncId := 69
abbrev f_internal_abi_Kind_String : FuncId := 70

-- loop 0: [0, 3, 4]
-- loop 1: [3, 5, 7]
abbrev quietuslaw24_LinkCatchesUp_r0 : List AI := [
  ⟨some 2, .mv true (.c (.bool false)), none⟩]
abbrev quietuslaw24_LinkCatchesUp_r1 : List AI := [
  ⟨some 15, .mv false (.t 0), none⟩,
  ⟨some 16, .len false (.t 15), none⟩,
  ⟨some 17, .bin .gtr (.t 16) (.c (.int .i64 100)), none⟩]
abbrev quietuslaw24_LinkCatchesUp_r2 : List AI := [
  ⟨some 18, .call (.c (.fn f_quietuslaw24_sanity)) [] 0, none⟩,
  ⟨some 2, .mv true (.t 18), none⟩]
abbrev quietuslaw24_LinkCatchesUp_r3 : List AI := [
  ⟨some 3, .alloc [(.int .i64 0), (.int .i64 0), (.str []), .nilS, (.int .i64 0), .nilS, .nilS, .nilS, .nilS, (.bool false)], none⟩]
abbrev quietuslaw24_LinkCatchesUp_r4 : List AI := [
  ⟨some 4, .mv true (.c (.int .i64 0)), none⟩]
abbrev quietuslaw24_LinkCatchesUp_r5 : List AI := [
  ⟨some 19, .mv false (.t 4), none⟩,
  ⟨some 20, .mv false (.t 0), none⟩,
  ⟨some 21, .len false (.t 20), none⟩,
  ⟨some 22, .bin .lss (.t 19) (.t 21), none⟩]
abbrev quietuslaw24_LinkCatchesUp_r6 : List AI := [
  ⟨some 25, .load true 10 (.t 3) (.site 3), none⟩,
  ⟨some 26, .mv false (.t 0), none⟩,
  ⟨some 27, .mv false (.t 4), none⟩,
  ⟨some 28, .iaddr 2 (.t 26) (.t 27), none⟩,
  ⟨some 29, .load true 2 (.t 28) .foreign, none⟩,
  ⟨some 30, .call (.c (.fn f_quietuslaw24_act)) [(.t 25), (.t 29)] 1, none⟩,
  ⟨none, .store 10 (.t 3) (.t 30) (.site 3), none⟩]
abbrev quietuslaw24_LinkCatchesUp_r7 : List AI := [
  ⟨some 23, .mv false (.t 4), none⟩,
  ⟨some 24, .bin .add (.t 23) (.c (.int .i64 1)), none⟩,
  ⟨some 4, .mv true (.t 24), none⟩]
abbrev quietuslaw24_LinkCatchesUp_l0 : ACode := .seq (.seq (.reg false quietuslaw24_LinkCatchesUp_r5) (.cond (.t 22) (.skip) (.exit 0))) (.seq (.block 1 (.reg true quietuslaw24_LinkCatchesUp_r6)) (.reg false quietuslaw24_LinkCatchesUp_r7))
abbrev quietuslaw24_LinkCatchesUp_r8 : List AI := [
  ⟨some 32, .faddr 0 (.t 3), none⟩,
  ⟨some 33, .load true 4 (.t 32) .any, none⟩,
  ⟨some 34, .call (.c (.fn f_link_Frames)) [(.t 33), (.c (.int .i64 1000))] 0, none⟩,
  ⟨some 31, .mv false (.t 34), none⟩,
  ⟨some 35, .ext (.t 31) 0, none⟩,
  ⟨some 36, .ext (.t 31) 1, none⟩,
  ⟨some 5, .mv true (.t 35), none⟩,
  ⟨some 6, .mv true (.t 36), none⟩]
abbrev quietuslaw24_LinkCatchesUp_r9 : List AI := [
  ⟨some 37, .faddr 9 (.t 3), none⟩,
  ⟨some 38, .load false 1 (.t 37) .any, none⟩,
  ⟨some 39, .mv false (.t 38), none⟩,
  ⟨some 40, .mv false (.t 6), some (39, false)⟩,
  ⟨some 41, .bin .neq (.t 40) (.c (.int .i64 0)), some (39, false)⟩,
  ⟨some 42, .pick (.t 39) (.c (.bool true)) (.t 41), none⟩]
abbrev quietuslaw24_LinkCatchesUp_r10 : List AI := [
  ⟨some 2, .mv true (.c (.bool false)), none⟩]
abbrev quietuslaw24_LinkCatchesUp_r11 : List AI := [
  ⟨some 7, .mv true (.c (.int .i64 0)), none⟩]
abbrev quietuslaw24_LinkCatchesUp_r12 : List AI := [
  ⟨some 43, .mv false (.t 7), none⟩,
  ⟨some 44, .mv false (.t 5), none⟩,
  ⟨some 45, .len false (.t 44), none⟩,
  ⟨some 46, .bin .lss (.t 43) (.t 45), none⟩]
abbrev quietuslaw24_LinkCatchesUp_r13 : List AI := [
  ⟨some 50, .faddr 4 (.t 3), none⟩,
  ⟨some 51, .load true 2 (.t 50) (.site 3), none⟩,
  ⟨some 52, .mv false (.t 5), none⟩,
  ⟨some 53, .mv false (.t 7), none⟩,
  ⟨some 54, .iaddr 3 (.t 52) (.t 53), none⟩,
  ⟨some 55, .load true 3 (.t 54) .foreign, none⟩,
  ⟨some 8, .alloc [(.int .i64 0), .nilS], none⟩,
  ⟨some 56, .call (.c (.fn f_link_Receive)) [(.t 51), (.t 55)] 1, none⟩,
  ⟨some 49, .mv false (.t 56), none⟩,
  ⟨some 57, .ext (.t 49) 0, none⟩,
  ⟨some 58, .ext (.t 49) 1, none⟩,
  ⟨some 59, .ext (.t 49) 2, none⟩,
  ⟨none, .store 2 (.t 8) (.t 57) (.site 8), none⟩,
  ⟨some 9, .mv true (.t 58), none⟩,
  ⟨some 10, .mv true (.t 59), none⟩]
abbrev quietuslaw24_LinkCatchesUp_r14 : List AI := [
  ⟨some 60, .mv false (.t 10), none⟩,
  ⟨some 61, .bin .neq (.t 60) (.c (.int .i64 0)), none⟩]
abbrev quietuslaw24_LinkCatchesUp_r15 : List AI := [
  ⟨some 2, .mv true (.c (.bool false)), none⟩]
abbrev quietuslaw24_LinkCatchesUp_r16 : List AI := [
  ⟨some 62, .load true 2 (.t 8) .any, none⟩,
  ⟨some 63, .faddr 4 (.t 3), none⟩,
  ⟨none, .store 2 (.t 63) (.t 62) .any, none⟩]
abbrev quietuslaw24_LinkCatchesUp_r17 : List AI := [
  ⟨some 64, .faddr 8 (.t 3), none⟩,
  ⟨some 65, .load false 1 (.t 64) .any, none⟩,
  ⟨some 66, .mv false (.t 9), none⟩,
  ⟨some 67, .appG 3 32 [(.bool false), (.int .i64 0), (.str [])] (.t 65) (.t 66), none⟩,
  ⟨some 68, .faddr 8 (.t 3), none⟩,
  ⟨none, .store 1 (.t 68) (.t 67) .any, none⟩]
abbrev quietuslaw24_LinkCatchesUp_r18 : List AI := [
  ⟨some 47, .mv false (.t 7), none⟩,
  ⟨some 48, .bin .add (.t 47) (.c (.int .i64 1)), none⟩,
  ⟨some 7, .mv true (.t 48), none⟩]
abbrev quietuslaw24_LinkCatchesUp_l1 : ACode := .seq (.seq (.reg false quietuslaw24_LinkCatchesUp_r12) (.cond (.t 46) (.skip) (.exit 2))) (.seq (.block 3 (.seq (.reg true quietuslaw24_LinkCatchesUp_r13) (.seq (.seq (.reg false quietuslaw24_LinkCatchesUp_r14) (.cond (.t 61) (.seq (.reg false quietuslaw24_LinkCatchesUp_r15) (.ret)) (.skip))) (.seq (.reg false quietuslaw24_LinkCatchesUp_r16) (.reg false quietuslaw24_LinkCatchesUp_r17))))) (.reg false quietuslaw24_LinkCatchesUp_r18))
abbrev quietuslaw24_LinkCatchesUp_r19 : List AI := [
  ⟨some 70, .faddr 0 (.t 3), none⟩,
  ⟨some 71, .load true 4 (.t 70) .any, none⟩,
  ⟨some 72, .faddr 4 (.t 3), none⟩,
  ⟨some 73, .faddr 0 (.t 72), none⟩,
  ⟨some 74, .load false 1 (.t 73) .any, none⟩,
  ⟨some 75, .call (.c (.fn f_link_Acknowledge)) [(.t 71), (.t 74)] 0, none⟩,
  ⟨some 69, .mv false (.t 75), none⟩,
  ⟨some 76, .ext (.t 69) 0, none⟩,
  ⟨some 77, .ext (.t 69) 1, none⟩,
  ⟨some 11, .alloc [(.int .i64 0), (.int .i64 0), (.str []), .nilS], none⟩,
  ⟨none, .store 4 (.t 11) (.t 76) .any, none⟩,
  ⟨some 12, .mv true (.t 77), none⟩]
abbrev quietuslaw24_LinkCatchesUp_r20 : List AI := [
  ⟨some 79, .load true 4 (.t 11) .any, none⟩,
  ⟨some 80, .call (.c (.fn f_link_Frames)) [(.t 79), (.c (.int .i64 1000))] 0, none⟩,
  ⟨some 78, .mv false (.t 80), none⟩,
  ⟨some 81, .ext (.t 78) 0, none⟩,
  ⟨some 82, .ext (.t 78) 1, none⟩,
  ⟨some 13, .mv true (.t 81), none⟩,
  ⟨some 14, .mv true (.t 82), none⟩]
abbrev quietuslaw24_LinkCatchesUp_r21 : List AI := [
  ⟨some 83, .call (.c (.fn f_quietuslaw24_sanity)) [] 0, none⟩,
  ⟨some 84, .mv false (.t 83), none⟩,
  ⟨some 85, .mv false (.t 12), some (84, true)⟩,
  ⟨some 86, .bin .eql (.t 85) (.c (.int .i64 0)), some (84, true)⟩,
  ⟨some 87, .pick (.t 84) (.t 86) (.c (.bool false)), none⟩,
  ⟨some 88, .mv false (.t 87), none⟩,
  ⟨some 89, .mv false (.t 14), some (88, true)⟩,
  ⟨some 90, .bin .eql (.t 89) (.c (.int .i64 0)), some (88, true)⟩,
  ⟨some 91, .pick (.t 88) (.t 90) (.c (.bool false)), none⟩,
  ⟨some 92, .mv false (.t 91), none⟩,
  ⟨some 93, .mv false (.t 13), some (92, true)⟩,
  ⟨some 94, .len false (.t 93), some (92, true)⟩,
  ⟨some 95, .bin .eql (.t 94) (.c (.int .i64 0)), some (92, true)⟩,
  ⟨some 96, .pick (.t 92) (.t 95) (.c (.bool false)), none⟩,
  ⟨some 97, .mv false (.t 96), none⟩,
  ⟨some 98, .faddr 4 (.t 3), some (97, true)⟩,
  ⟨some 99, .faddr 0 (.t 98), some (97, true)⟩,
  ⟨some 100, .load false 1 (.t 99) .any, some (97, true)⟩,
  ⟨some 101, .faddr 0 (.t 3), some (97, true)⟩,
  ⟨some 102, .faddr 0 (.t 101), some (97, true)⟩,
  ⟨some 103, .load false 1 (.t 102) .any, some (97, true)⟩,
  ⟨some 104, .faddr 0 (.t 3), some (97, true)⟩,
  ⟨some 105, .faddr 3 (.t 104), some (97, true)⟩,
  ⟨some 106, .load false 1 (.t 105) .any, some (97, true)⟩,
  ⟨some 107, .len false (.t 106), some (97, true)⟩,
  ⟨some 108, .bin .add (.t 103) (.t 107), some (97, true)⟩,
  ⟨some 109, .bin .eql (.t 100) (.t 108), some (97, true)⟩,
  ⟨some 110, .pick (.t 97) (.t 109) (.c (.bool false)), none⟩,
  ⟨some 111, .mv false (.t 110), none⟩,
  ⟨some 112, .load true 10 (.t 3) .any, some (111, true)⟩,
  ⟨some 113, .call (.c (.fn f_quietuslaw24_ordered)) [(.t 112)] 0, some (111, true)⟩,
  ⟨some 114, .pick (.t 111) (.t 113) (.c (.bool false)), none⟩,
  ⟨some 2, .mv true (.t 114), none⟩]
abbrev quietuslaw24_LinkCatchesUp_c : ACode := .seq (.reg false quietuslaw24_LinkCatchesUp_r0) (.seq (.seq (.reg false quietuslaw24_LinkCatchesUp_r1) (.cond (.t 17) (.seq (.reg false quietuslaw24_LinkCatchesUp_r2) (.ret)) (.skip))) (.seq (.reg false quietuslaw24_LinkCatchesUp_r3) (.seq (.seq (.reg false quietuslaw24_LinkCatchesUp_r4) (.block 0 (.loop quietuslaw24_LinkCatchesUp_l0))) (.seq (.reg false quietuslaw24_LinkCatchesUp_r8) (.seq (.seq (.reg false quietuslaw24_LinkCatchesUp_r9) (.cond (.t 42) (.seq (.reg false quietuslaw24_LinkCatchesUp_r10) (.ret)) (.skip))) (.seq (.seq (.reg false quietuslaw24_LinkCatchesUp_r11) (.block 2 (.loop quietuslaw24_LinkCatchesUp_l1))) (.seq (.reg false quietuslaw24_LinkCatchesUp_r19) (.seq (.reg false quietuslaw24_LinkCatchesUp_r20) (.seq (.reg false quietuslaw24_LinkCatchesUp_r21) (.ret))))))))))
def quietuslaw24_LinkCatchesUp_F : AFunc := ⟨115, [.tmp 2], quietuslaw24_LinkCatchesUp_c⟩

theorem quietuslaw24_LinkCatchesUp_cp : compile Try.prog [67] f_quietuslaw24_LinkCatchesUp = some quietuslaw24_LinkCatchesUp_F := by kernel_rfl

-- loop 0: [1, 3]
abbrev quietuslaw24_fewOut_r0 : List AI := [
  ⟨some 1, .box 4 (.t 0), none⟩,
  ⟨some 2, .mv true (.c (.bool false)), none⟩]
abbrev quietuslaw24_fewOut_r1 : List AI := [
  ⟨some 4, .faddr 3 (.t 1), none⟩,
  ⟨some 5, .load false 1 (.t 4) .any, none⟩,
  ⟨some 6, .len false (.t 5), none⟩,
  ⟨some 7, .bin .gtr (.t 6) (.c (.int .i64 40)), none⟩,
  ⟨some 8, .mv false (.t 7), none⟩,
  ⟨some 9, .faddr 3 (.t 1), some (8, true)⟩,
  ⟨some 10, .load false 1 (.t 9) .any, some (8, true)⟩,
  ⟨some 11, .len false (.t 10), some (8, true)⟩,
  ⟨some 12, .bin .lss (.t 11) (.c (.int .i64 1000)), some (8, true)⟩,
  ⟨some 13, .pick (.t 8) (.t 12) (.c (.bool false)), none⟩,
  ⟨some 14, .mv false (.t 13), none⟩,
  ⟨some 15, .faddr 3 (.t 1), some (14, false)⟩,
  ⟨some 16, .load false 1 (.t 15) .any, some (14, false)⟩,
  ⟨some 17, .len false (.t 16), some (14, false)⟩,
  ⟨some 18, .bin .gtr (.t 17) (.c (.int .i64 1001)), some (14, false)⟩,
  ⟨some 19, .pick (.t 14) (.c (.bool true)) (.t 18), none⟩,
  ⟨some 20, .mv false (.t 19), none⟩,
  ⟨some 21, .faddr 2 (.t 1), some (20, false)⟩,
  ⟨some 22, .load false 1 (.t 21) .any, some (20, false)⟩,
  ⟨some 23, .len true (.t 22), some (20, false)⟩,
  ⟨some 24, .bin .gtr (.t 23) (.c (.int .i64 100)), some (20, false)⟩,
  ⟨some 25, .pick (.t 20) (.c (.bool true)) (.t 24), none⟩]
abbrev quietuslaw24_fewOut_r2 : List AI := [
  ⟨some 2, .mv true (.c (.bool false)), none⟩]
abbrev quietuslaw24_fewOut_r3 : List AI := [
  ⟨some 3, .mv true (.c (.int .i64 0)), none⟩]
abbrev quietuslaw24_fewOut_r4 : List AI := [
  ⟨some 26, .mv false (.t 3), none⟩,
  ⟨some 27, .faddr 3 (.t 1), none⟩,
  ⟨some 28, .load false 1 (.t 27) .any, none⟩,
  ⟨some 29, .len false (.t 28), none⟩,
  ⟨some 30, .bin .lss (.t 26) (.t 29), none⟩]
abbrev quietuslaw24_fewOut_r5 : List AI := [
  ⟨some 33, .faddr 3 (.t 1), none⟩,
  ⟨some 34, .load false 1 (.t 33) .any, none⟩,
  ⟨some 35, .mv false (.t 3), none⟩,
  ⟨some 36, .iaddr 1 (.t 34) (.t 35), none⟩,
  ⟨some 37, .load false 1 (.t 36) .any, none⟩,
  ⟨some 38, .len true (.t 37), none⟩,
  ⟨some 39, .bin .gtr (.t 38) (.c (.int .i64 100)), none⟩]
abbrev quietuslaw24_fewOut_r6 : List AI := [
  ⟨some 2, .mv true (.c (.bool false)), none⟩]
abbrev quietuslaw24_fewOut_r7 : List AI := [
  ⟨some 31, .mv false (.t 3), none⟩,
  ⟨some 32, .bin .add (.t 31) (.c (.int .i64 1)), none⟩,
  ⟨some 3, .mv true (.t 32), none⟩]
abbrev quietuslaw24_fewOut_l0 : ACode := .seq (.seq (.reg false quietuslaw24_fewOut_r4) (.cond (.t 30) (.skip) (.exit 0))) (.seq (.block 1 (.seq (.reg false quietuslaw24_fewOut_r5) (.cond (.t 39) (.seq (.reg false quietuslaw24_fewOut_r6) (.ret)) (.skip)))) (.reg false quietuslaw24_fewOut_r7))
abbrev quietuslaw24_fewOut_r8 : List AI := [
  ⟨some 2, .mv true (.c (.bool true)), none⟩]
abbrev quietuslaw24_fewOut_c : ACode := .seq (.reg false quietuslaw24_fewOut_r0) (.seq (.seq (.reg false quietuslaw24_fewOut_r1) (.cond (.t 25) (.seq (.reg false quietuslaw24_fewOut_r2) (.ret)) (.skip))) (.seq (.seq (.reg false quietuslaw24_fewOut_r3) (.block 0 (.loop quietuslaw24_fewOut_l0))) (.seq (.reg false quietuslaw24_fewOut_r8) (.ret))))
def quietuslaw24_fewOut_F : AFunc := ⟨40, [.tmp 2], quietuslaw24_fewOut_c⟩

theorem quietuslaw24_fewOut_cp : compile Try.prog [] f_quietuslaw24_fewOut = some quietuslaw24_fewOut_F := by kernel_rfl

abbrev quietuslaw24_sanity_r0 : List AI := [
  ⟨some 0, .mv true (.c (.bool false)), none⟩]
abbrev quietuslaw24_sanity_r1 : List AI := [
  ⟨some 25, .call (.c (.fn f_quietuslaw24_put)) [] 0, none⟩,
  ⟨some 24, .mv false (.t 25), none⟩,
  ⟨some 26, .ext (.t 24) 0, none⟩,
  ⟨some 27, .ext (.t 24) 1, none⟩,
  ⟨some 1, .alloc [(.int .i64 0), (.int .i64 0), (.str []), .nilS], none⟩,
  ⟨none, .store 4 (.t 1) (.t 26) .any, none⟩,
  ⟨some 2, .mv true (.t 27), none⟩]
abbrev quietuslaw24_sanity_r2 : List AI := [
  ⟨some 29, .load true 4 (.t 1) .any, none⟩,
  ⟨some 30, .call (.c (.fn f_link_Frames)) [(.t 29), (.c (.int .i64 2))] 0, none⟩,
  ⟨some 28, .mv false (.t 30), none⟩,
  ⟨some 31, .ext (.t 28) 0, none⟩,
  ⟨some 32, .ext (.t 28) 1, none⟩,
  ⟨some 3, .mv true (.t 31), none⟩,
  ⟨some 4, .mv true (.t 32), none⟩]
abbrev quietuslaw24_sanity_r3 : List AI := [
  ⟨some 33, .mv false (.t 2), none⟩,
  ⟨some 34, .not (.t 33), none⟩,
  ⟨some 35, .mv false (.t 34), none⟩,
  ⟨some 36, .mv false (.t 4), some (35, false)⟩,
  ⟨some 37, .bin .neq (.t 36) (.c (.int .i64 0)), some (35, false)⟩,
  ⟨some 38, .pick (.t 35) (.c (.bool true)) (.t 37), none⟩,
  ⟨some 39, .mv false (.t 38), none⟩,
  ⟨some 40, .mv false (.t 3), some (39, false)⟩,
  ⟨some 41, .len false (.t 40), some (39, false)⟩,
  ⟨some 42, .bin .neq (.t 41) (.c (.int .i64 2)), some (39, false)⟩,
  ⟨some 43, .pick (.t 39) (.c (.bool true)) (.t 42), none⟩,
  ⟨some 44, .mv false (.t 43), none⟩,
  ⟨some 45, .mv false (.t 3), some (44, false)⟩,
  ⟨some 46, .iaddr 3 (.t 45) (.c (.int .i64 0)), some (44, false)⟩,
  ⟨some 47, .load true 3 (.t 46) .any, some (44, false)⟩,
  ⟨some 48, .build [(.bool false), (.int .i64 0), (.str [])] [(2, 1, (.c (.str [97])))], some (44, false)⟩,
  ⟨some 49, .eqs true [.b, .i, .s] (.t 47) (.t 48), some (44, false)⟩,
  ⟨some 50, .pick (.t 44) (.c (.bool true)) (.t 49), none⟩,
  ⟨some 51, .mv false (.t 50), none⟩,
  ⟨some 52, .mv false (.t 3), some (51, false)⟩,
  ⟨some 53, .iaddr 3 (.t 52) (.c (.int .i64 1)), some (51, false)⟩,
  ⟨some 54, .load true 3 (.t 53) .any, some (51, false)⟩,
  ⟨some 55, .build [(.bool false), (.int .i64 0), (.str [])] [(1, 1, (.c (.int .i64 1))), (2, 1, (.c (.str [98])))], some (51, false)⟩,
  ⟨some 56, .eqs true [.b, .i, .s] (.t 54) (.t 55), some (51, false)⟩,
  ⟨some 57, .pick (.t 51) (.c (.bool true)) (.t 56), none⟩]
abbrev quietuslaw24_sanity_r4 : List AI := [
  ⟨some 0, .mv true (.c (.bool false)), none⟩]
abbrev quietuslaw24_sanity_r5 : List AI := [
  ⟨some 5, .alloc [(.int .i64 0), .nilS], none⟩]
abbrev quietuslaw24_sanity_r6 : List AI := [
  ⟨some 59, .load true 2 (.t 5) (.site 5), none⟩,
  ⟨some 60, .mv false (.t 3), none⟩,
  ⟨some 61, .iaddr 3 (.t 60) (.c (.int .i64 1)), none⟩,
  ⟨some 62, .load true 3 (.t 61) .foreign, none⟩,
  ⟨some 63, .call (.c (.fn f_link_Receive)) [(.t 59), (.t 62)] 1, none⟩,
  ⟨some 58, .mv false (.t 63), none⟩,
  ⟨some 64, .ext (.t 58) 0, none⟩,
  ⟨some 65, .ext (.t 58) 1, none⟩,
  ⟨some 66, .ext (.t 58) 2, none⟩,
  ⟨none, .store 2 (.t 5) (.t 64) (.site 5), none⟩,
  ⟨some 6, .mv true (.t 65), none⟩,
  ⟨some 7, .mv true (.t 66), none⟩]
abbrev quietuslaw24_sanity_r7 : List AI := [
  ⟨some 68, .load true 2 (.t 5) (.site 5), none⟩,
  ⟨some 69, .mv false (.t 3), none⟩,
  ⟨some 70, .iaddr 3 (.t 69) (.c (.int .i64 0)), none⟩,
  ⟨some 71, .load true 3 (.t 70) .foreign, none⟩,
  ⟨some 72, .call (.c (.fn f_link_Receive)) [(.t 68), (.t 71)] 1, none⟩,
  ⟨some 67, .mv false (.t 72), none⟩,
  ⟨some 73, .ext (.t 67) 0, none⟩,
  ⟨some 74, .ext (.t 67) 1, none⟩,
  ⟨some 75, .ext (.t 67) 2, none⟩,
  ⟨none, .store 2 (.t 5) (.t 73) (.site 5), none⟩,
  ⟨some 8, .mv true (.t 74), none⟩,
  ⟨some 9, .mv true (.t 75), none⟩]
abbrev quietuslaw24_sanity_r8 : List AI := [
  ⟨some 77, .load true 4 (.t 1) .any, none⟩,
  ⟨some 78, .call (.c (.fn f_link_Acknowledge)) [(.t 77), (.c (.int .i64 2))] 0, none⟩,
  ⟨some 76, .mv false (.t 78), none⟩,
  ⟨some 79, .ext (.t 76) 0, none⟩,
  ⟨some 80, .ext (.t 76) 1, none⟩,
  ⟨some 10, .alloc [(.int .i64 0), (.int .i64 0), (.str []), .nilS], none⟩,
  ⟨none, .store 4 (.t 10) (.t 79) .any, none⟩,
  ⟨some 11, .mv true (.t 80), none⟩]
abbrev quietuslaw24_sanity_r9 : List AI := [
  ⟨some 82, .load true 4 (.t 10) .any, none⟩,
  ⟨some 83, .call (.c (.fn f_link_Frames)) [(.t 82), (.c (.int .i64 9))] 0, none⟩,
  ⟨some 81, .mv false (.t 83), none⟩,
  ⟨some 84, .ext (.t 81) 0, none⟩,
  ⟨some 85, .ext (.t 81) 1, none⟩,
  ⟨some 12, .mv true (.t 84), none⟩,
  ⟨some 13, .mv true (.t 85), none⟩]
abbrev quietuslaw24_sanity_r10 : List AI := [
  ⟨some 87, .load true 4 (.t 1) .any, none⟩,
  ⟨some 88, .call (.c (.fn f_link_Fold)) [(.t 87), (.c (.int .i64 2)), (.c (.str [97, 98]))] 0, none⟩,
  ⟨some 86, .mv false (.t 88), none⟩,
  ⟨some 89, .ext (.t 86) 0, none⟩,
  ⟨some 90, .ext (.t 86) 1, none⟩,
  ⟨some 14, .alloc [(.int .i64 0), (.int .i64 0), (.str []), .nilS], none⟩,
  ⟨none, .store 4 (.t 14) (.t 89) .any, none⟩,
  ⟨some 15, .mv true (.t 90), none⟩]
abbrev quietuslaw24_sanity_r11 : List AI := [
  ⟨some 92, .load true 4 (.t 14) .any, none⟩,
  ⟨some 93, .call (.c (.fn f_link_Frames)) [(.t 92), (.c (.int .i64 9))] 0, none⟩,
  ⟨some 91, .mv false (.t 93), none⟩,
  ⟨some 94, .ext (.t 91) 0, none⟩,
  ⟨some 95, .ext (.t 91) 1, none⟩,
  ⟨some 16, .mv true (.t 94), none⟩,
  ⟨some 17, .mv true (.t 95), none⟩]
abbrev quietuslaw24_sanity_r12 : List AI := [
  ⟨some 96, .mv false (.t 7), none⟩,
  ⟨some 97, .bin .neq (.t 96) (.c (.int .i64 0)), none⟩,
  ⟨some 98, .mv false (.t 97), none⟩,
  ⟨some 99, .mv false (.t 9), some (98, false)⟩,
  ⟨some 100, .bin .neq (.t 99) (.c (.int .i64 0)), some (98, false)⟩,
  ⟨some 101, .pick (.t 98) (.c (.bool true)) (.t 100), none⟩,
  ⟨some 102, .mv false (.t 101), none⟩,
  ⟨some 103, .mv false (.t 11), some (102, false)⟩,
  ⟨some 104, .bin .neq (.t 103) (.c (.int .i64 0)), some (102, false)⟩,
  ⟨some 105, .pick (.t 102) (.c (.bool true)) (.t 104), none⟩,
  ⟨some 106, .mv false (.t 105), none⟩,
  ⟨some 107, .mv false (.t 13), some (106, false)⟩,
  ⟨some 108, .bin .neq (.t 107) (.c (.int .i64 0)), some (106, false)⟩,
  ⟨some 109, .pick (.t 106) (.c (.bool true)) (.t 108), none⟩,
  ⟨some 110, .mv false (.t 109), none⟩,
  ⟨some 111, .mv false (.t 15), some (110, false)⟩,
  ⟨some 112, .bin .neq (.t 111) (.c (.int .i64 0)), some (110, false)⟩,
  ⟨some 113, .pick (.t 110) (.c (.bool true)) (.t 112), none⟩,
  ⟨some 114, .mv false (.t 113), none⟩,
  ⟨some 115, .mv false (.t 17), some (114, false)⟩,
  ⟨some 116, .bin .neq (.t 115) (.c (.int .i64 0)), some (114, false)⟩,
  ⟨some 117, .pick (.t 114) (.c (.bool true)) (.t 116), none⟩,
  ⟨some 118, .mv false (.t 117), none⟩,
  ⟨some 119, .mv false (.t 16), some (118, false)⟩,
  ⟨some 120, .len false (.t 119), some (118, false)⟩,
  ⟨some 121, .bin .neq (.t 120) (.c (.int .i64 2)), some (118, false)⟩,
  ⟨some 122, .pick (.t 118) (.c (.bool true)) (.t 121), none⟩]
abbrev quietuslaw24_sanity_r13 : List AI := [
  ⟨some 0, .mv true (.c (.bool false)), none⟩]
abbrev quietuslaw24_sanity_r14 : List AI := [
  ⟨some 18, .alloc [(.int .i64 0), .nilS], none⟩]
abbrev quietuslaw24_sanity_r15 : List AI := [
  ⟨some 124, .load true 2 (.t 18) (.site 18), none⟩,
  ⟨some 125, .mv false (.t 16), none⟩,
  ⟨some 126, .iaddr 3 (.t 125) (.c (.int .i64 1)), none⟩,
  ⟨some 127, .load true 3 (.t 126) .foreign, none⟩,
  ⟨some 128, .call (.c (.fn f_link_Receive)) [(.t 124), (.t 127)] 1, none⟩,
  ⟨some 123, .mv false (.t 128), none⟩,
  ⟨some 129, .ext (.t 123) 0, none⟩,
  ⟨some 130, .ext (.t 123) 1, none⟩,
  ⟨some 131, .ext (.t 123) 2, none⟩,
  ⟨none, .store 2 (.t 18) (.t 129) (.site 18), none⟩,
  ⟨some 19, .mv true (.t 130), none⟩,
  ⟨some 20, .mv true (.t 131), none⟩]
abbrev quietuslaw24_sanity_r16 : List AI := [
  ⟨some 133, .load true 2 (.t 18) (.site 18), none⟩,
  ⟨some 134, .mv false (.t 16), none⟩,
  ⟨some 135, .iaddr 3 (.t 134) (.c (.int .i64 0)), none⟩,
  ⟨some 136, .load true 3 (.t 135) .foreign, none⟩,
  ⟨some 137, .call (.c (.fn f_link_Receive)) [(.t 133), (.t 136)] 1, none⟩,
  ⟨some 132, .mv false (.t 137), none⟩,
  ⟨some 138, .ext (.t 132) 0, none⟩,
  ⟨some 139, .ext (.t 132) 1, none⟩,
  ⟨some 140, .ext (.t 132) 2, none⟩,
  ⟨none, .store 2 (.t 18) (.t 138) (.site 18), none⟩,
  ⟨some 21, .mv true (.t 139), none⟩,
  ⟨some 22, .mv true (.t 140), none⟩]
abbrev quietuslaw24_sanity_r17 : List AI := [
  ⟨some 141, .mv false (.t 6), none⟩,
  ⟨some 142, .len false (.t 141), none⟩,
  ⟨some 143, .bin .eql (.t 142) (.c (.int .i64 0)), none⟩,
  ⟨some 144, .mv false (.t 143), none⟩,
  ⟨some 145, .mv false (.t 8), some (144, true)⟩,
  ⟨some 146, .mv false (.t 3), some (144, true)⟩,
  ⟨some 147, .call (.c (.fn f_quietusref24_SameFrames)) [(.t 145), (.t 146)] 0, some (144, true)⟩,
  ⟨some 148, .pick (.t 144) (.t 147) (.c (.bool false)), none⟩,
  ⟨some 149, .mv false (.t 148), none⟩,
  ⟨some 150, .faddr 0 (.t 5), some (149, true)⟩,
  ⟨some 151, .load false 1 (.t 150) .any, some (149, true)⟩,
  ⟨some 152, .bin .eql (.t 151) (.c (.int .i64 2)), some (149, true)⟩,
  ⟨some 153, .pick (.t 149) (.t 152) (.c (.bool false)), none⟩,
  ⟨some 154, .mv false (.t 153), none⟩,
  ⟨some 155, .faddr 0 (.t 10), some (154, true)⟩,
  ⟨some 156, .load false 1 (.t 155) .any, some (154, true)⟩,
  ⟨some 157, .bin .eql (.t 156) (.c (.int .i64 2)), some (154, true)⟩,
  ⟨some 158, .pick (.t 154) (.t 157) (.c (.bool false)), none⟩,
  ⟨some 159, .mv false (.t 158), none⟩,
  ⟨some 160, .mv false (.t 12), some (159, true)⟩,
  ⟨some 161, .build [(.bool false), (.int .i64 0), (.str [])] [(1, 1, (.c (.int .i64 2))), (2, 1, (.c (.str [99])))], some (159, true)⟩,
  ⟨some 162, .mkslice 3 1 (.agg [(.bool false), (.int .i64 0), (.str [])]) [(0, (.t 161))], some (159, true)⟩,
  ⟨some 163, .call (.c (.fn f_quietusref24_SameFrames)) [(.t 160), (.t 162)] 0, some (159, true)⟩,
  ⟨some 164, .pick (.t 159) (.t 163) (.c (.bool false)), none⟩,
  ⟨some 165, .mv false (.t 164), none⟩,
  ⟨some 166, .mv false (.t 16), some (165, true)⟩,
  ⟨some 167, .iaddr 3 (.t 166) (.c (.int .i64 0)), some (165, true)⟩,
  ⟨some 168, .load true 3 (.t 167) .any, some (165, true)⟩,
  ⟨some 169, .build [(.bool false), (.int .i64 0), (.str [])] [(0, 1, (.c (.bool true))), (1, 1, (.c (.int .i64 2))), (2, 1, (.c (.str [97, 98])))], some (165, true)⟩,
  ⟨some 170, .eqs false [.b, .i, .s] (.t 168) (.t 169), some (165, true)⟩,
  ⟨some 171, .pick (.t 165) (.t 170) (.c (.bool false)), none⟩,
  ⟨some 23, .mv true (.t 171), none⟩]
abbrev quietuslaw24_sanity_r18 : List AI := [
  ⟨some 172, .mv false (.t 23), none⟩,
  ⟨some 173, .mv false (.t 172), none⟩,
  ⟨some 174, .mv false (.t 20), some (173, true)⟩,
  ⟨some 175, .bin .eql (.t 174) (.c (.int .i64 0)), some (173, true)⟩,
  ⟨some 176, .pick (.t 173) (.t 175) (.c (.bool false)), none⟩,
  ⟨some 177, .mv false (.t 176), none⟩,
  ⟨some 178, .mv false (.t 22), some (177, true)⟩,
  ⟨some 179, .bin .eql (.t 178) (.c (.int .i64 0)), some (177, true)⟩,
  ⟨some 180, .pick (.t 177) (.t 179) (.c (.bool false)), none⟩,
  ⟨some 181, .mv false (.t 180), none⟩,
  ⟨some 182, .mv false (.t 19), some (181, true)⟩,
  ⟨some 183, .len false (.t 182), some (181, true)⟩,
  ⟨some 184, .bin .eql (.t 183) (.c (.int .i64 0)), some (181, true)⟩,
  ⟨some 185, .pick (.t 181) (.t 184) (.c (.bool false)), none⟩,
  ⟨some 186, .mv false (.t 185), none⟩,
  ⟨some 187, .mv false (.t 21), some (186, true)⟩,
  ⟨some 188, .mv false (.t 16), some (186, true)⟩,
  ⟨some 189, .call (.c (.fn f_quietusref24_SameFrames)) [(.t 187), (.t 188)] 0, some (186, true)⟩,
  ⟨some 190, .pick (.t 186) (.t 189) (.c (.bool false)), none⟩,
  ⟨some 191, .mv false (.t 190), none⟩,
  ⟨some 192, .faddr 0 (.t 18), some (191, true)⟩,
  ⟨some 193, .load false 1 (.t 192) .any, some (191, true)⟩,
  ⟨some 194, .bin .eql (.t 193) (.c (.int .i64 3)), some (191, true)⟩,
  ⟨some 195, .pick (.t 191) (.t 194) (.c (.bool false)), none⟩,
  ⟨some 0, .mv true (.t 195), none⟩]
abbrev quietuslaw24_sanity_c : ACode := .seq (.reg false quietuslaw24_sanity_r0) (.seq (.reg false quietuslaw24_sanity_r1) (.seq (.reg false quietuslaw24_sanity_r2) (.seq (.seq (.reg false quietuslaw24_sanity_r3) (.cond (.t 57) (.seq (.reg false quietuslaw24_sanity_r4) (.ret)) (.skip))) (.seq (.reg false quietuslaw24_sanity_r5) (.seq (.reg true quietuslaw24_sanity_r6) (.seq (.reg true quietuslaw24_sanity_r7) (.seq (.reg false quietuslaw24_sanity_r8) (.seq (.reg false quietuslaw24_sanity_r9) (.seq (.reg false quietuslaw24_sanity_r10) (.seq (.reg false quietuslaw24_sanity_r11) (.seq (.seq (.reg false quietuslaw24_sanity_r12) (.cond (.t 122) (.seq (.reg false quietuslaw24_sanity_r13) (.ret)) (.skip))) (.seq (.reg false quietuslaw24_sanity_r14) (.seq (.reg true quietuslaw24_sanity_r15) (.seq (.reg true quietuslaw24_sanity_r16) (.seq (.reg false quietuslaw24_sanity_r17) (.seq (.reg false quietuslaw24_sanity_r18) (.ret)))))))))))))))))
def quietuslaw24_sanity_F : AFunc := ⟨196, [.tmp 0], quietuslaw24_sanity_c⟩

theorem quietuslaw24_sanity_cp : compile Try.prog [] f_quietuslaw24_sanity = some quietuslaw24_sanity_F := by kernel_rfl

abbrev link_Put_r0 : List AI := [
  ⟨some 2, .box 4 (.t 0), none⟩,
  ⟨some 4, .alloc [(.int .i64 0), (.int .i64 0), (.str []), .nilS], none⟩,
  ⟨some 5, .mv true (.c (.int .i64 0)), none⟩]
abbrev link_Put_r1 : List AI := [
  ⟨some 7, .load true 4 (.t 2) .any, none⟩,
  ⟨some 8, .call (.c (.fn f_link_ValidOut)) [(.t 7)] 0, none⟩,
  ⟨some 9, .not (.t 8), none⟩,
  ⟨some 6, .mv true (.t 9), none⟩]
abbrev link_Put_r2 : List AI := [
  ⟨some 10, .mv false (.t 1), none⟩,
  ⟨some 11, .call (.c (.fn f_link_isBody)) [(.t 10)] 0, none⟩,
  ⟨some 12, .not (.t 11), none⟩,
  ⟨some 6, .mv true (.t 12), none⟩]
abbrev link_Put_r3 : List AI := [
  ⟨some 13, .build [(.int .i64 0), (.int .i64 0), (.str []), .nilS] [], none⟩,
  ⟨none, .store 4 (.t 4) (.t 13) .any, none⟩,
  ⟨some 5, .mv true (.c (.int .i64 1)), none⟩]
abbrev link_Put_r4 : List AI := [
  ⟨some 15, .faddr 3 (.t 2), none⟩,
  ⟨some 16, .load false 1 (.t 15) .any, none⟩,
  ⟨some 17, .len false (.t 16), none⟩,
  ⟨some 18, .bin .eql (.t 17) (.c (.int .i64 1000)), none⟩,
  ⟨some 14, .mv true (.t 18), none⟩]
abbrev link_Put_r5 : List AI := [
  ⟨some 19, .load true 4 (.t 2) .any, none⟩,
  ⟨some 20, .call (.c (.fn f_link_end)) [(.t 19)] 0, none⟩,
  ⟨some 21, .bin .geq (.t 20) (.c (.int .i64 1099511627776)), none⟩,
  ⟨some 14, .mv true (.t 21), none⟩]
abbrev link_Put_r6 : List AI := [
  ⟨some 22, .build [(.int .i64 0), (.int .i64 0), (.str []), .nilS] [], none⟩,
  ⟨none, .store 4 (.t 4) (.t 22) .any, none⟩,
  ⟨some 5, .mv true (.c (.int .i64 2)), none⟩]
abbrev link_Put_b0 : ACode := .seq (.seq (.reg false link_Put_r4) (.cond (.t 14) (.skip) (.reg false link_Put_r5))) (.cond (.t 14) (.seq (.reg false link_Put_r6) (.ret)) (.skip))
abbrev link_Put_r7 : List AI := [
  ⟨some 23, .faddr 3 (.t 2), none⟩,
  ⟨some 24, .load false 1 (.t 23) .any, none⟩,
  ⟨some 25, .call (.c (.fn f_slices_Clone_string_string)) [(.t 24)] 0, none⟩,
  ⟨some 26, .mv false (.t 1), none⟩,
  ⟨some 27, .mkslice 1 1 (.str []) [(0, (.t 26))], none⟩,
  ⟨some 28, .append 1 16 (.t 25) (.t 27), none⟩,
  ⟨some 29, .faddr 3 (.t 2), none⟩,
  ⟨none, .store 1 (.t 29) (.t 28) .any, none⟩]
abbrev link_Put_r8 : List AI := [
  ⟨some 30, .load true 4 (.t 2) .any, none⟩,
  ⟨none, .store 4 (.t 4) (.t 30) .any, none⟩,
  ⟨some 5, .mv true (.c (.int .i64 0)), none⟩]
abbrev link_Put_c : ACode := .seq (.reg false link_Put_r0) (.seq (.block 0 (.seq (.seq (.reg false link_Put_r1) (.cond (.t 6) (.skip) (.reg false link_Put_r2))) (.cond (.t 6) (.seq (.reg false link_Put_r3) (.ret)) (link_Put_b0)))) (.seq (.reg false link_Put_r7) (.seq (.reg false link_Put_r8) (.ret))))
def link_Put_F : AFunc := ⟨31, [.cell 4 true 4, .tmp 5], link_Put_c⟩

theorem link_Put_cp : compile Try.prog [] f_link_Put = some link_Put_F := by kernel_rfl

abbrev link_Fold_r0 : List AI := [
  ⟨some 3, .box 4 (.t 0), none⟩,
  ⟨some 6, .alloc [(.int .i64 0), (.int .i64 0), (.str []), .nilS], none⟩,
  ⟨some 7, .mv true (.c (.int .i64 0)), none⟩]
abbrev link_Fold_r1 : List AI := [
  ⟨some 8, .load true 4 (.t 3) .any, none⟩,
  ⟨some 9, .call (.c (.fn f_link_ValidOut)) [(.t 8)] 0, none⟩,
  ⟨some 10, .not (.t 9), none⟩,
  ⟨some 11, .mv false (.t 10), none⟩,
  ⟨some 12, .mv false (.t 1), some (11, false)⟩,
  ⟨some 13, .faddr 0 (.t 3), some (11, false)⟩,
  ⟨some 14, .load false 1 (.t 13) .any, some (11, false)⟩,
  ⟨some 15, .bin .lss (.t 12) (.t 14), some (11, false)⟩,
  ⟨some 16, .pick (.t 11) (.c (.bool true)) (.t 15), none⟩,
  ⟨some 17, .mv false (.t 16), none⟩,
  ⟨some 18, .mv false (.t 1), some (17, false)⟩,
  ⟨some 19, .load true 4 (.t 3) .any, some (17, false)⟩,
  ⟨some 20, .call (.c (.fn f_link_end)) [(.t 19)] 0, some (17, false)⟩,
  ⟨some 21, .bin .gtr (.t 18) (.t 20), some (17, false)⟩,
  ⟨some 22, .pick (.t 17) (.c (.bool true)) (.t 21), none⟩,
  ⟨some 23, .mv false (.t 22), none⟩,
  ⟨some 24, .mv false (.t 2), some (23, false)⟩,
  ⟨some 25, .call (.c (.fn f_link_isBody)) [(.t 24)] 0, some (23, false)⟩,
  ⟨some 26, .not (.t 25), some (23, false)⟩,
  ⟨some 27, .pick (.t 23) (.c (.bool true)) (.t 26), none⟩]
abbrev link_Fold_r2 : List AI := [
  ⟨some 28, .build [(.int .i64 0), (.int .i64 0), (.str []), .nilS] [], none⟩,
  ⟨none, .store 4 (.t 6) (.t 28) .any, none⟩,
  ⟨some 7, .mv true (.c (.int .i64 1)), none⟩]
abbrev link_Fold_r3 : List AI := [
  ⟨some 29, .faddr 3 (.t 3), none⟩,
  ⟨some 30, .load false 1 (.t 29) .any, none⟩,
  ⟨some 31, .mv false (.t 1), none⟩,
  ⟨some 32, .faddr 0 (.t 3), none⟩,
  ⟨some 33, .load false 1 (.t 32) .any, none⟩,
  ⟨some 34, .bin .sub (.t 31) (.t 33), none⟩,
  ⟨some 35, .sl 1 (.t 30) (some (.t 34)) none, none⟩,
  ⟨some 36, .mv false (.t 1), none⟩,
  ⟨some 37, .mv false (.t 2), none⟩,
  ⟨some 38, .faddr 3 (.t 3), none⟩,
  ⟨none, .store 1 (.t 38) (.t 35) .any, none⟩,
  ⟨some 39, .faddr 0 (.t 3), none⟩,
  ⟨none, .store 1 (.t 39) (.t 36) .any, none⟩,
  ⟨some 40, .faddr 2 (.t 3), none⟩,
  ⟨none, .store 1 (.t 40) (.t 37) .any, none⟩]
abbrev link_Fold_r4 : List AI := [
  ⟨some 41, .load true 4 (.t 3) .any, none⟩,
  ⟨none, .store 4 (.t 6) (.t 41) .any, none⟩,
  ⟨some 7, .mv true (.c (.int .i64 0)), none⟩]
abbrev link_Fold_c : ACode := .seq (.reg false link_Fold_r0) (.seq (.seq (.reg false link_Fold_r1) (.cond (.t 27) (.seq (.reg false link_Fold_r2) (.ret)) (.skip))) (.seq (.reg false link_Fold_r3) (.seq (.reg false link_Fold_r4) (.ret))))
def link_Fold_F : AFunc := ⟨42, [.cell 6 true 4, .tmp 7], link_Fold_c⟩

theorem link_Fold_cp : compile Try.prog [] f_link_Fold = some link_Fold_F := by kernel_rfl

-- loop 0: [3, 6, 17]
abbrev link_Frames_r0 : List AI := [
  ⟨some 2, .box 4 (.t 0), none⟩,
  ⟨some 3, .gn (.box 1) [(.t 1)], none⟩,
  ⟨some 4, .mv true (.c .nilS), none⟩,
  ⟨some 5, .mv true (.c (.int .i64 0)), none⟩]
abbrev link_Frames_r1 : List AI := [
  ⟨some 8, .load true 4 (.t 2) .any, none⟩,
  ⟨some 9, .call (.c (.fn f_link_ValidOut)) [(.t 8)] 0, none⟩,
  ⟨some 10, .not (.t 9), none⟩,
  ⟨some 11, .mv false (.t 10), none⟩,
  ⟨some 12, .load false 1 (.t 3) .any, some (11, false)⟩,
  ⟨some 13, .bin .lss (.t 12) (.c (.int .i64 0)), some (11, false)⟩,
  ⟨some 14, .pick (.t 11) (.c (.bool true)) (.t 13), none⟩]
abbrev link_Frames_r2 : List AI := [
  ⟨some 4, .mv true (.c .nilS), none⟩,
  ⟨some 5, .mv true (.c (.int .i64 1)), none⟩]
abbrev link_Frames_r3 : List AI := [
  ⟨some 6, .gn (.alloc [.nilS]) [], none⟩]
abbrev link_Frames_r4 : List AI := [
  ⟨some 15, .load true 4 (.t 2) .any, none⟩,
  ⟨some 16, .call (.c (.fn f_link_frames)) [(.t 15)] 0, none⟩]
abbrev link_Frames_r5 : List AI := [
  ⟨some 7, .alloc [(.bool false), (.int .i64 0), (.str [])], none⟩,
  ⟨none, .store 3 (.t 7) (.t 17) .any, none⟩]
abbrev link_Frames_r6 : List AI := [
  ⟨some 18, .load false 1 (.t 6) .any, none⟩,
  ⟨some 19, .len false (.t 18), none⟩,
  ⟨some 20, .load false 1 (.t 3) .any, none⟩,
  ⟨some 21, .bin .eql (.t 19) (.t 20), none⟩]
abbrev link_Frames_r7 : List AI := [
  ⟨some 22, .load false 1 (.t 6) .any, none⟩,
  ⟨some 23, .load true 3 (.t 7) .any, none⟩,
  ⟨some 24, .mkslice 3 1 (.agg [(.bool false), (.int .i64 0), (.str [])]) [(0, (.t 23))], none⟩,
  ⟨some 25, .appG 3 32 [(.bool false), (.int .i64 0), (.str [])] (.t 22) (.t 24), none⟩,
  ⟨none, .store 1 (.t 6) (.t 25) .any, none⟩]
abbrev link_Frames_y0a : ACode := .reg false link_Frames_r5
abbrev link_Frames_y0b : ACode := .block 1 (.seq (.seq (.reg false link_Frames_r6) (.cond (.t 21) (.exit 0) (.skip))) (.reg false link_Frames_r7))
abbrev link_Frames_r8 : List AI := [
  ⟨some 26, .load false 1 (.t 6) .any, none⟩,
  ⟨some 4, .mv true (.t 26), none⟩,
  ⟨some 5, .mv true (.c (.int .i64 0)), none⟩]
abbrev link_Frames_c : ACode := .seq (.reg false link_Frames_r0) (.seq (.seq (.reg false link_Frames_r1) (.cond (.t 14) (.seq (.reg false link_Frames_r2) (.ret)) (.skip))) (.seq (.reg false link_Frames_r3) (.seq (.seq (.reg false link_Frames_r4) (.block 0 (.rangeF (.t 16) [17] link_Frames_y0a link_Frames_y0b))) (.seq (.reg false link_Frames_r8) (.ret)))))
def link_Frames_F : AFunc := ⟨27, [.tmp 4, .tmp 5], link_Frames_c⟩

theorem link_Frames_cp : compile Try.prog [3, 6, 25] f_link_Frames = some link_Frames_F := by kernel_rfl

abbrev link_Acknowledge_r0 : List AI := [
  ⟨some 2, .box 4 (.t 0), none⟩,
  ⟨some 4, .alloc [(.int .i64 0), (.int .i64 0), (.str []), .nilS], none⟩,
  ⟨some 5, .mv true (.c (.int .i64 0)), none⟩]
abbrev link_Acknowledge_r1 : List AI := [
  ⟨some 7, .load true 4 (.t 2) .any, none⟩,
  ⟨some 8, .call (.c (.fn f_link_ValidOut)) [(.t 7)] 0, none⟩,
  ⟨some 9, .not (.t 8), none⟩,
  ⟨some 6, .mv true (.t 9), none⟩]
abbrev link_Acknowledge_r2 : List AI := [
  ⟨some 10, .mv false (.t 1), none⟩,
  ⟨some 11, .load true 4 (.t 2) .any, none⟩,
  ⟨some 12, .call (.c (.fn f_link_end)) [(.t 11)] 0, none⟩,
  ⟨some 13, .call (.c (.fn f_link_within_int)) [(.t 10), (.t 12)] 0, none⟩,
  ⟨some 14, .not (.t 13), none⟩,
  ⟨some 6, .mv true (.t 14), none⟩]
abbrev link_Acknowledge_r3 : List AI := [
  ⟨some 15, .build [(.int .i64 0), (.int .i64 0), (.str []), .nilS] [], none⟩,
  ⟨none, .store 4 (.t 4) (.t 15) .any, none⟩,
  ⟨some 5, .mv true (.c (.int .i64 1)), none⟩]
abbrev link_Acknowledge_r4 : List AI := [
  ⟨some 17, .mv false (.t 1), none⟩,
  ⟨some 18, .faddr 1 (.t 2), none⟩,
  ⟨some 19, .load false 1 (.t 18) .any, none⟩,
  ⟨some 20, .bin .leq (.t 17) (.t 19), none⟩,
  ⟨some 16, .mv true (.t 20), none⟩]
abbrev link_Acknowledge_r5 : List AI := [
  ⟨some 21, .load true 4 (.t 2) .any, none⟩,
  ⟨none, .store 4 (.t 4) (.t 21) .any, none⟩,
  ⟨some 5, .mv true (.c (.int .i64 0)), none⟩]
abbrev link_Acknowledge_b0 : ACode := .seq (.reg false link_Acknowledge_r4) (.cond (.t 16) (.seq (.reg false link_Acknowledge_r5) (.ret)) (.skip))
abbrev link_Acknowledge_r6 : List AI := [
  ⟨some 22, .mv false (.t 1), none⟩,
  ⟨some 23, .faddr 1 (.t 2), none⟩,
  ⟨none, .store 1 (.t 23) (.t 22) .any, none⟩]
abbrev link_Acknowledge_r7 : List AI := [
  ⟨some 24, .mv false (.t 1), none⟩,
  ⟨some 25, .faddr 0 (.t 2), none⟩,
  ⟨some 26, .load false 1 (.t 25) .any, none⟩,
  ⟨some 27, .bin .gtr (.t 24) (.t 26), none⟩]
abbrev link_Acknowledge_r8 : List AI := [
  ⟨some 28, .faddr 3 (.t 2), none⟩,
  ⟨some 29, .load false 1 (.t 28) .any, none⟩,
  ⟨some 30, .mv false (.t 1), none⟩,
  ⟨some 31, .faddr 0 (.t 2), none⟩,
  ⟨some 32, .load false 1 (.t 31) .any, none⟩,
  ⟨some 33, .bin .sub (.t 30) (.t 32), none⟩,
  ⟨some 34, .sl 1 (.t 29) (some (.t 33)) none, none⟩,
  ⟨some 35, .mv false (.t 1), none⟩,
  ⟨some 36, .faddr 3 (.t 2), none⟩,
  ⟨none, .store 1 (.t 36) (.t 34) .any, none⟩,
  ⟨some 37, .faddr 0 (.t 2), none⟩,
  ⟨none, .store 1 (.t 37) (.t 35) .any, none⟩,
  ⟨some 38, .faddr 2 (.t 2), none⟩,
  ⟨none, .store 1 (.t 38) (.c (.str [])) .any, none⟩]
abbrev link_Acknowledge_r9 : List AI := [
  ⟨some 39, .load true 4 (.t 2) .any, none⟩,
  ⟨none, .store 4 (.t 4) (.t 39) .any, none⟩,
  ⟨some 5, .mv true (.c (.int .i64 0)), none⟩]
abbrev link_Acknowledge_c : ACode := .seq (.reg false link_Acknowledge_r0) (.seq (.block 0 (.seq (.seq (.reg false link_Acknowledge_r1) (.cond (.t 6) (.skip) (.reg false link_Acknowledge_r2))) (.cond (.t 6) (.seq (.reg false link_Acknowledge_r3) (.ret)) (link_Acknowledge_b0)))) (.seq (.seq (.reg false link_Acknowledge_r6) (.seq (.reg false link_Acknowledge_r7) (.cond (.t 27) (.reg false link_Acknowledge_r8) (.skip)))) (.seq (.reg false link_Acknowledge_r9) (.ret))))
def link_Acknowledge_F : AFunc := ⟨40, [.cell 4 true 4, .tmp 5], link_Acknowledge_c⟩

theorem link_Acknowledge_cp : compile Try.prog [] f_link_Acknowledge = some link_Acknowledge_F := by kernel_rfl

abbrev quietusref24_Put_r0 : List AI := [
  ⟨some 2, .box 4 (.t 0), none⟩,
  ⟨some 4, .alloc [(.int .i64 0), (.int .i64 0), (.str []), .nilS, (.int .i64 0)], none⟩]
abbrev quietusref24_Put_r1 : List AI := [
  ⟨some 5, .load true 4 (.t 2) .any, none⟩,
  ⟨some 6, .call (.c (.fn f_quietusref24_ValidOut)) [(.t 5)] 0, none⟩,
  ⟨some 7, .not (.t 6), none⟩,
  ⟨some 8, .mv false (.t 7), none⟩,
  ⟨some 9, .mv false (.t 1), some (8, false)⟩,
  ⟨some 10, .len true (.t 9), some (8, false)⟩,
  ⟨some 11, .bin .gtr (.t 10) (.c (.int .i64 65536)), some (8, false)⟩,
  ⟨some 12, .pick (.t 8) (.c (.bool true)) (.t 11), none⟩]
abbrev quietusref24_Put_r2 : List AI := [
  ⟨some 13, .build [(.int .i64 0), (.int .i64 0), (.str []), .nilS, (.int .i64 0)] [(4, 1, (.c (.int .i64 1)))], none⟩,
  ⟨none, .store 5 (.t 4) (.t 13) .any, none⟩]
abbrev quietusref24_Put_r3 : List AI := [
  ⟨some 14, .faddr 3 (.t 2), none⟩,
  ⟨some 15, .load false 1 (.t 14) .any, none⟩,
  ⟨some 16, .len false (.t 15), none⟩,
  ⟨some 17, .bin .eql (.t 16) (.c (.int .i64 1000)), none⟩,
  ⟨some 18, .mv false (.t 17), none⟩,
  ⟨some 19, .load true 4 (.t 2) .any, some (18, false)⟩,
  ⟨some 20, .call (.c (.fn f_quietusref24_End)) [(.t 19)] 0, some (18, false)⟩,
  ⟨some 21, .bin .geq (.t 20) (.c (.int .i64 1099511627776)), some (18, false)⟩,
  ⟨some 22, .pick (.t 18) (.c (.bool true)) (.t 21), none⟩]
abbrev quietusref24_Put_r4 : List AI := [
  ⟨some 23, .build [(.int .i64 0), (.int .i64 0), (.str []), .nilS, (.int .i64 0)] [(4, 1, (.c (.int .i64 2)))], none⟩,
  ⟨none, .store 5 (.t 4) (.t 23) .any, none⟩]
abbrev quietusref24_Put_r5 : List AI := [
  ⟨some 24, .mkslice 1 0 (.str []) [], none⟩,
  ⟨some 25, .faddr 3 (.t 2), none⟩,
  ⟨some 26, .load false 1 (.t 25) .any, none⟩,
  ⟨some 27, .append 1 16 (.t 24) (.t 26), none⟩,
  ⟨some 28, .mv false (.t 1), none⟩,
  ⟨some 29, .mkslice 1 1 (.str []) [(0, (.t 28))], none⟩,
  ⟨some 30, .append 1 16 (.t 27) (.t 29), none⟩,
  ⟨some 31, .faddr 3 (.t 2), none⟩,
  ⟨none, .store 1 (.t 31) (.t 30) .any, none⟩]
abbrev quietusref24_Put_r6 : List AI := [
  ⟨some 32, .load true 4 (.t 2) .any, none⟩,
  ⟨some 33, .build [(.int .i64 0), (.int .i64 0), (.str []), .nilS, (.int .i64 0)] [(0, 4, (.t 32))], none⟩,
  ⟨none, .store 5 (.t 4) (.t 33) .any, none⟩]
abbrev quietusref24_Put_c : ACode := .seq (.reg false quietusref24_Put_r0) (.seq (.seq (.reg false quietusref24_Put_r1) (.cond (.t 12) (.seq (.reg false quietusref24_Put_r2) (.ret)) (.skip))) (.seq (.seq (.reg false quietusref24_Put_r3) (.cond (.t 22) (.seq (.reg false quietusref24_Put_r4) (.ret)) (.skip))) (.seq (.reg false quietusref24_Put_r5) (.seq (.reg false quietusref24_Put_r6) (.ret)))))
def quietusref24_Put_F : AFunc := ⟨34, [.cell 4 true 5], quietusref24_Put_c⟩

theorem quietusref24_Put_cp : compile Try.prog [] f_quietusref24_Put = some quietusref24_Put_F := by kernel_rfl

abbrev quietusref24_Fold_r0 : List AI := [
  ⟨some 3, .box 4 (.t 0), none⟩,
  ⟨some 6, .alloc [(.int .i64 0), (.int .i64 0), (.str []), .nilS, (.int .i64 0)], none⟩]
abbrev quietusref24_Fold_r1 : List AI := [
  ⟨some 8, .load true 4 (.t 3) .any, none⟩,
  ⟨some 9, .call (.c (.fn f_quietusref24_ValidOut)) [(.t 8)] 0, none⟩,
  ⟨some 10, .not (.t 9), none⟩,
  ⟨some 11, .mv false (.t 10), none⟩,
  ⟨some 12, .mv false (.t 1), some (11, false)⟩,
  ⟨some 13, .faddr 0 (.t 3), some (11, false)⟩,
  ⟨some 14, .load false 1 (.t 13) .any, some (11, false)⟩,
  ⟨some 15, .bin .lss (.t 12) (.t 14), some (11, false)⟩,
  ⟨some 16, .pick (.t 11) (.c (.bool true)) (.t 15), none⟩,
  ⟨some 17, .mv false (.t 16), none⟩,
  ⟨some 18, .mv false (.t 1), some (17, false)⟩,
  ⟨some 19, .load true 4 (.t 3) .any, some (17, false)⟩,
  ⟨some 20, .call (.c (.fn f_quietusref24_End)) [(.t 19)] 0, some (17, false)⟩,
  ⟨some 21, .bin .gtr (.t 18) (.t 20), some (17, false)⟩,
  ⟨some 22, .pick (.t 17) (.c (.bool true)) (.t 21), none⟩,
  ⟨some 23, .mv false (.t 22), none⟩,
  ⟨some 24, .mv false (.t 2), some (23, false)⟩,
  ⟨some 25, .len true (.t 24), some (23, false)⟩,
  ⟨some 26, .bin .gtr (.t 25) (.c (.int .i64 65536)), some (23, false)⟩,
  ⟨some 27, .pick (.t 23) (.c (.bool true)) (.t 26), none⟩]
abbrev quietusref24_Fold_r2 : List AI := [
  ⟨some 28, .build [(.int .i64 0), (.int .i64 0), (.str []), .nilS, (.int .i64 0)] [(4, 1, (.c (.int .i64 1)))], none⟩,
  ⟨none, .store 5 (.t 6) (.t 28) .any, none⟩]
abbrev quietusref24_Fold_r3 : List AI := [
  ⟨some 29, .mkslice 1 0 (.str []) [], none⟩,
  ⟨some 30, .faddr 3 (.t 3), none⟩,
  ⟨some 31, .load false 1 (.t 30) .any, none⟩,
  ⟨some 32, .mv false (.t 1), none⟩,
  ⟨some 33, .faddr 0 (.t 3), none⟩,
  ⟨some 34, .load false 1 (.t 33) .any, none⟩,
  ⟨some 35, .bin .sub (.t 32) (.t 34), none⟩,
  ⟨some 36, .sl 1 (.t 31) (some (.t 35)) none, none⟩,
  ⟨some 37, .append 1 16 (.t 29) (.t 36), none⟩,
  ⟨some 7, .mv true (.t 37), none⟩]
abbrev quietusref24_Fold_r4 : List AI := [
  ⟨some 38, .mv false (.t 1), none⟩,
  ⟨some 39, .faddr 1 (.t 3), none⟩,
  ⟨some 40, .load false 1 (.t 39) .any, none⟩,
  ⟨some 41, .mv false (.t 2), none⟩,
  ⟨some 42, .mv false (.t 7), none⟩,
  ⟨some 43, .build [(.int .i64 0), (.int .i64 0), (.str []), .nilS] [(0, 1, (.t 38)), (1, 1, (.t 40)), (2, 1, (.t 41)), (3, 1, (.t 42))], none⟩,
  ⟨some 44, .build [(.int .i64 0), (.int .i64 0), (.str []), .nilS, (.int .i64 0)] [(0, 4, (.t 43))], none⟩,
  ⟨none, .store 5 (.t 6) (.t 44) .any, none⟩]
abbrev quietusref24_Fold_c : ACode := .seq (.reg false quietusref24_Fold_r0) (.seq (.seq (.reg false quietusref24_Fold_r1) (.cond (.t 27) (.seq (.reg false quietusref24_Fold_r2) (.ret)) (.skip))) (.seq (.reg false quietusref24_Fold_r3) (.seq (.reg false quietusref24_Fold_r4) (.ret))))
def quietusref24_Fold_F : AFunc := ⟨45, [.cell 6 true 5], quietusref24_Fold_c⟩

theorem quietusref24_Fold_cp : compile Try.prog [] f_quietusref24_Fold = some quietusref24_Fold_F := by kernel_rfl

-- loop 0: [1, 2, 4, 5, 6]
abbrev quietusref24_Frames_r0 : List AI := [
  ⟨some 2, .box 4 (.t 0), none⟩,
  ⟨some 4, .alloc [.nilS, (.int .i64 0)], none⟩]
abbrev quietusref24_Frames_r1 : List AI := [
  ⟨some 7, .load true 4 (.t 2) .any, none⟩,
  ⟨some 8, .call (.c (.fn f_quietusref24_ValidOut)) [(.t 7)] 0, none⟩,
  ⟨some 9, .not (.t 8), none⟩,
  ⟨some 10, .mv false (.t 9), none⟩,
  ⟨some 11, .mv false (.t 1), some (10, false)⟩,
  ⟨some 12, .bin .lss (.t 11) (.c (.int .i64 0)), some (10, false)⟩,
  ⟨some 13, .pick (.t 10) (.c (.bool true)) (.t 12), none⟩]
abbrev quietusref24_Frames_r2 : List AI := [
  ⟨some 14, .build [.nilS, (.int .i64 0)] [(1, 1, (.c (.int .i64 1)))], none⟩,
  ⟨none, .store 2 (.t 4) (.t 14) .any, none⟩]
abbrev quietusref24_Frames_r3 : List AI := [
  ⟨some 5, .mv true (.c .nilS), none⟩]
abbrev quietusref24_Frames_r4 : List AI := [
  ⟨some 15, .faddr 1 (.t 2), none⟩,
  ⟨some 16, .load false 1 (.t 15) .any, none⟩,
  ⟨some 17, .faddr 0 (.t 2), none⟩,
  ⟨some 18, .load false 1 (.t 17) .any, none⟩,
  ⟨some 19, .bin .lss (.t 16) (.t 18), none⟩]
abbrev quietusref24_Frames_r5 : List AI := [
  ⟨some 20, .mv true (.t 5), none⟩,
  ⟨some 21, .faddr 0 (.t 2), none⟩,
  ⟨some 22, .load false 1 (.t 21) .any, none⟩,
  ⟨some 23, .faddr 2 (.t 2), none⟩,
  ⟨some 24, .load false 1 (.t 23) .any, none⟩,
  ⟨some 25, .build [(.bool false), (.int .i64 0), (.str [])] [(0, 1, (.c (.bool true))), (1, 1, (.t 22)), (2, 1, (.t 24))], none⟩,
  ⟨some 26, .mkslice 3 1 (.agg [(.bool false), (.int .i64 0), (.str [])]) [(0, (.t 25))], none⟩,
  ⟨some 27, .append 3 32 (.t 20) (.t 26), none⟩,
  ⟨some 5, .mv true (.t 27), none⟩]
abbrev quietusref24_Frames_r6 : List AI := [
  ⟨some 28, .faddr 1 (.t 2), none⟩,
  ⟨some 29, .load false 1 (.t 28) .any, none⟩,
  ⟨some 30, .faddr 0 (.t 2), none⟩,
  ⟨some 31, .load false 1 (.t 30) .any, none⟩,
  ⟨some 32, .mx (.t 29) (.t 31), none⟩,
  ⟨some 6, .mv true (.t 32), none⟩]
abbrev quietusref24_Frames_r7 : List AI := [
  ⟨some 33, .mv false (.t 6), none⟩,
  ⟨some 34, .load true 4 (.t 2) .any, none⟩,
  ⟨some 35, .call (.c (.fn f_quietusref24_End)) [(.t 34)] 0, none⟩,
  ⟨some 36, .bin .lss (.t 33) (.t 35), none⟩]
abbrev quietusref24_Frames_r8 : List AI := [
  ⟨some 39, .mv true (.t 5), none⟩,
  ⟨some 40, .mv false (.t 6), none⟩,
  ⟨some 41, .faddr 3 (.t 2), none⟩,
  ⟨some 42, .load false 1 (.t 41) .any, none⟩,
  ⟨some 43, .mv false (.t 6), none⟩,
  ⟨some 44, .faddr 0 (.t 2), none⟩,
  ⟨some 45, .load false 1 (.t 44) .any, none⟩,
  ⟨some 46, .bin .sub (.t 43) (.t 45), none⟩,
  ⟨some 47, .iaddr 1 (.t 42) (.t 46), none⟩,
  ⟨some 48, .load false 1 (.t 47) .any, none⟩,
  ⟨some 49, .build [(.bool false), (.int .i64 0), (.str [])] [(1, 1, (.t 40)), (2, 1, (.t 48))], none⟩,
  ⟨some 50, .mkslice 3 1 (.agg [(.bool false), (.int .i64 0), (.str [])]) [(0, (.t 49))], none⟩,
  ⟨some 51, .append 3 32 (.t 39) (.t 50), none⟩,
  ⟨some 5, .mv true (.t 51), none⟩]
abbrev quietusref24_Frames_r9 : List AI := [
  ⟨some 37, .mv false (.t 6), none⟩,
  ⟨some 38, .bin .add (.t 37) (.c (.int .i64 1)), none⟩,
  ⟨some 6, .mv true (.t 38), none⟩]
abbrev quietusref24_Frames_l0 : ACode := .seq (.seq (.reg false quietusref24_Frames_r7) (.cond (.t 36) (.skip) (.exit 0))) (.seq (.block 1 (.reg false quietusref24_Frames_r8)) (.reg false quietusref24_Frames_r9))
abbrev quietusref24_Frames_r10 : List AI := [
  ⟨some 52, .mkslice 3 0 (.agg [(.bool false), (.int .i64 0), (.str [])]) [], none⟩,
  ⟨some 53, .mv false (.t 5), none⟩,
  ⟨some 54, .mv false (.t 1), none⟩,
  ⟨some 55, .mv false (.t 5), none⟩,
  ⟨some 56, .len false (.t 55), none⟩,
  ⟨some 57, .mn (.t 54) (.t 56), none⟩,
  ⟨some 58, .sl 3 (.t 53) none (some (.t 57)), none⟩,
  ⟨some 59, .append 3 32 (.t 52) (.t 58), none⟩,
  ⟨some 60, .build [.nilS, (.int .i64 0)] [(0, 1, (.t 59))], none⟩,
  ⟨none, .store 2 (.t 4) (.t 60) .any, none⟩]
abbrev quietusref24_Frames_c : ACode := .seq (.reg false quietusref24_Frames_r0) (.seq (.seq (.reg false quietusref24_Frames_r1) (.cond (.t 13) (.seq (.reg false quietusref24_Frames_r2) (.ret)) (.skip))) (.seq (.reg false quietusref24_Frames_r3) (.seq (.seq (.reg false quietusref24_Frames_r4) (.cond (.t 19) (.reg false quietusref24_Frames_r5) (.skip))) (.seq (.seq (.reg false quietusref24_Frames_r6) (.block 0 (.loop quietusref24_Frames_l0))) (.seq (.reg false quietusref24_Frames_r10) (.ret))))))
def quietusref24_Frames_F : AFunc := ⟨61, [.cell 4 true 2], quietusref24_Frames_c⟩

theorem quietusref24_Frames_cp : compile Try.prog [] f_quietusref24_Frames = some quietusref24_Frames_F := by kernel_rfl

abbrev quietusref24_Acknowledge_r0 : List AI := [
  ⟨some 2, .box 4 (.t 0), none⟩,
  ⟨some 4, .alloc [(.int .i64 0), (.int .i64 0), (.str []), .nilS, (.int .i64 0)], none⟩]
abbrev quietusref24_Acknowledge_r1 : List AI := [
  ⟨some 5, .load true 4 (.t 2) .any, none⟩,
  ⟨some 6, .call (.c (.fn f_quietusref24_ValidOut)) [(.t 5)] 0, none⟩,
  ⟨some 7, .not (.t 6), none⟩,
  ⟨some 8, .mv false (.t 7), none⟩,
  ⟨some 9, .mv false (.t 1), some (8, false)⟩,
  ⟨some 10, .bin .lss (.t 9) (.c (.int .i64 0)), some (8, false)⟩,
  ⟨some 11, .pick (.t 8) (.c (.bool true)) (.t 10), none⟩,
  ⟨some 12, .mv false (.t 11), none⟩,
  ⟨some 13, .mv false (.t 1), some (12, false)⟩,
  ⟨some 14, .load true 4 (.t 2) .any, some (12, false)⟩,
  ⟨some 15, .call (.c (.fn f_quietusref24_End)) [(.t 14)] 0, some (12, false)⟩,
  ⟨some 16, .bin .gtr (.t 13) (.t 15), some (12, false)⟩,
  ⟨some 17, .pick (.t 12) (.c (.bool true)) (.t 16), none⟩]
abbrev quietusref24_Acknowledge_r2 : List AI := [
  ⟨some 18, .build [(.int .i64 0), (.int .i64 0), (.str []), .nilS, (.int .i64 0)] [(4, 1, (.c (.int .i64 1)))], none⟩,
  ⟨none, .store 5 (.t 4) (.t 18) .any, none⟩]
abbrev quietusref24_Acknowledge_r3 : List AI := [
  ⟨some 19, .mv false (.t 1), none⟩,
  ⟨some 20, .faddr 1 (.t 2), none⟩,
  ⟨some 21, .load false 1 (.t 20) .any, none⟩,
  ⟨some 22, .bin .leq (.t 19) (.t 21), none⟩]
abbrev quietusref24_Acknowledge_r4 : List AI := [
  ⟨some 23, .load true 4 (.t 2) .any, none⟩,
  ⟨some 24, .build [(.int .i64 0), (.int .i64 0), (.str []), .nilS, (.int .i64 0)] [(0, 4, (.t 23))], none⟩,
  ⟨none, .store 5 (.t 4) (.t 24) .any, none⟩]
abbrev quietusref24_Acknowledge_r5 : List AI := [
  ⟨some 25, .mv false (.t 1), none⟩,
  ⟨some 26, .faddr 1 (.t 2), none⟩,
  ⟨none, .store 1 (.t 26) (.t 25) .any, none⟩]
abbrev quietusref24_Acknowledge_r6 : List AI := [
  ⟨some 27, .mv false (.t 1), none⟩,
  ⟨some 28, .faddr 0 (.t 2), none⟩,
  ⟨some 29, .load false 1 (.t 28) .any, none⟩,
  ⟨some 30, .bin .gtr (.t 27) (.t 29), none⟩]
abbrev quietusref24_Acknowledge_r7 : List AI := [
  ⟨some 31, .mkslice 1 0 (.str []) [], none⟩,
  ⟨some 32, .faddr 3 (.t 2), none⟩,
  ⟨some 33, .load false 1 (.t 32) .any, none⟩,
  ⟨some 34, .mv false (.t 1), none⟩,
  ⟨some 35, .faddr 0 (.t 2), none⟩,
  ⟨some 36, .load false 1 (.t 35) .any, none⟩,
  ⟨some 37, .bin .sub (.t 34) (.t 36), none⟩,
  ⟨some 38, .sl 1 (.t 33) (some (.t 37)) none, none⟩,
  ⟨some 39, .append 1 16 (.t 31) (.t 38), none⟩,
  ⟨some 40, .faddr 3 (.t 2), none⟩,
  ⟨none, .store 1 (.t 40) (.t 39) .any, none⟩]
abbrev quietusref24_Acknowledge_r8 : List AI := [
  ⟨some 41, .mv false (.t 1), none⟩,
  ⟨some 42, .faddr 0 (.t 2), none⟩,
  ⟨none, .store 1 (.t 42) (.t 41) .any, none⟩]
abbrev quietusref24_Acknowledge_r9 : List AI := [
  ⟨some 43, .faddr 2 (.t 2), none⟩,
  ⟨none, .store 1 (.t 43) (.c (.str [])) .any, none⟩]
abbrev quietusref24_Acknowledge_b0 : ACode := .seq (.reg false quietusref24_Acknowledge_r7) (.seq (.reg false quietusref24_Acknowledge_r8) (.reg false quietusref24_Acknowledge_r9))
abbrev quietusref24_Acknowledge_r10 : List AI := [
  ⟨some 44, .load true 4 (.t 2) .any, none⟩,
  ⟨some 45, .build [(.int .i64 0), (.int .i64 0), (.str []), .nilS, (.int .i64 0)] [(0, 4, (.t 44))], none⟩,
  ⟨none, .store 5 (.t 4) (.t 45) .any, none⟩]
abbrev quietusref24_Acknowledge_c : ACode := .seq (.reg false quietusref24_Acknowledge_r0) (.seq (.seq (.reg false quietusref24_Acknowledge_r1) (.cond (.t 17) (.seq (.reg false quietusref24_Acknowledge_r2) (.ret)) (.skip))) (.seq (.seq (.reg false quietusref24_Acknowledge_r3) (.cond (.t 22) (.seq (.reg false quietusref24_Acknowledge_r4) (.ret)) (.skip))) (.seq (.reg false quietusref24_Acknowledge_r5) (.seq (.seq (.reg false quietusref24_Acknowledge_r6) (.cond (.t 30) (quietusref24_Acknowledge_b0) (.skip))) (.seq (.reg false quietusref24_Acknowledge_r10) (.ret))))))
def quietusref24_Acknowledge_F : AFunc := ⟨46, [.cell 4 true 5], quietusref24_Acknowledge_c⟩

theorem quietusref24_Acknowledge_cp : compile Try.prog [] f_quietusref24_Acknowledge = some quietusref24_Acknowledge_F := by kernel_rfl

abbrev link_ValidOut_r0 : List AI := [
  ⟨some 1, .box 4 (.t 0), none⟩,
  ⟨some 2, .mv true (.c (.bool false)), none⟩]
abbrev link_ValidOut_r1 : List AI := [
  ⟨some 4, .faddr 3 (.t 1), none⟩,
  ⟨some 5, .load false 1 (.t 4) .any, none⟩,
  ⟨some 6, .call (.c (.fn f_slices_ContainsFunc_string_string)) [(.t 5), (.c (.fn f_link_ValidOut_1))] 0, none⟩,
  ⟨some 3, .mv true (.t 6), none⟩]
abbrev link_ValidOut_r2 : List AI := [
  ⟨some 7, .faddr 0 (.t 1), none⟩,
  ⟨some 8, .load false 1 (.t 7) (.site 1), none⟩,
  ⟨some 9, .call (.c (.fn f_link_within_int)) [(.t 8), (.c (.int .i64 1099511627776))] 2, none⟩,
  ⟨some 10, .mv false (.t 9), none⟩,
  ⟨some 11, .faddr 1 (.t 1), some (10, true)⟩,
  ⟨some 12, .load false 1 (.t 11) (.site 1), some (10, true)⟩,
  ⟨some 13, .load true 4 (.t 1) (.site 1), some (10, true)⟩,
  ⟨some 14, .call (.c (.fn f_link_end)) [(.t 13)] 2, some (10, true)⟩,
  ⟨some 15, .mn (.c (.int .i64 1099511627776)) (.t 14), some (10, true)⟩,
  ⟨some 16, .call (.c (.fn f_link_within_int)) [(.t 12), (.t 15)] 2, some (10, true)⟩,
  ⟨some 17, .pick (.t 10) (.t 16) (.c (.bool false)), none⟩,
  ⟨some 18, .mv false (.t 17), none⟩,
  ⟨some 19, .faddr 3 (.t 1), some (18, true)⟩,
  ⟨some 20, .load false 1 (.t 19) (.site 1), some (18, true)⟩,
  ⟨some 21, .len false (.t 20), some (18, true)⟩,
  ⟨some 22, .bin .leq (.t 21) (.c (.int .i64 1000)), some (18, true)⟩,
  ⟨some 23, .pick (.t 18) (.t 22) (.c (.bool false)), none⟩,
  ⟨some 24, .mv false (.t 23), none⟩,
  ⟨some 25, .faddr 2 (.t 1), some (24, true)⟩,
  ⟨some 26, .load false 1 (.t 25) (.site 1), some (24, true)⟩,
  ⟨some 27, .call (.c (.fn f_link_isBody)) [(.t 26)] 2, some (24, true)⟩,
  ⟨some 28, .pick (.t 24) (.t 27) (.c (.bool false)), none⟩,
  ⟨some 29, .mv false (.t 28), none⟩,
  ⟨some 30, .mv false (.t 3), some (29, true)⟩,
  ⟨some 31, .not (.t 30), some (29, true)⟩,
  ⟨some 32, .pick (.t 29) (.t 31) (.c (.bool false)), none⟩,
  ⟨some 2, .mv true (.t 32), none⟩]
abbrev link_ValidOut_c : ACode := .seq (.reg false link_ValidOut_r0) (.seq (.reg false link_ValidOut_r1) (.seq (.reg true link_ValidOut_r2) (.ret)))
def link_ValidOut_F : AFunc := ⟨33, [.tmp 2], link_ValidOut_c⟩

theorem link_ValidOut_cp : compile Try.prog [] f_link_ValidOut = some link_ValidOut_F := by kernel_rfl

-- loop 0: [1, 3]
abbrev quietusref24_ValidOut_r0 : List AI := [
  ⟨some 1, .box 4 (.t 0), none⟩,
  ⟨some 2, .mv true (.c (.bool false)), none⟩]
abbrev quietusref24_ValidOut_r1 : List AI := [
  ⟨some 4, .faddr 0 (.t 1), none⟩,
  ⟨some 5, .load false 1 (.t 4) (.site 1), none⟩,
  ⟨some 6, .bin .lss (.t 5) (.c (.int .i64 0)), none⟩,
  ⟨some 7, .mv false (.t 6), none⟩,
  ⟨some 8, .faddr 0 (.t 1), some (7, false)⟩,
  ⟨some 9, .load false 1 (.t 8) (.site 1), some (7, false)⟩,
  ⟨some 10, .bin .gtr (.t 9) (.c (.int .i64 1099511627776)), some (7, false)⟩,
  ⟨some 11, .pick (.t 7) (.c (.bool true)) (.t 10), none⟩,
  ⟨some 12, .mv false (.t 11), none⟩,
  ⟨some 13, .faddr 1 (.t 1), some (12, false)⟩,
  ⟨some 14, .load false 1 (.t 13) (.site 1), some (12, false)⟩,
  ⟨some 15, .bin .lss (.t 14) (.c (.int .i64 0)), some (12, false)⟩,
  ⟨some 16, .pick (.t 12) (.c (.bool true)) (.t 15), none⟩,
  ⟨some 17, .mv false (.t 16), none⟩,
  ⟨some 18, .faddr 1 (.t 1), some (17, false)⟩,
  ⟨some 19, .load false 1 (.t 18) (.site 1), some (17, false)⟩,
  ⟨some 20, .bin .gtr (.t 19) (.c (.int .i64 1099511627776)), some (17, false)⟩,
  ⟨some 21, .pick (.t 17) (.c (.bool true)) (.t 20), none⟩,
  ⟨some 22, .mv false (.t 21), none⟩,
  ⟨some 23, .faddr 3 (.t 1), some (22, false)⟩,
  ⟨some 24, .load false 1 (.t 23) (.site 1), some (22, false)⟩,
  ⟨some 25, .len false (.t 24), some (22, false)⟩,
  ⟨some 26, .bin .gtr (.t 25) (.c (.int .i64 1000)), some (22, false)⟩,
  ⟨some 27, .pick (.t 22) (.c (.bool true)) (.t 26), none⟩,
  ⟨some 28, .mv false (.t 27), none⟩,
  ⟨some 29, .faddr 2 (.t 1), some (28, false)⟩,
  ⟨some 30, .load false 1 (.t 29) (.site 1), some (28, false)⟩,
  ⟨some 31, .len true (.t 30), some (28, false)⟩,
  ⟨some 32, .bin .gtr (.t 31) (.c (.int .i64 65536)), some (28, false)⟩,
  ⟨some 33, .pick (.t 28) (.c (.bool true)) (.t 32), none⟩,
  ⟨some 34, .mv false (.t 33), none⟩,
  ⟨some 35, .faddr 1 (.t 1), some (34, false)⟩,
  ⟨some 36, .load false 1 (.t 35) (.site 1), some (34, false)⟩,
  ⟨some 37, .load true 4 (.t 1) (.site 1), some (34, false)⟩,
  ⟨some 38, .call (.c (.fn f_quietusref24_End)) [(.t 37)] 2, some (34, false)⟩,
  ⟨some 39, .bin .gtr (.t 36) (.t 38), some (34, false)⟩,
  ⟨some 40, .pick (.t 34) (.c (.bool true)) (.t 39), none⟩]
abbrev quietusref24_ValidOut_r2 : List AI := [
  ⟨some 2, .mv true (.c (.bool false)), none⟩]
abbrev quietusref24_ValidOut_r3 : List AI := [
  ⟨some 3, .mv true (.c (.int .i64 0)), none⟩]
abbrev quietusref24_ValidOut_r4 : List AI := [
  ⟨some 41, .mv false (.t 3), none⟩,
  ⟨some 42, .faddr 3 (.t 1), none⟩,
  ⟨some 43, .load false 1 (.t 42) .any, none⟩,
  ⟨some 44, .len false (.t 43), none⟩,
  ⟨some 45, .bin .lss (.t 41) (.t 44), none⟩]
abbrev quietusref24_ValidOut_r5 : List AI := [
  ⟨some 48, .faddr 3 (.t 1), none⟩,
  ⟨some 49, .load false 1 (.t 48) .any, none⟩,
  ⟨some 50, .mv false (.t 3), none⟩,
  ⟨some 51, .iaddr 1 (.t 49) (.t 50), none⟩,
  ⟨some 52, .load false 1 (.t 51) .any, none⟩,
  ⟨some 53, .len true (.t 52), none⟩,
  ⟨some 54, .bin .gtr (.t 53) (.c (.int .i64 65536)), none⟩]
abbrev quietusref24_ValidOut_r6 : List AI := [
  ⟨some 2, .mv true (.c (.bool false)), none⟩]
abbrev quietusref24_ValidOut_r7 : List AI := [
  ⟨some 46, .mv false (.t 3), none⟩,
  ⟨some 47, .bin .add (.t 46) (.c (.int .i64 1)), none⟩,
  ⟨some 3, .mv true (.t 47), none⟩]
abbrev quietusref24_ValidOut_l0 : ACode := .seq (.seq (.reg false quietusref24_ValidOut_r4) (.cond (.t 45) (.skip) (.exit 0))) (.seq (.block 1 (.seq (.reg false quietusref24_ValidOut_r5) (.cond (.t 54) (.seq (.reg false quietusref24_ValidOut_r6) (.ret)) (.skip)))) (.reg false quietusref24_ValidOut_r7))
abbrev quietusref24_ValidOut_r8 : List AI := [
  ⟨some 2, .mv true (.c (.bool true)), none⟩]
abbrev quietusref24_ValidOut_c : ACode := .seq (.reg false quietusref24_ValidOut_r0) (.seq (.seq (.reg true quietusref24_ValidOut_r1) (.cond (.t 40) (.seq (.reg false quietusref24_ValidOut_r2) (.ret)) (.skip))) (.seq (.seq (.reg false quietusref24_ValidOut_r3) (.block 0 (.loop quietusref24_ValidOut_l0))) (.seq (.reg false quietusref24_ValidOut_r8) (.ret))))
def quietusref24_ValidOut_F : AFunc := ⟨55, [.tmp 2], quietusref24_ValidOut_c⟩

theorem quietusref24_ValidOut_cp : compile Try.prog [] f_quietusref24_ValidOut = some quietusref24_ValidOut_F := by kernel_rfl

-- loop 0: [2, 3, 5]
abbrev quietusref24_SameOut_r0 : List AI := [
  ⟨some 2, .box 4 (.t 0), none⟩,
  ⟨some 3, .box 4 (.t 1), none⟩,
  ⟨some 4, .mv true (.c (.bool false)), none⟩]
abbrev quietusref24_SameOut_r1 : List AI := [
  ⟨some 6, .faddr 0 (.t 2), none⟩,
  ⟨some 7, .load false 1 (.t 6) .any, none⟩,
  ⟨some 8, .faddr 0 (.t 3), none⟩,
  ⟨some 9, .load false 1 (.t 8) .any, none⟩,
  ⟨some 10, .bin .neq (.t 7) (.t 9), none⟩,
  ⟨some 11, .mv false (.t 10), none⟩,
  ⟨some 12, .faddr 1 (.t 2), some (11, false)⟩,
  ⟨some 13, .load false 1 (.t 12) .any, some (11, false)⟩,
  ⟨some 14, .faddr 1 (.t 3), some (11, false)⟩,
  ⟨some 15, .load false 1 (.t 14) .any, some (11, false)⟩,
  ⟨some 16, .bin .neq (.t 13) (.t 15), some (11, false)⟩,
  ⟨some 17, .pick (.t 11) (.c (.bool true)) (.t 16), none⟩,
  ⟨some 18, .mv false (.t 17), none⟩,
  ⟨some 19, .faddr 2 (.t 2), some (18, false)⟩,
  ⟨some 20, .load false 1 (.t 19) .any, some (18, false)⟩,
  ⟨some 21, .faddr 2 (.t 3), some (18, false)⟩,
  ⟨some 22, .load false 1 (.t 21) .any, some (18, false)⟩,
  ⟨some 23, .bin .neq (.t 20) (.t 22), some (18, false)⟩,
  ⟨some 24, .pick (.t 18) (.c (.bool true)) (.t 23), none⟩,
  ⟨some 25, .mv false (.t 24), none⟩,
  ⟨some 26, .faddr 3 (.t 2), some (25, false)⟩,
  ⟨some 27, .load false 1 (.t 26) .any, some (25, false)⟩,
  ⟨some 28, .len false (.t 27), some (25, false)⟩,
  ⟨some 29, .faddr 3 (.t 3), some (25, false)⟩,
  ⟨some 30, .load false 1 (.t 29) .any, some (25, false)⟩,
  ⟨some 31, .len false (.t 30), some (25, false)⟩,
  ⟨some 32, .bin .neq (.t 28) (.t 31), some (25, false)⟩,
  ⟨some 33, .pick (.t 25) (.c (.bool true)) (.t 32), none⟩]
abbrev quietusref24_SameOut_r2 : List AI := [
  ⟨some 4, .mv true (.c (.bool false)), none⟩]
abbrev quietusref24_SameOut_r3 : List AI := [
  ⟨some 5, .mv true (.c (.int .i64 0)), none⟩]
abbrev quietusref24_SameOut_r4 : List AI := [
  ⟨some 34, .mv false (.t 5), none⟩,
  ⟨some 35, .faddr 3 (.t 2), none⟩,
  ⟨some 36, .load false 1 (.t 35) .any, none⟩,
  ⟨some 37, .len false (.t 36), none⟩,
  ⟨some 38, .bin .lss (.t 34) (.t 37), none⟩]
abbrev quietusref24_SameOut_r5 : List AI := [
  ⟨some 41, .faddr 3 (.t 2), none⟩,
  ⟨some 42, .load false 1 (.t 41) (.site 2), none⟩,
  ⟨some 43, .mv false (.t 5), none⟩,
  ⟨some 44, .iaddr 1 (.t 42) (.t 43), none⟩,
  ⟨some 45, .load false 1 (.t 44) .foreign, none⟩,
  ⟨some 46, .faddr 3 (.t 3), none⟩,
  ⟨some 47, .load false 1 (.t 46) (.site 3), none⟩,
  ⟨some 48, .mv false (.t 5), none⟩,
  ⟨some 49, .iaddr 1 (.t 47) (.t 48), none⟩,
  ⟨some 50, .load false 1 (.t 49) .foreign, none⟩,
  ⟨some 51, .bin .neq (.t 45) (.t 50), none⟩]
abbrev quietusref24_SameOut_r6 : List AI := [
  ⟨some 4, .mv true (.c (.bool false)), none⟩]
abbrev quietusref24_SameOut_r7 : List AI := [
  ⟨some 39, .mv false (.t 5), none⟩,
  ⟨some 40, .bin .add (.t 39) (.c (.int .i64 1)), none⟩,
  ⟨some 5, .mv true (.t 40), none⟩]
abbrev quietusref24_SameOut_l0 : ACode := .seq (.seq (.reg false quietusref24_SameOut_r4) (.cond (.t 38) (.skip) (.exit 0))) (.seq (.block 1 (.seq (.reg true quietusref24_SameOut_r5) (.cond (.t 51) (.seq (.reg false quietusref24_SameOut_r6) (.ret)) (.skip)))) (.reg false quietusref24_SameOut_r7))
abbrev quietusref24_SameOut_r8 : List AI := [
  ⟨some 4, .mv true (.c (.bool true)), none⟩]
abbrev quietusref24_SameOut_c : ACode := .seq (.reg false quietusref24_SameOut_r0) (.seq (.seq (.reg false quietusref24_SameOut_r1) (.cond (.t 33) (.seq (.reg false quietusref24_SameOut_r2) (.ret)) (.skip))) (.seq (.seq (.reg false quietusref24_SameOut_r3) (.block 0 (.loop quietusref24_SameOut_l0))) (.seq (.reg false quietusref24_SameOut_r8) (.ret))))
def quietusref24_SameOut_F : AFunc := ⟨52, [.tmp 4], quietusref24_SameOut_c⟩

theorem quietusref24_SameOut_cp : compile Try.prog [] f_quietusref24_SameOut = some quietusref24_SameOut_F := by kernel_rfl

-- loop 0: [0, 1, 5]
abbrev quietusref24_SameFrames_r0 : List AI := [
  ⟨some 4, .mv true (.c (.bool false)), none⟩]
abbrev quietusref24_SameFrames_r1 : List AI := [
  ⟨some 6, .mv false (.t 0), none⟩,
  ⟨some 7, .len false (.t 6), none⟩,
  ⟨some 8, .mv false (.t 1), none⟩,
  ⟨some 9, .len false (.t 8), none⟩,
  ⟨some 10, .bin .neq (.t 7) (.t 9), none⟩]
abbrev quietusref24_SameFrames_r2 : List AI := [
  ⟨some 4, .mv true (.c (.bool false)), none⟩]
abbrev quietusref24_SameFrames_r3 : List AI := [
  ⟨some 5, .mv true (.c (.int .i64 0)), none⟩]
abbrev quietusref24_SameFrames_r4 : List AI := [
  ⟨some 11, .mv false (.t 5), none⟩,
  ⟨some 12, .mv false (.t 0), none⟩,
  ⟨some 13, .len false (.t 12), none⟩,
  ⟨some 14, .bin .lss (.t 11) (.t 13), none⟩]
abbrev quietusref24_SameFrames_r5 : List AI := [
  ⟨some 17, .mv false (.t 0), none⟩,
  ⟨some 18, .mv false (.t 5), none⟩,
  ⟨some 19, .iaddr 3 (.t 17) (.t 18), none⟩,
  ⟨some 20, .load true 3 (.t 19) .foreign, none⟩,
  ⟨some 21, .mv false (.t 1), none⟩,
  ⟨some 22, .mv false (.t 5), none⟩,
  ⟨some 23, .iaddr 3 (.t 21) (.t 22), none⟩,
  ⟨some 24, .load true 3 (.t 23) .foreign, none⟩,
  ⟨some 25, .eqs true [.b, .i, .s] (.t 20) (.t 24), none⟩]
abbrev quietusref24_SameFrames_r6 : List AI := [
  ⟨some 4, .mv true (.c (.bool false)), none⟩]
abbrev quietusref24_SameFrames_r7 : List AI := [
  ⟨some 15, .mv false (.t 5), none⟩,
  ⟨some 16, .bin .add (.t 15) (.c (.int .i64 1)), none⟩,
  ⟨some 5, .mv true (.t 16), none⟩]
abbrev quietusref24_SameFrames_l0 : ACode := .seq (.seq (.reg false quietusref24_SameFrames_r4) (.cond (.t 14) (.skip) (.exit 0))) (.seq (.block 1 (.seq (.reg true quietusref24_SameFrames_r5) (.cond (.t 25) (.seq (.reg false quietusref24_SameFrames_r6) (.ret)) (.skip)))) (.reg false quietusref24_SameFrames_r7))
abbrev quietusref24_SameFrames_r8 : List AI := [
  ⟨some 4, .mv true (.c (.bool true)), none⟩]
abbrev quietusref24_SameFrames_c : ACode := .seq (.reg false quietusref24_SameFrames_r0) (.seq (.seq (.reg false quietusref24_SameFrames_r1) (.cond (.t 10) (.seq (.reg false quietusref24_SameFrames_r2) (.ret)) (.skip))) (.seq (.seq (.reg false quietusref24_SameFrames_r3) (.block 0 (.loop quietusref24_SameFrames_l0))) (.seq (.reg false quietusref24_SameFrames_r8) (.ret))))
def quietusref24_SameFrames_F : AFunc := ⟨26, [.tmp 4], quietusref24_SameFrames_c⟩

theorem quietusref24_SameFrames_cp : compile Try.prog [] f_quietusref24_SameFrames = some quietusref24_SameFrames_F := by kernel_rfl

-- loop 0: [1, 3, 9, 10, 11]
abbrev link_ValidIn_r0 : List AI := [
  ⟨some 1, .box 2 (.t 0), none⟩,
  ⟨some 2, .mv true (.c (.bool false)), none⟩]
abbrev link_ValidIn_r1 : List AI := [
  ⟨some 6, .faddr 0 (.t 1), none⟩,
  ⟨some 7, .load false 1 (.t 6) .any, none⟩,
  ⟨some 3, .mv true (.t 7), none⟩]
abbrev link_ValidIn_r2 : List AI := [
  ⟨some 8, .faddr 1 (.t 1), none⟩,
  ⟨some 9, .load false 1 (.t 8) .any, none⟩,
  ⟨some 10, .len false (.t 9), none⟩,
  ⟨some 11, .mv false (.c (.int .i64 0)), none⟩]
abbrev link_ValidIn_r3 : List AI := [
  ⟨some 12, .bin .lss (.t 11) (.t 10), none⟩]
abbrev link_ValidIn_r4 : List AI := [
  ⟨some 13, .iaddr 3 (.t 9) (.t 11), none⟩,
  ⟨some 14, .load true 3 (.t 13) .any, none⟩,
  ⟨some 5, .alloc [(.bool false), (.int .i64 0), (.str [])], none⟩,
  ⟨none, .store 3 (.t 5) (.t 14) .any, none⟩]
abbrev link_ValidIn_r5 : List AI := [
  ⟨some 15, .faddr 0 (.t 5), none⟩,
  ⟨some 16, .load false 1 (.t 15) .any, none⟩,
  ⟨some 17, .mv false (.t 16), none⟩,
  ⟨some 18, .faddr 1 (.t 5), some (17, false)⟩,
  ⟨some 19, .load false 1 (.t 18) .any, some (17, false)⟩,
  ⟨some 20, .mv false (.t 3), some (17, false)⟩,
  ⟨some 21, .bin .leq (.t 19) (.t 20), some (17, false)⟩,
  ⟨some 22, .pick (.t 17) (.c (.bool true)) (.t 21), none⟩,
  ⟨some 23, .mv false (.t 22), none⟩,
  ⟨some 24, .faddr 1 (.t 5), some (23, false)⟩,
  ⟨some 25, .load false 1 (.t 24) .any, some (23, false)⟩,
  ⟨some 26, .bin .gtr (.t 25) (.c (.int .i64 2199023255552)), some (23, false)⟩,
  ⟨some 27, .pick (.t 23) (.c (.bool true)) (.t 26), none⟩,
  ⟨some 28, .mv false (.t 27), none⟩,
  ⟨some 29, .faddr 2 (.t 5), some (28, false)⟩,
  ⟨some 30, .load false 1 (.t 29) .any, some (28, false)⟩,
  ⟨some 31, .call (.c (.fn f_link_isBody)) [(.t 30)] 0, some (28, false)⟩,
  ⟨some 32, .not (.t 31), some (28, false)⟩,
  ⟨some 33, .pick (.t 28) (.c (.bool true)) (.t 32), none⟩]
abbrev link_ValidIn_r6 : List AI := [
  ⟨some 2, .mv true (.c (.bool false)), none⟩]
abbrev link_ValidIn_r7 : List AI := [
  ⟨some 34, .faddr 1 (.t 5), none⟩,
  ⟨some 35, .load false 1 (.t 34) .any, none⟩,
  ⟨some 3, .mv true (.t 35), none⟩]
abbrev link_ValidIn_r8 : List AI := [
  ⟨some 36, .bin .add (.t 11) (.c (.int .i64 1)), none⟩,
  ⟨some 11, .mv false (.t 36), none⟩]
abbrev link_ValidIn_l0 : ACode := .seq (.reg false link_ValidIn_r3) (.seq (.cond (.t 12) (.skip) (.exit 0)) (.seq (.block 1 (.seq (.reg false link_ValidIn_r4) (.seq (.seq (.reg false link_ValidIn_r5) (.cond (.t 33) (.seq (.reg false link_ValidIn_r6) (.ret)) (.skip))) (.reg false link_ValidIn_r7)))) (.reg false link_ValidIn_r8)))
abbrev link_ValidIn_r9 : List AI := [
  ⟨some 37, .faddr 0 (.t 1), none⟩,
  ⟨some 38, .load false 1 (.t 37) .any, none⟩,
  ⟨some 39, .call (.c (.fn f_link_within_int)) [(.t 38), (.c (.int .i64 2199023255552))] 0, none⟩,
  ⟨some 40, .mv false (.t 39), none⟩,
  ⟨some 41, .faddr 1 (.t 1), some (40, true)⟩,
  ⟨some 42, .load false 1 (.t 41) .any, some (40, true)⟩,
  ⟨some 43, .len false (.t 42), some (40, true)⟩,
  ⟨some 44, .bin .leq (.t 43) (.c (.int .i64 64)), some (40, true)⟩,
  ⟨some 45, .pick (.t 40) (.t 44) (.c (.bool false)), none⟩,
  ⟨some 2, .mv true (.t 45), none⟩]
abbrev link_ValidIn_c : ACode := .seq (.reg false link_ValidIn_r0) (.seq (.reg false link_ValidIn_r1) (.seq (.seq (.reg false link_ValidIn_r2) (.block 0 (.loop link_ValidIn_l0))) (.seq (.reg false link_ValidIn_r9) (.ret))))
def link_ValidIn_F : AFunc := ⟨46, [.tmp 2], link_ValidIn_c⟩

theorem link_ValidIn_cp : compile Try.prog [] f_link_ValidIn = some link_ValidIn_F := by kernel_rfl

abbrev link_Receive_r0 : List AI := [
  ⟨some 2, .box 2 (.t 0), none⟩,
  ⟨some 3, .box 3 (.t 1), none⟩,
  ⟨some 4, .alloc [(.int .i64 0), .nilS], none⟩,
  ⟨some 5, .mv true (.c .nilS), none⟩,
  ⟨some 6, .mv true (.c (.int .i64 0)), none⟩]
abbrev link_Receive_r1 : List AI := [
  ⟨some 10, .load true 2 (.t 2) .any, none⟩,
  ⟨some 11, .call (.c (.fn f_link_ValidIn)) [(.t 10)] 0, none⟩,
  ⟨some 12, .not (.t 11), none⟩,
  ⟨some 13, .mv false (.t 12), none⟩,
  ⟨some 14, .faddr 1 (.t 3), some (13, false)⟩,
  ⟨some 15, .load false 1 (.t 14) .any, some (13, false)⟩,
  ⟨some 16, .call (.c (.fn f_link_within_int)) [(.t 15), (.c (.int .i64 1099511627776))] 0, some (13, false)⟩,
  ⟨some 17, .not (.t 16), some (13, false)⟩,
  ⟨some 18, .pick (.t 13) (.c (.bool true)) (.t 17), none⟩,
  ⟨some 19, .mv false (.t 18), none⟩,
  ⟨some 20, .faddr 2 (.t 3), some (19, false)⟩,
  ⟨some 21, .load false 1 (.t 20) .any, some (19, false)⟩,
  ⟨some 22, .call (.c (.fn f_link_isBody)) [(.t 21)] 0, some (19, false)⟩,
  ⟨some 23, .not (.t 22), some (19, false)⟩,
  ⟨some 24, .pick (.t 19) (.c (.bool true)) (.t 23), none⟩]
abbrev link_Receive_r2 : List AI := [
  ⟨some 25, .load true 2 (.t 2) .any, none⟩,
  ⟨none, .store 2 (.t 4) (.t 25) .any, none⟩,
  ⟨some 5, .mv true (.c .nilS), none⟩,
  ⟨some 6, .mv true (.c (.int .i64 1)), none⟩]
abbrev link_Receive_r3 : List AI := [
  ⟨some 27, .faddr 1 (.t 2), none⟩,
  ⟨some 28, .load false 1 (.t 27) .any, none⟩,
  ⟨some 29, .faddr 1 (.t 3), none⟩,
  ⟨some 30, .load false 1 (.t 29) .any, none⟩,
  ⟨some 31, .call (.c (.fn f_slices_BinarySearchFunc_api_Frame_api_Frame_int)) [(.t 28), (.t 30), (.c (.fn f_link_Receive_1))] 0, none⟩,
  ⟨some 26, .mv false (.t 31), none⟩,
  ⟨some 32, .ext (.t 26) 0, none⟩,
  ⟨some 33, .ext (.t 26) 1, none⟩,
  ⟨some 7, .mv true (.t 32), none⟩,
  ⟨some 8, .mv true (.t 33), none⟩]
abbrev link_Receive_r4 : List AI := [
  ⟨some 35, .faddr 1 (.t 3), none⟩,
  ⟨some 36, .load false 1 (.t 35) .any, none⟩,
  ⟨some 37, .faddr 0 (.t 2), none⟩,
  ⟨some 38, .load false 1 (.t 37) .any, none⟩,
  ⟨some 39, .bin .lss (.t 36) (.t 38), none⟩,
  ⟨some 34, .mv true (.t 39), none⟩]
abbrev link_Receive_r5 : List AI := [
  ⟨some 40, .faddr 0 (.t 3), none⟩,
  ⟨some 41, .load false 1 (.t 40) .any, none⟩,
  ⟨some 42, .mv false (.t 41), none⟩,
  ⟨some 43, .faddr 1 (.t 3), some (42, true)⟩,
  ⟨some 44, .load false 1 (.t 43) .any, some (42, true)⟩,
  ⟨some 45, .faddr 0 (.t 2), some (42, true)⟩,
  ⟨some 46, .load false 1 (.t 45) .any, some (42, true)⟩,
  ⟨some 47, .bin .eql (.t 44) (.t 46), some (42, true)⟩,
  ⟨some 48, .pick (.t 42) (.t 47) (.c (.bool false)), none⟩,
  ⟨some 34, .mv true (.t 48), none⟩]
abbrev link_Receive_r6 : List AI := [
  ⟨some 49, .load true 2 (.t 2) .any, none⟩,
  ⟨none, .store 2 (.t 4) (.t 49) .any, none⟩,
  ⟨some 5, .mv true (.c .nilS), none⟩,
  ⟨some 6, .mv true (.c (.int .i64 0)), none⟩]
abbrev link_Receive_r7 : List AI := [
  ⟨some 51, .faddr 0 (.t 3), none⟩,
  ⟨some 52, .load false 1 (.t 51) .any, none⟩,
  ⟨some 53, .not (.t 52), none⟩,
  ⟨some 54, .mv false (.t 53), none⟩,
  ⟨some 55, .faddr 1 (.t 3), some (54, true)⟩,
  ⟨some 56, .load false 1 (.t 55) .any, some (54, true)⟩,
  ⟨some 57, .faddr 0 (.t 2), some (54, true)⟩,
  ⟨some 58, .load false 1 (.t 57) .any, some (54, true)⟩,
  ⟨some 59, .bin .gtr (.t 56) (.t 58), some (54, true)⟩,
  ⟨some 60, .pick (.t 54) (.t 59) (.c (.bool false)), none⟩,
  ⟨some 50, .mv true (.t 60), none⟩]
abbrev link_Receive_r8 : List AI := [
  ⟨some 61, .mv false (.t 8), none⟩,
  ⟨some 62, .not (.t 61), none⟩,
  ⟨some 63, .mv false (.t 62), none⟩,
  ⟨some 64, .faddr 1 (.t 2), some (63, true)⟩,
  ⟨some 65, .load false 1 (.t 64) .any, some (63, true)⟩,
  ⟨some 66, .len false (.t 65), some (63, true)⟩,
  ⟨some 67, .bin .lss (.t 66) (.c (.int .i64 64)), some (63, true)⟩,
  ⟨some 68, .pick (.t 63) (.t 67) (.c (.bool false)), none⟩]
abbrev link_Receive_r9 : List AI := [
  ⟨some 69, .faddr 1 (.t 2), none⟩,
  ⟨some 70, .load false 1 (.t 69) (.site 2), none⟩,
  ⟨some 72, .mv false (.t 7), none⟩,
  ⟨some 73, .load true 3 (.t 3) (.site 3), none⟩,
  ⟨some 74, .mkslice 3 1 (.agg [(.bool false), (.int .i64 0), (.str [])]) [(0, (.t 73))], none⟩,
  ⟨some 71, .call (.c (.fn f_slices_Clone_api_Frame_api_Frame)) [(.t 70)] 2, none⟩,
  ⟨some 75, .call (.c (.fn f_slices_Insert_api_Frame_api_Frame)) [(.t 71), (.t 72), (.t 74)] 2, none⟩,
  ⟨some 76, .faddr 1 (.t 2), none⟩,
  ⟨none, .store 1 (.t 76) (.t 75) (.site 2), none⟩]
abbrev link_Receive_r10 : List AI := [
  ⟨some 77, .load true 2 (.t 2) .any, none⟩,
  ⟨none, .store 2 (.t 4) (.t 77) .any, none⟩,
  ⟨some 5, .mv true (.c .nilS), none⟩,
  ⟨some 6, .mv true (.c (.int .i64 0)), none⟩]
abbrev link_Receive_b0 : ACode := .seq (.seq (.reg false link_Receive_r8) (.cond (.t 68) (.reg true link_Receive_r9) (.skip))) (.seq (.reg false link_Receive_r10) (.ret))
abbrev link_Receive_b1 : ACode := .seq (.reg false link_Receive_r7) (.cond (.t 50) (link_Receive_b0) (.skip))
abbrev link_Receive_r11 : List AI := [
  ⟨some 78, .load true 3 (.t 3) .any, none⟩,
  ⟨some 79, .mkG 3 1 (.agg [(.bool false), (.int .i64 0), (.str [])]) [(0, (.t 78))], none⟩,
  ⟨some 9, .alloc [.nilS], none⟩,
  ⟨none, .store 1 (.t 9) (.t 79) .any, none⟩]
abbrev link_Receive_r12 : List AI := [
  ⟨some 80, .faddr 1 (.t 3), none⟩,
  ⟨some 81, .load false 1 (.t 80) .any, none⟩,
  ⟨some 82, .faddr 0 (.t 2), none⟩,
  ⟨none, .store 1 (.t 82) (.t 81) .any, none⟩]
abbrev link_Receive_r13 : List AI := [
  ⟨some 83, .faddr 0 (.t 3), none⟩,
  ⟨some 84, .load false 1 (.t 83) .any, none⟩,
  ⟨some 85, .not (.t 84), none⟩]
abbrev link_Receive_r14 : List AI := [
  ⟨some 86, .faddr 0 (.t 2), none⟩,
  ⟨some 87, .load false 1 (.t 86) .any, none⟩,
  ⟨some 88, .bin .add (.t 87) (.c (.int .i64 1)), none⟩,
  ⟨some 89, .faddr 0 (.t 2), none⟩,
  ⟨none, .store 1 (.t 89) (.t 88) .any, none⟩]
abbrev link_Receive_r15 : List AI := [
  ⟨some 90, .faddr 1 (.t 2), none⟩,
  ⟨some 91, .load false 1 (.t 90) .any, none⟩,
  ⟨some 92, .call (.c (.fn f_slices_Clone_api_Frame_api_Frame)) [(.t 91)] 0, none⟩,
  ⟨some 93, .mkfunc f_link_Receive_2 [(.t 2), (.t 9)], none⟩,
  ⟨some 94, .call (.c (.fn f_slices_DeleteFunc_api_Frame_api_Frame)) [(.t 92), (.t 93)] 0, none⟩,
  ⟨some 95, .faddr 1 (.t 2), none⟩,
  ⟨none, .store 1 (.t 95) (.t 94) .any, none⟩]
abbrev link_Receive_r16 : List AI := [
  ⟨some 96, .load true 2 (.t 2) (.site 2), none⟩,
  ⟨some 97, .load false 1 (.t 9) (.site 9), none⟩,
  ⟨none, .store 2 (.t 4) (.t 96) (.site 4), none⟩,
  ⟨some 5, .mv true (.t 97), none⟩,
  ⟨some 6, .mv true (.c (.int .i64 0)), none⟩]
abbrev link_Receive_c : ACode := .seq (.reg false link_Receive_r0) (.seq (.seq (.reg false link_Receive_r1) (.cond (.t 24) (.seq (.reg false link_Receive_r2) (.ret)) (.skip))) (.seq (.reg false link_Receive_r3) (.seq (.block 0 (.seq (.seq (.reg false link_Receive_r4) (.cond (.t 34) (.skip) (.reg false link_Receive_r5))) (.cond (.t 34) (.seq (.reg false link_Receive_r6) (.ret)) (link_Receive_b1)))) (.seq (.reg false link_Receive_r11) (.seq (.seq (.reg false link_Receive_r12) (.seq (.reg false link_Receive_r13) (.cond (.t 85) (.reg false link_Receive_r14) (.skip)))) (.seq (.reg false link_Receive_r15) (.seq (.reg true link_Receive_r16) (.ret))))))))
def link_Receive_F : AFunc := ⟨98, [.cell 4 true 2, .tmp 5, .tmp 6], link_Receive_c⟩

theorem link_Receive_cp : compile Try.prog [79] f_link_Receive = some link_Receive_F := by kernel_rfl

abbrev quietusref24_SameIn_r0 : List AI := [
  ⟨some 2, .box 2 (.t 0), none⟩,
  ⟨some 3, .box 2 (.t 1), none⟩,
  ⟨some 4, .mv true (.c (.bool false)), none⟩]
abbrev quietusref24_SameIn_r1 : List AI := [
  ⟨some 5, .faddr 0 (.t 2), none⟩,
  ⟨some 6, .load false 1 (.t 5) .any, none⟩,
  ⟨some 7, .faddr 0 (.t 3), none⟩,
  ⟨some 8, .load false 1 (.t 7) .any, none⟩,
  ⟨some 9, .bin .eql (.t 6) (.t 8), none⟩,
  ⟨some 10, .mv false (.t 9), none⟩,
  ⟨some 11, .faddr 1 (.t 2), some (10, true)⟩,
  ⟨some 12, .load false 1 (.t 11) .any, some (10, true)⟩,
  ⟨some 13, .faddr 1 (.t 3), some (10, true)⟩,
  ⟨some 14, .load false 1 (.t 13) .any, some (10, true)⟩,
  ⟨some 15, .call (.c (.fn f_quietusref24_SameFrames)) [(.t 12), (.t 14)] 0, some (10, true)⟩,
  ⟨some 16, .pick (.t 10) (.t 15) (.c (.bool false)), none⟩,
  ⟨some 4, .mv true (.t 16), none⟩]
abbrev quietusref24_SameIn_c : ACode := .seq (.reg false quietusref24_SameIn_r0) (.seq (.reg false quietusref24_SameIn_r1) (.ret))
def quietusref24_SameIn_F : AFunc := ⟨17, [.tmp 4], quietusref24_SameIn_c⟩

theorem quietusref24_SameIn_cp : compile Try.prog [] f_quietusref24_SameIn = some quietusref24_SameIn_F := by kernel_rfl

abbrev link_Restart_r0 : List AI := [
  ⟨some 1, .box 2 (.t 0), none⟩,
  ⟨some 2, .alloc [(.int .i64 0), .nilS], none⟩]
abbrev link_Restart_r1 : List AI := [
  ⟨some 3, .faddr 0 (.t 1), none⟩,
  ⟨some 4, .load false 1 (.t 3) .any, none⟩,
  ⟨some 5, .build [(.int .i64 0), .nilS] [(0, 1, (.t 4))], none⟩,
  ⟨none, .store 2 (.t 2) (.t 5) .any, none⟩]
abbrev link_Restart_c : ACode := .seq (.reg false link_Restart_r0) (.seq (.reg false link_Restart_r1) (.ret))
def link_Restart_F : AFunc := ⟨6, [.cell 2 true 2], link_Restart_c⟩

theorem link_Restart_cp : compile Try.prog [] f_link_Restart = some link_Restart_F := by kernel_rfl

-- loop 0: [1, 3, 4]
abbrev quietusref24_ValidIn_r0 : List AI := [
  ⟨some 1, .box 2 (.t 0), none⟩,
  ⟨some 2, .mv true (.c (.bool false)), none⟩]
abbrev quietusref24_ValidIn_r1 : List AI := [
  ⟨some 6, .faddr 0 (.t 1), none⟩,
  ⟨some 7, .load false 1 (.t 6) .any, none⟩,
  ⟨some 8, .bin .lss (.t 7) (.c (.int .i64 0)), none⟩,
  ⟨some 9, .mv false (.t 8), none⟩,
  ⟨some 10, .faddr 0 (.t 1), some (9, false)⟩,
  ⟨some 11, .load false 1 (.t 10) .any, some (9, false)⟩,
  ⟨some 12, .bin .gtr (.t 11) (.c (.int .i64 2199023255552)), some (9, false)⟩,
  ⟨some 13, .pick (.t 9) (.c (.bool true)) (.t 12), none⟩,
  ⟨some 14, .mv false (.t 13), none⟩,
  ⟨some 15, .faddr 1 (.t 1), some (14, false)⟩,
  ⟨some 16, .load false 1 (.t 15) .any, some (14, false)⟩,
  ⟨some 17, .len false (.t 16), some (14, false)⟩,
  ⟨some 18, .bin .gtr (.t 17) (.c (.int .i64 64)), some (14, false)⟩,
  ⟨some 19, .pick (.t 14) (.c (.bool true)) (.t 18), none⟩]
abbrev quietusref24_ValidIn_r2 : List AI := [
  ⟨some 2, .mv true (.c (.bool false)), none⟩]
abbrev quietusref24_ValidIn_r3 : List AI := [
  ⟨some 20, .faddr 0 (.t 1), none⟩,
  ⟨some 21, .load false 1 (.t 20) .any, none⟩,
  ⟨some 3, .mv true (.t 21), none⟩]
abbrev quietusref24_ValidIn_r4 : List AI := [
  ⟨some 4, .mv true (.c (.int .i64 0)), none⟩]
abbrev quietusref24_ValidIn_r5 : List AI := [
  ⟨some 22, .mv false (.t 4), none⟩,
  ⟨some 23, .faddr 1 (.t 1), none⟩,
  ⟨some 24, .load false 1 (.t 23) .any, none⟩,
  ⟨some 25, .len false (.t 24), none⟩,
  ⟨some 26, .bin .lss (.t 22) (.t 25), none⟩]
abbrev quietusref24_ValidIn_r6 : List AI := [
  ⟨some 29, .faddr 1 (.t 1), none⟩,
  ⟨some 30, .load false 1 (.t 29) .any, none⟩,
  ⟨some 31, .mv false (.t 4), none⟩,
  ⟨some 32, .iaddr 3 (.t 30) (.t 31), none⟩,
  ⟨some 33, .load true 3 (.t 32) .any, none⟩,
  ⟨some 5, .alloc [(.bool false), (.int .i64 0), (.str [])], none⟩,
  ⟨none, .store 3 (.t 5) (.t 33) .any, none⟩]
abbrev quietusref24_ValidIn_r7 : List AI := [
  ⟨some 34, .faddr 0 (.t 5), none⟩,
  ⟨some 35, .load false 1 (.t 34) .any, none⟩,
  ⟨some 36, .mv false (.t 35), none⟩,
  ⟨some 37, .faddr 1 (.t 5), some (36, false)⟩,
  ⟨some 38, .load false 1 (.t 37) .any, some (36, false)⟩,
  ⟨some 39, .mv false (.t 3), some (36, false)⟩,
  ⟨some 40, .bin .leq (.t 38) (.t 39), some (36, false)⟩,
  ⟨some 41, .pick (.t 36) (.c (.bool true)) (.t 40), none⟩,
  ⟨some 42, .mv false (.t 41), none⟩,
  ⟨some 43, .faddr 1 (.t 5), some (42, false)⟩,
  ⟨some 44, .load false 1 (.t 43) .any, some (42, false)⟩,
  ⟨some 45, .bin .gtr (.t 44) (.c (.int .i64 2199023255552)), some (42, false)⟩,
  ⟨some 46, .pick (.t 42) (.c (.bool true)) (.t 45), none⟩,
  ⟨some 47, .mv false (.t 46), none⟩,
  ⟨some 48, .faddr 2 (.t 5), some (47, false)⟩,
  ⟨some 49, .load false 1 (.t 48) .any, some (47, false)⟩,
  ⟨some 50, .len true (.t 49), some (47, false)⟩,
  ⟨some 51, .bin .gtr (.t 50) (.c (.int .i64 65536)), some (47, false)⟩,
  ⟨some 52, .pick (.t 47) (.c (.bool true)) (.t 51), none⟩]
abbrev quietusref24_ValidIn_r8 : List AI := [
  ⟨some 2, .mv true (.c (.bool false)), none⟩]
abbrev quietusref24_ValidIn_r9 : List AI := [
  ⟨some 53, .faddr 1 (.t 5), none⟩,
  ⟨some 54, .load false 1 (.t 53) .any, none⟩,
  ⟨some 3, .mv true (.t 54), none⟩]
abbrev quietusref24_ValidIn_r10 : List AI := [
  ⟨some 27, .mv false (.t 4), none⟩,
  ⟨some 28, .bin .add (.t 27) (.c (.int .i64 1)), none⟩,
  ⟨some 4, .mv true (.t 28), none⟩]
abbrev quietusref24_ValidIn_l0 : ACode := .seq (.seq (.reg false quietusref24_ValidIn_r5) (.cond (.t 26) (.skip) (.exit 0))) (.seq (.block 1 (.seq (.reg false quietusref24_ValidIn_r6) (.seq (.seq (.reg false quietusref24_ValidIn_r7) (.cond (.t 52) (.seq (.reg false quietusref24_ValidIn_r8) (.ret)) (.skip))) (.reg false quietusref24_ValidIn_r9)))) (.reg false quietusref24_ValidIn_r10))
abbrev quietusref24_ValidIn_r11 : List AI := [
  ⟨some 2, .mv true (.c (.bool true)), none⟩]
abbrev quietusref24_ValidIn_c : ACode := .seq (.reg false quietusref24_ValidIn_r0) (.seq (.seq (.reg false quietusref24_ValidIn_r1) (.cond (.t 19) (.seq (.reg false quietusref24_ValidIn_r2) (.ret)) (.skip))) (.seq (.reg false quietusref24_ValidIn_r3) (.seq (.seq (.reg false quietusref24_ValidIn_r4) (.block 0 (.loop quietusref24_ValidIn_l0))) (.seq (.reg false quietusref24_ValidIn_r11) (.ret)))))
def quietusref24_ValidIn_F : AFunc := ⟨55, [.tmp 2], quietusref24_ValidIn_c⟩

theorem quietusref24_ValidIn_cp : compile Try.prog [] f_quietusref24_ValidIn = some quietusref24_ValidIn_F := by kernel_rfl

abbrev quietuslaw24_actg_r0 : List AI := [
  ⟨some 2, .box 10 (.t 0), none⟩,
  ⟨some 3, .box 2 (.t 1), none⟩,
  ⟨some 4, .alloc [(.int .i64 0), (.int .i64 0), (.str []), .nilS, (.int .i64 0), .nilS, .nilS, .nilS, .nilS, (.bool false)], none⟩]
abbrev quietuslaw24_actg_r1 : List AI := [
  ⟨some 18, .faddr 0 (.t 2), none⟩,
  ⟨some 19, .faddr 0 (.t 18), none⟩,
  ⟨some 20, .load false 1 (.t 19) .any, none⟩,
  ⟨some 21, .faddr 0 (.t 2), none⟩,
  ⟨some 22, .faddr 3 (.t 21), none⟩,
  ⟨some 23, .load false 1 (.t 22) .any, none⟩,
  ⟨some 24, .len false (.t 23), none⟩,
  ⟨some 25, .bin .add (.t 20) (.t 24), none⟩,
  ⟨some 5, .mv true (.t 25), none⟩]
abbrev quietuslaw24_actg_r2 : List AI := [
  ⟨some 26, .faddr 0 (.t 3), none⟩,
  ⟨some 27, .load false 1 (.t 26) .any, none⟩,
  ⟨some 28, .bin .rem (.t 27) (.c (.int .u8 6)), none⟩]
abbrev quietuslaw24_actg_r3 : List AI := [
  ⟨some 30, .bin .eql (.t 28) (.c (.int .u8 0)), none⟩,
  ⟨some 29, .mv true (.t 30), none⟩]
abbrev quietuslaw24_actg_r4 : List AI := [
  ⟨some 32, .faddr 0 (.t 2), none⟩,
  ⟨some 33, .load true 4 (.t 32) (.site 2), none⟩,
  ⟨some 34, .mv false (.t 5), none⟩,
  ⟨some 6, .alloc [(.int .i64 0), (.int .i64 0), (.str []), .nilS], none⟩,
  ⟨some 35, .call (.c (.fn f_quietuslaw24_message)) [(.t 34)] 2, none⟩,
  ⟨some 36, .call (.c (.fn f_link_Put)) [(.t 33), (.t 35)] 2, none⟩,
  ⟨some 31, .mv false (.t 36), none⟩,
  ⟨some 37, .ext (.t 31) 0, none⟩,
  ⟨some 38, .ext (.t 31) 1, none⟩,
  ⟨none, .store 4 (.t 6) (.t 37) (.site 6), none⟩,
  ⟨some 7, .mv true (.t 38), none⟩]
abbrev quietuslaw24_actg_r5 : List AI := [
  ⟨some 39, .load true 4 (.t 6) .any, none⟩,
  ⟨some 40, .faddr 0 (.t 2), none⟩,
  ⟨none, .store 4 (.t 40) (.t 39) .any, none⟩]
abbrev quietuslaw24_actg_r6 : List AI := [
  ⟨some 41, .faddr 9 (.t 2), none⟩,
  ⟨some 42, .load false 1 (.t 41) .any, none⟩,
  ⟨some 43, .mv false (.t 42), none⟩,
  ⟨some 44, .mv false (.t 7), some (43, false)⟩,
  ⟨some 45, .bin .neq (.t 44) (.c (.int .i64 0)), some (43, false)⟩,
  ⟨some 46, .pick (.t 43) (.c (.bool true)) (.t 45), none⟩,
  ⟨some 47, .faddr 9 (.t 2), none⟩,
  ⟨none, .store 1 (.t 47) (.t 46) .any, none⟩]
abbrev quietuslaw24_actg_b0 : ACode := .seq (.reg true quietuslaw24_actg_r4) (.seq (.reg false quietuslaw24_actg_r5) (.reg false quietuslaw24_actg_r6))
abbrev quietuslaw24_actg_r7 : List AI := [
  ⟨some 49, .bin .eql (.t 28) (.c (.int .u8 1)), none⟩,
  ⟨some 48, .mv true (.t 49), none⟩]
abbrev quietuslaw24_actg_r8 : List AI := [
  ⟨some 50, .faddr 0 (.t 2), none⟩,
  ⟨some 51, .faddr 0 (.t 50), none⟩,
  ⟨some 52, .load false 1 (.t 51) (.site 2), none⟩,
  ⟨some 53, .faddr 1 (.t 3), none⟩,
  ⟨some 54, .load false 1 (.t 53) (.site 3), none⟩,
  ⟨some 55, .conv .i64 (.t 54), none⟩,
  ⟨some 56, .faddr 0 (.t 2), none⟩,
  ⟨some 57, .faddr 3 (.t 56), none⟩,
  ⟨some 58, .load false 1 (.t 57) (.site 2), none⟩,
  ⟨some 59, .len false (.t 58), none⟩,
  ⟨some 60, .bin .add (.t 59) (.c (.int .i64 1)), none⟩,
  ⟨some 61, .bin .rem (.t 55) (.t 60), none⟩,
  ⟨some 62, .bin .add (.t 52) (.t 61), none⟩,
  ⟨some 8, .mv true (.t 62), none⟩]
abbrev quietuslaw24_actg_r9 : List AI := [
  ⟨some 64, .faddr 0 (.t 2), none⟩,
  ⟨some 65, .load true 4 (.t 64) (.site 2), none⟩,
  ⟨some 66, .mv false (.t 8), none⟩,
  ⟨some 67, .mv false (.t 8), none⟩,
  ⟨some 9, .alloc [(.int .i64 0), (.int .i64 0), (.str []), .nilS], none⟩,
  ⟨some 68, .call (.c (.fn f_quietuslaw24_summary)) [(.t 67)] 2, none⟩,
  ⟨some 69, .call (.c (.fn f_link_Fold)) [(.t 65), (.t 66), (.t 68)] 2, none⟩,
  ⟨some 63, .mv false (.t 69), none⟩,
  ⟨some 70, .ext (.t 63) 0, none⟩,
  ⟨some 71, .ext (.t 63) 1, none⟩,
  ⟨none, .store 4 (.t 9) (.t 70) (.site 9), none⟩,
  ⟨some 10, .mv true (.t 71), none⟩]
abbrev quietuslaw24_actg_r10 : List AI := [
  ⟨some 72, .load true 4 (.t 9) .any, none⟩,
  ⟨some 73, .faddr 0 (.t 2), none⟩,
  ⟨none, .store 4 (.t 73) (.t 72) .any, none⟩]
abbrev quietuslaw24_actg_r11 : List AI := [
  ⟨some 74, .faddr 9 (.t 2), none⟩,
  ⟨some 75, .load false 1 (.t 74) .any, none⟩,
  ⟨some 76, .mv false (.t 75), none⟩,
  ⟨some 77, .mv false (.t 10), some (76, false)⟩,
  ⟨some 78, .bin .neq (.t 77) (.c (.int .i64 0)), some (76, false)⟩,
  ⟨some 79, .pick (.t 76) (.c (.bool true)) (.t 78), none⟩,
  ⟨some 80, .faddr 9 (.t 2), none⟩,
  ⟨none, .store 1 (.t 80) (.t 79) .any, none⟩]
abbrev quietuslaw24_actg_b1 : ACode := .seq (.reg true quietuslaw24_actg_r8) (.seq (.reg true quietuslaw24_actg_r9) (.seq (.reg false quietuslaw24_actg_r10) (.reg false quietuslaw24_actg_r11)))
abbrev quietuslaw24_actg_r12 : List AI := [
  ⟨some 82, .bin .eql (.t 28) (.c (.int .u8 2)), none⟩,
  ⟨some 81, .mv true (.t 82), none⟩]
abbrev quietuslaw24_actg_r13 : List AI := [
  ⟨some 84, .faddr 0 (.t 2), none⟩,
  ⟨some 85, .load true 4 (.t 84) .any, none⟩,
  ⟨some 86, .faddr 1 (.t 3), none⟩,
  ⟨some 87, .load false 1 (.t 86) .any, none⟩,
  ⟨some 88, .conv .i64 (.t 87), none⟩,
  ⟨some 89, .bin .rem (.t 88) (.c (.int .i64 20)), none⟩,
  ⟨some 90, .bin .add (.c (.int .i64 1)) (.t 89), none⟩,
  ⟨some 91, .call (.c (.fn f_link_Frames)) [(.t 85), (.t 90)] 0, none⟩,
  ⟨some 83, .mv false (.t 91), none⟩,
  ⟨some 92, .ext (.t 83) 0, none⟩,
  ⟨some 93, .ext (.t 83) 1, none⟩,
  ⟨some 11, .mv true (.t 92), none⟩,
  ⟨some 12, .mv true (.t 93), none⟩]
abbrev quietuslaw24_actg_r14 : List AI := [
  ⟨some 94, .mkslice 3 0 (.agg [(.bool false), (.int .i64 0), (.str [])]) [], none⟩,
  ⟨some 95, .faddr 6 (.t 2), none⟩,
  ⟨some 96, .load false 1 (.t 95) .any, none⟩,
  ⟨some 97, .append 3 32 (.t 94) (.t 96), none⟩,
  ⟨some 98, .mv false (.t 11), none⟩,
  ⟨some 99, .append 3 32 (.t 97) (.t 98), none⟩,
  ⟨some 100, .faddr 6 (.t 2), none⟩,
  ⟨none, .store 1 (.t 100) (.t 99) .any, none⟩]
abbrev quietuslaw24_actg_r15 : List AI := [
  ⟨some 101, .faddr 9 (.t 2), none⟩,
  ⟨some 102, .load false 1 (.t 101) .any, none⟩,
  ⟨some 103, .mv false (.t 102), none⟩,
  ⟨some 104, .mv false (.t 12), some (103, false)⟩,
  ⟨some 105, .bin .neq (.t 104) (.c (.int .i64 0)), some (103, false)⟩,
  ⟨some 106, .pick (.t 103) (.c (.bool true)) (.t 105), none⟩,
  ⟨some 107, .faddr 9 (.t 2), none⟩,
  ⟨none, .store 1 (.t 107) (.t 106) .any, none⟩]
abbrev quietuslaw24_actg_b2 : ACode := .seq (.reg false quietuslaw24_actg_r13) (.seq (.reg false quietuslaw24_actg_r14) (.reg false quietuslaw24_actg_r15))
abbrev quietuslaw24_actg_r16 : List AI := [
  ⟨some 109, .bin .eql (.t 28) (.c (.int .u8 3)), none⟩,
  ⟨some 108, .mv true (.t 109), none⟩]
abbrev quietuslaw24_actg_r17 : List AI := [
  ⟨some 110, .faddr 6 (.t 2), none⟩,
  ⟨some 111, .load false 1 (.t 110) .any, none⟩,
  ⟨some 112, .len false (.t 111), none⟩,
  ⟨some 113, .bin .gtr (.t 112) (.c (.int .i64 0)), none⟩]
abbrev quietuslaw24_actg_r18 : List AI := [
  ⟨some 115, .faddr 4 (.t 2), none⟩,
  ⟨some 116, .load true 2 (.t 115) (.site 2), none⟩,
  ⟨some 117, .faddr 6 (.t 2), none⟩,
  ⟨some 118, .load false 1 (.t 117) (.site 2), none⟩,
  ⟨some 119, .faddr 1 (.t 3), none⟩,
  ⟨some 120, .load false 1 (.t 119) (.site 3), none⟩,
  ⟨some 121, .conv .i64 (.t 120), none⟩,
  ⟨some 122, .faddr 6 (.t 2), none⟩,
  ⟨some 123, .load false 1 (.t 122) (.site 2), none⟩,
  ⟨some 124, .len false (.t 123), none⟩,
  ⟨some 125, .bin .rem (.t 121) (.t 124), none⟩,
  ⟨some 126, .iaddr 3 (.t 118) (.t 125), none⟩,
  ⟨some 127, .load true 3 (.t 126) .foreign, none⟩,
  ⟨some 13, .alloc [(.int .i64 0), .nilS], none⟩,
  ⟨some 128, .call (.c (.fn f_link_Receive)) [(.t 116), (.t 127)] 1, none⟩,
  ⟨some 114, .mv false (.t 128), none⟩,
  ⟨some 129, .ext (.t 114) 0, none⟩,
  ⟨some 130, .ext (.t 114) 1, none⟩,
  ⟨some 131, .ext (.t 114) 2, none⟩,
  ⟨none, .store 2 (.t 13) (.t 129) (.site 13), none⟩,
  ⟨some 14, .mv true (.t 130), none⟩,
  ⟨some 15, .mv true (.t 131), none⟩]
abbrev quietuslaw24_actg_r19 : List AI := [
  ⟨some 132, .load true 2 (.t 13) .any, none⟩,
  ⟨some 133, .faddr 4 (.t 2), none⟩,
  ⟨none, .store 2 (.t 133) (.t 132) .any, none⟩]
abbrev quietuslaw24_actg_r20 : List AI := [
  ⟨some 134, .mkG 3 0 (.agg [(.bool false), (.int .i64 0), (.str [])]) [], none⟩,
  ⟨some 135, .faddr 8 (.t 2), none⟩,
  ⟨some 136, .load false 1 (.t 135) .any, none⟩,
  ⟨some 137, .appG 3 32 [(.bool false), (.int .i64 0), (.str [])] (.t 134) (.t 136), none⟩,
  ⟨some 138, .mv false (.t 14), none⟩,
  ⟨some 139, .appG 3 32 [(.bool false), (.int .i64 0), (.str [])] (.t 137) (.t 138), none⟩,
  ⟨some 140, .faddr 8 (.t 2), none⟩,
  ⟨none, .store 1 (.t 140) (.t 139) .any, none⟩]
abbrev quietuslaw24_actg_r21 : List AI := [
  ⟨some 141, .mkslice 1 0 (.int .i64 0) [], none⟩,
  ⟨some 142, .faddr 7 (.t 2), none⟩,
  ⟨some 143, .load false 1 (.t 142) (.site 2), none⟩,
  ⟨some 144, .append 1 8 (.t 141) (.t 143), none⟩,
  ⟨some 145, .faddr 0 (.t 13), none⟩,
  ⟨some 146, .load false 1 (.t 145) (.site 13), none⟩,
  ⟨some 147, .mkslice 1 1 (.int .i64 0) [(0, (.t 146))], none⟩,
  ⟨some 148, .append 1 8 (.t 144) (.t 147), none⟩,
  ⟨some 149, .faddr 7 (.t 2), none⟩,
  ⟨none, .store 1 (.t 149) (.t 148) (.site 2), none⟩]
abbrev quietuslaw24_actg_r22 : List AI := [
  ⟨some 150, .faddr 9 (.t 2), none⟩,
  ⟨some 151, .load false 1 (.t 150) .any, none⟩,
  ⟨some 152, .mv false (.t 151), none⟩,
  ⟨some 153, .mv false (.t 15), some (152, false)⟩,
  ⟨some 154, .bin .neq (.t 153) (.c (.int .i64 0)), some (152, false)⟩,
  ⟨some 155, .pick (.t 152) (.c (.bool true)) (.t 154), none⟩,
  ⟨some 156, .faddr 9 (.t 2), none⟩,
  ⟨none, .store 1 (.t 156) (.t 155) .any, none⟩]
abbrev quietuslaw24_actg_b3 : ACode := .seq (.reg true quietuslaw24_actg_r18) (.seq (.reg false quietuslaw24_actg_r19) (.seq (.reg false quietuslaw24_actg_r20) (.seq (.reg true quietuslaw24_actg_r21) (.reg false quietuslaw24_actg_r22))))
abbrev quietuslaw24_actg_b4 : ACode := .seq (.reg false quietuslaw24_actg_r17) (.cond (.t 113) (quietuslaw24_actg_b3) (.skip))
abbrev quietuslaw24_actg_r23 : List AI := [
  ⟨some 158, .bin .eql (.t 28) (.c (.int .u8 4)), none⟩,
  ⟨some 157, .mv true (.t 158), none⟩]
abbrev quietuslaw24_actg_r24 : List AI := [
  ⟨some 159, .faddr 7 (.t 2), none⟩,
  ⟨some 160, .load false 1 (.t 159) .any, none⟩,
  ⟨some 161, .len false (.t 160), none⟩,
  ⟨some 162, .bin .gtr (.t 161) (.c (.int .i64 0)), none⟩]
abbrev quietuslaw24_actg_r25 : List AI := [
  ⟨some 164, .faddr 0 (.t 2), none⟩,
  ⟨some 165, .load true 4 (.t 164) (.site 2), none⟩,
  ⟨some 166, .faddr 7 (.t 2), none⟩,
  ⟨some 167, .load false 1 (.t 166) (.site 2), none⟩,
  ⟨some 168, .faddr 1 (.t 3), none⟩,
  ⟨some 169, .load false 1 (.t 168) (.site 3), none⟩,
  ⟨some 170, .conv .i64 (.t 169), none⟩,
  ⟨some 171, .faddr 7 (.t 2), none⟩,
  ⟨some 172, .load false 1 (.t 171) (.site 2), none⟩,
  ⟨some 173, .len false (.t 172), none⟩,
  ⟨some 174, .bin .rem (.t 170) (.t 173), none⟩,
  ⟨some 175, .iaddr 1 (.t 167) (.t 174), none⟩,
  ⟨some 176, .load false 1 (.t 175) .foreign, none⟩,
  ⟨some 16, .alloc [(.int .i64 0), (.int .i64 0), (.str []), .nilS], none⟩,
  ⟨some 177, .call (.c (.fn f_link_Acknowledge)) [(.t 165), (.t 176)] 1, none⟩,
  ⟨some 163, .mv false (.t 177), none⟩,
  ⟨some 178, .ext (.t 163) 0, none⟩,
  ⟨some 179, .ext (.t 163) 1, none⟩,
  ⟨none, .store 4 (.t 16) (.t 178) (.site 16), none⟩,
  ⟨some 17, .mv true (.t 179), none⟩]
abbrev quietuslaw24_actg_r26 : List AI := [
  ⟨some 180, .load true 4 (.t 16) .any, none⟩,
  ⟨some 181, .faddr 0 (.t 2), none⟩,
  ⟨none, .store 4 (.t 181) (.t 180) .any, none⟩]
abbrev quietuslaw24_actg_r27 : List AI := [
  ⟨some 182, .faddr 9 (.t 2), none⟩,
  ⟨some 183, .load false 1 (.t 182) .any, none⟩,
  ⟨some 184, .mv false (.t 183), none⟩,
  ⟨some 185, .mv false (.t 17), some (184, false)⟩,
  ⟨some 186, .bin .neq (.t 185) (.c (.int .i64 0)), some (184, false)⟩,
  ⟨some 187, .pick (.t 184) (.c (.bool true)) (.t 186), none⟩,
  ⟨some 188, .faddr 9 (.t 2), none⟩,
  ⟨none, .store 1 (.t 188) (.t 187) .any, none⟩]
abbrev quietuslaw24_actg_b5 : ACode := .seq (.reg true quietuslaw24_actg_r25) (.seq (.reg false quietuslaw24_actg_r26) (.reg false quietuslaw24_actg_r27))
abbrev quietuslaw24_actg_b6 : ACode := .seq (.reg false quietuslaw24_actg_r24) (.cond (.t 162) (quietuslaw24_actg_b5) (.skip))
abbrev quietuslaw24_actg_r28 : List AI := [
  ⟨some 190, .bin .eql (.t 28) (.c (.int .u8 5)), none⟩,
  ⟨some 189, .mv true (.t 190), none⟩]
abbrev quietuslaw24_actg_r29 : List AI := [
  ⟨some 191, .faddr 4 (.t 2), none⟩,
  ⟨some 192, .load true 2 (.t 191) .any, none⟩,
  ⟨some 193, .call (.c (.fn f_link_Restart)) [(.t 192)] 0, none⟩,
  ⟨some 194, .faddr 4 (.t 2), none⟩,
  ⟨none, .store 2 (.t 194) (.t 193) .any, none⟩]
abbrev quietuslaw24_actg_b7 : ACode := .seq (.reg false quietuslaw24_actg_r28) (.cond (.t 189) (.reg false quietuslaw24_actg_r29) (.skip))
abbrev quietuslaw24_actg_b8 : ACode := .seq (.reg false quietuslaw24_actg_r23) (.cond (.t 157) (quietuslaw24_actg_b6) (quietuslaw24_actg_b7))
abbrev quietuslaw24_actg_b9 : ACode := .seq (.reg false quietuslaw24_actg_r16) (.cond (.t 108) (quietuslaw24_actg_b4) (quietuslaw24_actg_b8))
abbrev quietuslaw24_actg_b10 : ACode := .seq (.reg false quietuslaw24_actg_r12) (.cond (.t 81) (quietuslaw24_actg_b2) (quietuslaw24_actg_b9))
abbrev quietuslaw24_actg_b11 : ACode := .seq (.reg false quietuslaw24_actg_r7) (.cond (.t 48) (quietuslaw24_actg_b1) (quietuslaw24_actg_b10))
abbrev quietuslaw24_actg_r30 : List AI := [
  ⟨some 195, .load true 10 (.t 2) .any, none⟩,
  ⟨none, .store 10 (.t 4) (.t 195) .any, none⟩]
abbrev quietuslaw24_actg_c : ACode := .seq (.reg false quietuslaw24_actg_r0) (.seq (.reg false quietuslaw24_actg_r1) (.seq (.seq (.reg false quietuslaw24_actg_r2) (.block 0 (.seq (.reg false quietuslaw24_actg_r3) (.cond (.t 29) (quietuslaw24_actg_b0) (quietuslaw24_actg_b11))))) (.seq (.reg false quietuslaw24_actg_r30) (.ret))))
def quietuslaw24_actg_F : AFunc := ⟨196, [.cell 4 true 10], quietuslaw24_actg_c⟩

theorem quietuslaw24_actg_cp : compile Try.prog [134, 137, 139] f_quietuslaw24_act = some quietuslaw24_actg_F := by kernel_rfl

-- loop 0: [1, 3, 4]
abbrev quietuslaw24_ordered_r0 : List AI := [
  ⟨some 1, .box 10 (.t 0), none⟩,
  ⟨some 2, .mv true (.c (.bool false)), none⟩]
abbrev quietuslaw24_ordered_r1 : List AI := [
  ⟨some 3, .mv true (.c (.int .i64 0)), none⟩]
abbrev quietuslaw24_ordered_r2 : List AI := [
  ⟨some 4, .mv true (.c (.int .i64 0)), none⟩]
abbrev quietuslaw24_ordered_r3 : List AI := [
  ⟨some 6, .mv false (.t 4), none⟩,
  ⟨some 7, .faddr 8 (.t 1), none⟩,
  ⟨some 8, .load false 1 (.t 7) .any, none⟩,
  ⟨some 9, .len false (.t 8), none⟩,
  ⟨some 10, .bin .lss (.t 6) (.t 9), none⟩]
abbrev quietuslaw24_ordered_r4 : List AI := [
  ⟨some 13, .faddr 8 (.t 1), none⟩,
  ⟨some 14, .load false 1 (.t 13) .any, none⟩,
  ⟨some 15, .mv false (.t 4), none⟩,
  ⟨some 16, .iaddr 3 (.t 14) (.t 15), none⟩,
  ⟨some 17, .load true 3 (.t 16) .any, none⟩,
  ⟨some 5, .alloc [(.bool false), (.int .i64 0), (.str [])], none⟩,
  ⟨none, .store 3 (.t 5) (.t 17) .any, none⟩]
abbrev quietuslaw24_ordered_r5 : List AI := [
  ⟨some 18, .faddr 0 (.t 5), none⟩,
  ⟨some 19, .load false 1 (.t 18) .any, none⟩]
abbrev quietuslaw24_ordered_r6 : List AI := [
  ⟨some 20, .faddr 1 (.t 5), none⟩,
  ⟨some 21, .load false 1 (.t 20) (.site 5), none⟩,
  ⟨some 22, .mv false (.t 3), none⟩,
  ⟨some 23, .bin .leq (.t 21) (.t 22), none⟩,
  ⟨some 24, .mv false (.t 23), none⟩,
  ⟨some 25, .faddr 2 (.t 5), some (24, false)⟩,
  ⟨some 26, .load false 1 (.t 25) (.site 5), some (24, false)⟩,
  ⟨some 27, .faddr 1 (.t 5), some (24, false)⟩,
  ⟨some 28, .load false 1 (.t 27) (.site 5), some (24, false)⟩,
  ⟨some 29, .call (.c (.fn f_quietuslaw24_summary)) [(.t 28)] 2, some (24, false)⟩,
  ⟨some 30, .bin .neq (.t 26) (.t 29), some (24, false)⟩,
  ⟨some 31, .pick (.t 24) (.c (.bool true)) (.t 30), none⟩]
abbrev quietuslaw24_ordered_r7 : List AI := [
  ⟨some 2, .mv true (.c (.bool false)), none⟩]
abbrev quietuslaw24_ordered_r8 : List AI := [
  ⟨some 32, .faddr 1 (.t 5), none⟩,
  ⟨some 33, .load false 1 (.t 32) .any, none⟩,
  ⟨some 3, .mv true (.t 33), none⟩]
abbrev quietuslaw24_ordered_b0 : ACode := .seq (.seq (.reg true quietuslaw24_ordered_r6) (.cond (.t 31) (.seq (.reg false quietuslaw24_ordered_r7) (.ret)) (.skip))) (.seq (.reg false quietuslaw24_ordered_r8) (.exit 1))
abbrev quietuslaw24_ordered_r9 : List AI := [
  ⟨some 34, .faddr 1 (.t 5), none⟩,
  ⟨some 35, .load false 1 (.t 34) (.site 5), none⟩,
  ⟨some 36, .mv false (.t 3), none⟩,
  ⟨some 37, .bin .neq (.t 35) (.t 36), none⟩,
  ⟨some 38, .mv false (.t 37), none⟩,
  ⟨some 39, .faddr 2 (.t 5), some (38, false)⟩,
  ⟨some 40, .load false 1 (.t 39) (.site 5), some (38, false)⟩,
  ⟨some 41, .faddr 1 (.t 5), some (38, false)⟩,
  ⟨some 42, .load false 1 (.t 41) (.site 5), some (38, false)⟩,
  ⟨some 43, .call (.c (.fn f_quietuslaw24_message)) [(.t 42)] 2, some (38, false)⟩,
  ⟨some 44, .bin .neq (.t 40) (.t 43), some (38, false)⟩,
  ⟨some 45, .pick (.t 38) (.c (.bool true)) (.t 44), none⟩]
abbrev quietuslaw24_ordered_r10 : List AI := [
  ⟨some 2, .mv true (.c (.bool false)), none⟩]
abbrev quietuslaw24_ordered_r11 : List AI := [
  ⟨some 46, .mv false (.t 3), none⟩,
  ⟨some 47, .bin .add (.t 46) (.c (.int .i64 1)), none⟩,
  ⟨some 3, .mv true (.t 47), none⟩]
abbrev quietuslaw24_ordered_r12 : List AI := [
  ⟨some 11, .mv false (.t 4), none⟩,
  ⟨some 12, .bin .add (.t 11) (.c (.int .i64 1)), none⟩,
  ⟨some 4, .mv true (.t 12), none⟩]
abbrev quietuslaw24_ordered_l0 : ACode := .seq (.seq (.reg false quietuslaw24_ordered_r3) (.cond (.t 10) (.skip) (.exit 0))) (.seq (.block 1 (.seq (.reg false quietuslaw24_ordered_r4) (.seq (.seq (.reg false quietuslaw24_ordered_r5) (.cond (.t 19) (quietuslaw24_ordered_b0) (.skip))) (.seq (.seq (.reg true quietuslaw24_ordered_r9) (.cond (.t 45) (.seq (.reg false quietuslaw24_ordered_r10) (.ret)) (.skip))) (.reg false quietuslaw24_ordered_r11))))) (.reg false quietuslaw24_ordered_r12))
abbrev quietuslaw24_ordered_r13 : List AI := [
  ⟨some 48, .mv false (.t 3), none⟩,
  ⟨some 49, .faddr 4 (.t 1), none⟩,
  ⟨some 50, .faddr 0 (.t 49), none⟩,
  ⟨some 51, .load false 1 (.t 50) .any, none⟩,
  ⟨some 52, .bin .eql (.t 48) (.t 51), none⟩,
  ⟨some 2, .mv true (.t 52), none⟩]
abbrev quietuslaw24_ordered_c : ACode := .seq (.reg false quietuslaw24_ordered_r0) (.seq (.reg false quietuslaw24_ordered_r1) (.seq (.seq (.reg false quietuslaw24_ordered_r2) (.block 0 (.loop quietuslaw24_ordered_l0))) (.seq (.reg false quietuslaw24_ordered_r13) (.ret))))
def quietuslaw24_ordered_F : AFunc := ⟨53, [.tmp 2], quietuslaw24_ordered_c⟩

theorem quietuslaw24_ordered_cp : compile Try.prog [] f_quietuslaw24_ordered = some quietuslaw24_ordered_F := by kernel_rfl

-- loop 0: [0, 2, 3]
abbrev quietuslaw24_put_r0 : List AI := [
  ⟨some 0, .alloc [(.int .i64 0), (.int .i64 0), (.str []), .nilS], none⟩,
  ⟨some 1, .mv true (.c (.bool false)), none⟩]
abbrev quietuslaw24_put_r1 : List AI := [
  ⟨some 2, .alloc [(.int .i64 0), (.int .i64 0), (.str []), .nilS], none⟩]
abbrev quietuslaw24_put_r2 : List AI := [
  ⟨some 3, .mv true (.c (.int .i64 0)), none⟩]
abbrev quietuslaw24_put_r3 : List AI := [
  ⟨some 6, .mv false (.t 3), none⟩,
  ⟨some 7, .bin .lss (.t 6) (.c (.int .i64 3)), none⟩]
abbrev quietuslaw24_put_r4 : List AI := [
  ⟨some 11, .load true 4 (.t 2) .any, none⟩,
  ⟨some 12, .mv false (.t 3), none⟩,
  ⟨some 13, .bin .add (.c (.int .i64 97)) (.t 12), none⟩,
  ⟨some 14, .conv .u8 (.t 13), none⟩,
  ⟨some 15, .mkslice 1 1 (.int .u8 0) [(0, (.t 14))], none⟩,
  ⟨some 16, .b2s (.t 15), none⟩,
  ⟨some 17, .call (.c (.fn f_link_Put)) [(.t 11), (.t 16)] 0, none⟩,
  ⟨some 10, .mv false (.t 17), none⟩,
  ⟨some 18, .ext (.t 10) 0, none⟩,
  ⟨some 19, .ext (.t 10) 1, none⟩,
  ⟨some 4, .alloc [(.int .i64 0), (.int .i64 0), (.str []), .nilS], none⟩,
  ⟨none, .store 4 (.t 4) (.t 18) .any, none⟩,
  ⟨some 5, .mv true (.t 19), none⟩]
abbrev quietuslaw24_put_r5 : List AI := [
  ⟨some 20, .mv false (.t 5), none⟩,
  ⟨some 21, .bin .neq (.t 20) (.c (.int .i64 0)), none⟩]
abbrev quietuslaw24_put_r6 : List AI := [
  ⟨some 22, .load true 4 (.t 2) .any, none⟩,
  ⟨none, .store 4 (.t 0) (.t 22) .any, none⟩,
  ⟨some 1, .mv true (.c (.bool false)), none⟩]
abbrev quietuslaw24_put_r7 : List AI := [
  ⟨some 23, .load true 4 (.t 4) .any, none⟩,
  ⟨none, .store 4 (.t 2) (.t 23) .any, none⟩]
abbrev quietuslaw24_put_r8 : List AI := [
  ⟨some 8, .mv false (.t 3), none⟩,
  ⟨some 9, .bin .add (.t 8) (.c (.int .i64 1)), none⟩,
  ⟨some 3, .mv true (.t 9), none⟩]
abbrev quietuslaw24_put_l0 : ACode := .seq (.seq (.reg false quietuslaw24_put_r3) (.cond (.t 7) (.skip) (.exit 0))) (.seq (.block 1 (.seq (.reg false quietuslaw24_put_r4) (.seq (.seq (.reg false quietuslaw24_put_r5) (.cond (.t 21) (.seq (.reg false quietuslaw24_put_r6) (.ret)) (.skip))) (.reg false quietuslaw24_put_r7)))) (.reg false quietuslaw24_put_r8))
abbrev quietuslaw24_put_r9 : List AI := [
  ⟨some 24, .load true 4 (.t 2) .any, none⟩,
  ⟨none, .store 4 (.t 0) (.t 24) .any, none⟩,
  ⟨some 1, .mv true (.c (.bool true)), none⟩]
abbrev quietuslaw24_put_c : ACode := .seq (.reg false quietuslaw24_put_r0) (.seq (.reg false quietuslaw24_put_r1) (.seq (.seq (.reg false quietuslaw24_put_r2) (.block 0 (.loop quietuslaw24_put_l0))) (.seq (.reg false quietuslaw24_put_r9) (.ret))))
def quietuslaw24_put_F : AFunc := ⟨25, [.cell 0 true 4, .tmp 1], quietuslaw24_put_c⟩

theorem quietuslaw24_put_cp : compile Try.prog [] f_quietuslaw24_put = some quietuslaw24_put_F := by kernel_rfl

abbrev link_isBody_r0 : List AI := [
  ⟨some 2, .mv true (.c (.bool false)), none⟩]
abbrev link_isBody_r1 : List AI := [
  ⟨some 3, .mv false (.t 0), none⟩,
  ⟨some 4, .len true (.t 3), none⟩,
  ⟨some 5, .bin .leq (.t 4) (.c (.int .i64 65536)), none⟩,
  ⟨some 2, .mv true (.t 5), none⟩]
abbrev link_isBody_c : ACode := .seq (.reg false link_isBody_r0) (.seq (.reg false link_isBody_r1) (.ret))
def link_isBody_F : AFunc := ⟨6, [.tmp 2], link_isBody_c⟩

theorem link_isBody_cp : compile Try.prog [] f_link_isBody = some link_isBody_F := by kernel_rfl

abbrev link_end_r0 : List AI := [
  ⟨some 1, .box 4 (.t 0), none⟩,
  ⟨some 2, .mv true (.c (.int .i64 0)), none⟩]
abbrev link_end_r1 : List AI := [
  ⟨some 3, .faddr 0 (.t 1), none⟩,
  ⟨some 4, .load false 1 (.t 3) .any, none⟩,
  ⟨some 5, .faddr 3 (.t 1), none⟩,
  ⟨some 6, .load false 1 (.t 5) .any, none⟩,
  ⟨some 7, .len false (.t 6), none⟩,
  ⟨some 8, .bin .add (.t 4) (.t 7), none⟩,
  ⟨some 2, .mv true (.t 8), none⟩]
abbrev link_end_c : ACode := .seq (.reg false link_end_r0) (.seq (.reg false link_end_r1) (.ret))
def link_end_F : AFunc := ⟨9, [.tmp 2], link_end_c⟩

theorem link_end_cp : compile Try.prog [] f_link_end = some link_end_F := by kernel_rfl

abbrev slices_Clone_string_string_r0 : List AI := [
  ⟨some 2, .mv true (.c .nilS), none⟩]
abbrev slices_Clone_string_string_r1 : List AI := [
  ⟨some 3, .mv false (.t 0), none⟩,
  ⟨some 4, .isnil false (.t 3), none⟩]
abbrev slices_Clone_string_string_r2 : List AI := [
  ⟨some 2, .mv true (.c .nilS), none⟩]
abbrev slices_Clone_string_string_r3 : List AI := [
  ⟨some 5, .mkslice 1 0 (.str []) [], none⟩,
  ⟨some 6, .mv false (.t 0), none⟩,
  ⟨some 7, .append 1 16 (.t 5) (.t 6), none⟩,
  ⟨some 2, .mv true (.t 7), none⟩]
abbrev slices_Clone_string_string_c : ACode := .seq (.reg false slices_Clone_string_string_r0) (.seq (.seq (.reg false slices_Clone_string_string_r1) (.cond (.t 4) (.seq (.reg false slices_Clone_string_string_r2) (.ret)) (.skip))) (.seq (.reg false slices_Clone_string_string_r3) (.ret)))
def slices_Clone_string_string_F : AFunc := ⟨8, [.tmp 2], slices_Clone_string_string_c⟩

theorem slices_Clone_string_string_cp : compile Try.prog [] f_slices_Clone_string_string = some slices_Clone_string_string_F := by kernel_rfl

abbrev link_frames_r0 : List AI := [
  ⟨some 1, .gn (.box 4) [(.t 0)], none⟩,
  ⟨some 2, .mv true (.c .nilF), none⟩]
abbrev link_frames_r1 : List AI := [
  ⟨some 3, .gd (.clo f_link_frames_1) [(.t 1)], none⟩,
  ⟨some 2, .mv true (.t 3), none⟩]
abbrev link_frames_c : ACode := .seq (.reg false link_frames_r0) (.seq (.reg false link_frames_r1) (.ret))
def link_frames_F : AFunc := ⟨4, [.tmp 2], link_frames_c⟩

theorem link_frames_cp : compile Try.prog [1, 3] f_link_frames = some link_frames_F := by kernel_rfl

abbrev link_within_int_r0 : List AI := [
  ⟨some 4, .mv true (.c (.bool false)), none⟩]
abbrev link_within_int_r1 : List AI := [
  ⟨some 5, .mv false (.t 0), none⟩,
  ⟨some 6, .bin .geq (.t 5) (.c (.int .i64 0)), none⟩,
  ⟨some 7, .mv false (.t 6), none⟩,
  ⟨some 8, .mv false (.t 0), some (7, true)⟩,
  ⟨some 9, .mv false (.t 1), some (7, true)⟩,
  ⟨some 10, .bin .leq (.t 8) (.t 9), some (7, true)⟩,
  ⟨some 11, .pick (.t 7) (.t 10) (.c (.bool false)), none⟩,
  ⟨some 4, .mv true (.t 11), none⟩]
abbrev link_within_int_c : ACode := .seq (.reg false link_within_int_r0) (.seq (.reg false link_within_int_r1) (.ret))
def link_within_int_F : AFunc := ⟨12, [.tmp 4], link_within_int_c⟩

theorem link_within_int_cp : compile Try.prog [] f_link_within_int = some link_within_int_F := by kernel_rfl

abbrev quietusref24_End_r0 : List AI := [
  ⟨some 1, .box 4 (.t 0), none⟩,
  ⟨some 2, .mv true (.c (.int .i64 0)), none⟩]
abbrev quietusref24_End_r1 : List AI := [
  ⟨some 3, .faddr 0 (.t 1), none⟩,
  ⟨some 4, .load false 1 (.t 3) .any, none⟩,
  ⟨some 5, .faddr 3 (.t 1), none⟩,
  ⟨some 6, .load false 1 (.t 5) .any, none⟩,
  ⟨some 7, .len false (.t 6), none⟩,
  ⟨some 8, .bin .add (.t 4) (.t 7), none⟩,
  ⟨some 2, .mv true (.t 8), none⟩]
abbrev quietusref24_End_c : ACode := .seq (.reg false quietusref24_End_r0) (.seq (.reg false quietusref24_End_r1) (.ret))
def quietusref24_End_F : AFunc := ⟨9, [.tmp 2], quietusref24_End_c⟩

theorem quietusref24_End_cp : compile Try.prog [] f_quietusref24_End = some quietusref24_End_F := by kernel_rfl

abbrev slices_ContainsFunc_string_string_r0 : List AI := [
  ⟨some 4, .mv true (.c (.bool false)), none⟩]
abbrev slices_ContainsFunc_string_string_r1 : List AI := [
  ⟨some 5, .mv false (.t 0), none⟩,
  ⟨some 6, .mv false (.t 1), none⟩,
  ⟨some 7, .call (.c (.fn f_slices_IndexFunc_string_string)) [(.t 5), (.t 6)] 0, none⟩,
  ⟨some 8, .bin .geq (.t 7) (.c (.int .i64 0)), none⟩,
  ⟨some 4, .mv true (.t 8), none⟩]
abbrev slices_ContainsFunc_string_string_c : ACode := .seq (.reg false slices_ContainsFunc_string_string_r0) (.seq (.reg false slices_ContainsFunc_string_string_r1) (.ret))
def slices_ContainsFunc_string_string_F : AFunc := ⟨9, [.tmp 4], slices_ContainsFunc_string_string_c⟩

theorem slices_ContainsFunc_string_string_cp : compile Try.prog [] f_slices_ContainsFunc_string_string = some slices_ContainsFunc_string_string_F := by kernel_rfl

abbrev link_ValidOut_1_r0 : List AI := [
  ⟨some 2, .mv true (.c (.bool false)), none⟩]
abbrev link_ValidOut_1_r1 : List AI := [
  ⟨some 3, .mv false (.t 0), none⟩,
  ⟨some 4, .call (.c (.fn f_link_isBody)) [(.t 3)] 0, none⟩,
  ⟨some 5, .not (.t 4), none⟩,
  ⟨some 2, .mv true (.t 5), none⟩]
abbrev link_ValidOut_1_c : ACode := .seq (.reg false link_ValidOut_1_r0) (.seq (.reg false link_ValidOut_1_r1) (.ret))
def link_ValidOut_1_F : AFunc := ⟨6, [.tmp 2], link_ValidOut_1_c⟩

theorem link_ValidOut_1_cp : compile Try.prog [] f_link_ValidOut_1 = some link_ValidOut_1_F := by kernel_rfl

-- loop 0: [0, 1, 2, 8, 9, 10]
abbrev slices_BinarySearchFunc_api_Frame_api_Frame_int_r0 : List AI := [
  ⟨some 6, .mv true (.c (.int .i64 0)), none⟩,
  ⟨some 7, .mv true (.c (.bool false)), none⟩]
abbrev slices_BinarySearchFunc_api_Frame_api_Frame_int_r1 : List AI := [
  ⟨some 12, .mv false (.t 0), none⟩,
  ⟨some 13, .len false (.t 12), none⟩,
  ⟨some 8, .mv true (.t 13), none⟩]
abbrev slices_BinarySearchFunc_api_Frame_api_Frame_int_r2 : List AI := [
  ⟨some 14, .mv false (.t 8), none⟩,
  ⟨some 9, .mv true (.c (.int .i64 0)), none⟩,
  ⟨some 10, .mv true (.t 14), none⟩]
abbrev slices_BinarySearchFunc_api_Frame_api_Frame_int_r3 : List AI := [
  ⟨some 15, .mv false (.t 9), none⟩,
  ⟨some 16, .mv false (.t 10), none⟩,
  ⟨some 17, .bin .lss (.t 15) (.t 16), none⟩]
abbrev slices_BinarySearchFunc_api_Frame_api_Frame_int_r4 : List AI := [
  ⟨some 18, .mv false (.t 9), none⟩,
  ⟨some 19, .mv false (.t 10), none⟩,
  ⟨some 20, .bin .add (.t 18) (.t 19), none⟩,
  ⟨some 21, .conv .u64 (.t 20), none⟩,
  ⟨some 22, .bin .shr (.t 21) (.c (.int .u64 1)), none⟩,
  ⟨some 23, .conv .i64 (.t 22), none⟩,
  ⟨some 11, .mv true (.t 23), none⟩]
abbrev slices_BinarySearchFunc_api_Frame_api_Frame_int_r5 : List AI := [
  ⟨some 24, .mv false (.t 2), none⟩,
  ⟨some 25, .mv false (.t 0), none⟩,
  ⟨some 26, .mv false (.t 11), none⟩,
  ⟨some 27, .iaddr 3 (.t 25) (.t 26), none⟩,
  ⟨some 28, .load true 3 (.t 27) .any, none⟩,
  ⟨some 29, .mv false (.t 1), none⟩,
  ⟨some 30, .call (.t 24) [(.t 28), (.t 29)] 0, none⟩,
  ⟨some 31, .bin .lss (.t 30) (.c (.int .i64 0)), none⟩]
abbrev slices_BinarySearchFunc_api_Frame_api_Frame_int_r6 : List AI := [
  ⟨some 32, .mv false (.t 11), none⟩,
  ⟨some 33, .bin .add (.t 32) (.c (.int .i64 1)), none⟩,
  ⟨some 9, .mv true (.t 33), none⟩]
abbrev slices_BinarySearchFunc_api_Frame_api_Frame_int_r7 : List AI := [
  ⟨some 34, .mv false (.t 11), none⟩,
  ⟨some 10, .mv true (.t 34), none⟩]
abbrev slices_BinarySearchFunc_api_Frame_api_Frame_int_l0 : ACode := .seq (.seq (.reg false slices_BinarySearchFunc_api_Frame_api_Frame_int_r3) (.cond (.t 17) (.skip) (.exit 0))) (.block 1 (.seq (.reg false slices_BinarySearchFunc_api_Frame_api_Frame_int_r4) (.seq (.reg false slices_BinarySearchFunc_api_Frame_api_Frame_int_r5) (.cond (.t 31) (.reg false slices_BinarySearchFunc_api_Frame_api_Frame_int_r6) (.reg false slices_BinarySearchFunc_api_Frame_api_Frame_int_r7)))))
abbrev slices_BinarySearchFunc_api_Frame_api_Frame_int_r8 : List AI := [
  ⟨some 35, .mv false (.t 9), none⟩,
  ⟨some 36, .mv false (.t 9), none⟩,
  ⟨some 37, .mv false (.t 8), none⟩,
  ⟨some 38, .bin .lss (.t 36) (.t 37), none⟩,
  ⟨some 39, .mv false (.t 38), none⟩,
  ⟨some 40, .mv false (.t 2), some (39, true)⟩,
  ⟨some 41, .mv false (.t 0), some (39, true)⟩,
  ⟨some 42, .mv false (.t 9), some (39, true)⟩,
  ⟨some 43, .iaddr 3 (.t 41) (.t 42), some (39, true)⟩,
  ⟨some 44, .load true 3 (.t 43) .any, some (39, true)⟩,
  ⟨some 45, .mv false (.t 1), some (39, true)⟩,
  ⟨some 46, .call (.t 40) [(.t 44), (.t 45)] 0, some (39, true)⟩,
  ⟨some 47, .bin .eql (.t 46) (.c (.int .i64 0)), some (39, true)⟩,
  ⟨some 48, .pick (.t 39) (.t 47) (.c (.bool false)), none⟩,
  ⟨some 6, .mv true (.t 35), none⟩,
  ⟨some 7, .mv true (.t 48), none⟩]
abbrev slices_BinarySearchFunc_api_Frame_api_Frame_int_c : ACode := .seq (.reg false slices_BinarySearchFunc_api_Frame_api_Frame_int_r0) (.seq (.reg false slices_BinarySearchFunc_api_Frame_api_Frame_int_r1) (.seq (.reg false slices_BinarySearchFunc_api_Frame_api_Frame_int_r2) (.seq (.block 0 (.loop slices_BinarySearchFunc_api_Frame_api_Frame_int_l0)) (.seq (.reg false slices_BinarySearchFunc_api_Frame_api_Frame_int_r8) (.ret)))))
def slices_BinarySearchFunc_api_Frame_api_Frame_int_F : AFunc := ⟨49, [.tmp 6, .tmp 7], slices_BinarySearchFunc_api_Frame_api_Frame_int_c⟩

theorem slices_BinarySearchFunc_api_Frame_api_Frame_int_cp : compile Try.prog [] f_slices_BinarySearchFunc_api_Frame_api_Frame_int = some slices_BinarySearchFunc_api_Frame_api_Frame_int_F := by kernel_rfl

abbrev link_Receive_1_r0 : List AI := [
  ⟨some 2, .box 3 (.t 0), none⟩,
  ⟨some 4, .mv true (.c (.int .i64 0)), none⟩]
abbrev link_Receive_1_r1 : List AI := [
  ⟨some 5, .faddr 1 (.t 2), none⟩,
  ⟨some 6, .load false 1 (.t 5) .any, none⟩,
  ⟨some 7, .mv false (.t 1), none⟩,
  ⟨some 8, .bin .sub (.t 6) (.t 7), none⟩,
  ⟨some 4, .mv true (.t 8), none⟩]
abbrev link_Receive_1_c : ACode := .seq (.reg false link_Receive_1_r0) (.seq (.reg false link_Receive_1_r1) (.ret))
def link_Receive_1_F : AFunc := ⟨9, [.tmp 4], link_Receive_1_c⟩

theorem link_Receive_1_cp : compile Try.prog [] f_link_Receive_1 = some link_Receive_1_F := by kernel_rfl

abbrev slices_Insert_api_Frame_api_Frame_r0 : List AI := [
  ⟨some 6, .mv true (.c .nilS), none⟩]
abbrev slices_Insert_api_Frame_api_Frame_r1 : List AI := [
  ⟨some 10, .mv false (.t 0), none⟩,
  ⟨some 11, .mv false (.t 1), none⟩,
  ⟨some 12, .sl 3 (.t 10) (some (.t 11)) none, none⟩]
abbrev slices_Insert_api_Frame_api_Frame_r2 : List AI := [
  ⟨some 13, .mv false (.t 2), none⟩,
  ⟨some 14, .len false (.t 13), none⟩,
  ⟨some 7, .mv true (.t 14), none⟩]
abbrev slices_Insert_api_Frame_api_Frame_r3 : List AI := [
  ⟨some 15, .mv false (.t 7), none⟩,
  ⟨some 16, .bin .eql (.t 15) (.c (.int .i64 0)), none⟩]
abbrev slices_Insert_api_Frame_api_Frame_r4 : List AI := [
  ⟨some 17, .mv false (.t 0), none⟩,
  ⟨some 6, .mv true (.t 17), none⟩]
abbrev slices_Insert_api_Frame_api_Frame_r5 : List AI := [
  ⟨some 18, .mv false (.t 0), none⟩,
  ⟨some 19, .len false (.t 18), none⟩,
  ⟨some 8, .mv true (.t 19), none⟩]
abbrev slices_Insert_api_Frame_api_Frame_r6 : List AI := [
  ⟨some 20, .mv false (.t 1), none⟩,
  ⟨some 21, .mv false (.t 8), none⟩,
  ⟨some 22, .bin .eql (.t 20) (.t 21), none⟩]
abbrev slices_Insert_api_Frame_api_Frame_r7 : List AI := [
  ⟨some 23, .mv true (.t 0), none⟩,
  ⟨some 24, .mv false (.t 2), none⟩,
  ⟨some 25, .appG 3 32 [(.bool false), (.int .i64 0), (.str [])] (.t 23) (.t 24), none⟩,
  ⟨some 6, .mv true (.t 25), none⟩]
abbrev slices_Insert_api_Frame_api_Frame_r8 : List AI := [
  ⟨some 26, .mv false (.t 8), none⟩,
  ⟨some 27, .mv false (.t 7), none⟩,
  ⟨some 28, .bin .add (.t 26) (.t 27), none⟩,
  ⟨some 29, .mv false (.t 0), none⟩,
  ⟨some 30, .cap (.t 29), none⟩,
  ⟨some 31, .bin .gtr (.t 28) (.t 30), none⟩]
abbrev slices_Insert_api_Frame_api_Frame_r9 : List AI := [
  ⟨some 32, .mv false (.t 0), none⟩,
  ⟨some 33, .mv false (.t 1), none⟩,
  ⟨some 34, .sl 3 (.t 32) none (some (.t 33)), none⟩,
  ⟨some 35, .mv false (.t 8), none⟩,
  ⟨some 36, .mv false (.t 7), none⟩,
  ⟨some 37, .bin .add (.t 35) (.t 36), none⟩,
  ⟨some 38, .mv false (.t 1), none⟩,
  ⟨some 39, .bin .sub (.t 37) (.t 38), none⟩,
  ⟨some 40, .appZ 3 32 [(.bool false), (.int .i64 0), (.str [])] (.t 34) (.t 39), none⟩,
  ⟨some 9, .mv true (.t 40), none⟩]
abbrev slices_Insert_api_Frame_api_Frame_r10 : List AI := [
  ⟨some 41, .mv false (.t 9), none⟩,
  ⟨some 42, .mv false (.t 1), none⟩,
  ⟨some 43, .sl 3 (.t 41) (some (.t 42)) none, none⟩,
  ⟨some 44, .mv false (.t 2), none⟩,
  ⟨some 45, .copy 3 (.t 43) (.t 44), none⟩]
abbrev slices_Insert_api_Frame_api_Frame_r11 : List AI := [
  ⟨some 46, .mv false (.t 9), none⟩,
  ⟨some 47, .mv false (.t 1), none⟩,
  ⟨some 48, .mv false (.t 7), none⟩,
  ⟨some 49, .bin .add (.t 47) (.t 48), none⟩,
  ⟨some 50, .sl 3 (.t 46) (some (.t 49)) none, none⟩,
  ⟨some 51, .mv false (.t 0), none⟩,
  ⟨some 52, .mv false (.t 1), none⟩,
  ⟨some 53, .sl 3 (.t 51) (some (.t 52)) none, none⟩,
  ⟨some 54, .copy 3 (.t 50) (.t 53), none⟩]
abbrev slices_Insert_api_Frame_api_Frame_r12 : List AI := [
  ⟨some 55, .mv false (.t 9), none⟩,
  ⟨some 6, .mv true (.t 55), none⟩]
abbrev slices_Insert_api_Frame_api_Frame_b0 : ACode := .seq (.reg false slices_Insert_api_Frame_api_Frame_r9) (.seq (.reg false slices_Insert_api_Frame_api_Frame_r10) (.seq (.reg true slices_Insert_api_Frame_api_Frame_r11) (.seq (.reg false slices_Insert_api_Frame_api_Frame_r12) (.ret))))
abbrev slices_Insert_api_Frame_api_Frame_r13 : List AI := [
  ⟨some 56, .mv false (.t 0), none⟩,
  ⟨some 57, .mv false (.t 8), none⟩,
  ⟨some 58, .mv false (.t 7), none⟩,
  ⟨some 59, .bin .add (.t 57) (.t 58), none⟩,
  ⟨some 60, .sl 3 (.t 56) none (some (.t 59)), none⟩,
  ⟨some 0, .mv true (.t 60), none⟩]
abbrev slices_Insert_api_Frame_api_Frame_r14 : List AI := [
  ⟨some 61, .mv false (.t 2), none⟩,
  ⟨some 62, .mv false (.t 0), none⟩,
  ⟨some 63, .mv false (.t 1), none⟩,
  ⟨some 64, .mv false (.t 7), none⟩,
  ⟨some 65, .bin .add (.t 63) (.t 64), none⟩,
  ⟨some 66, .sl 3 (.t 62) (some (.t 65)) none, none⟩,
  ⟨some 67, .call (.c (.fn f_slices_overlaps_api_Frame)) [(.t 61), (.t 66)] 0, none⟩,
  ⟨some 68, .not (.t 67), none⟩]
abbrev slices_Insert_api_Frame_api_Frame_r15 : List AI := [
  ⟨some 69, .mv false (.t 0), none⟩,
  ⟨some 70, .mv false (.t 1), none⟩,
  ⟨some 71, .mv false (.t 7), none⟩,
  ⟨some 72, .bin .add (.t 70) (.t 71), none⟩,
  ⟨some 73, .sl 3 (.t 69) (some (.t 72)) none, none⟩,
  ⟨some 74, .mv false (.t 0), none⟩,
  ⟨some 75, .mv false (.t 1), none⟩,
  ⟨some 76, .sl 3 (.t 74) (some (.t 75)) none, none⟩,
  ⟨some 77, .copy 3 (.t 73) (.t 76), none⟩]
abbrev slices_Insert_api_Frame_api_Frame_r16 : List AI := [
  ⟨some 78, .mv false (.t 0), none⟩,
  ⟨some 79, .mv false (.t 1), none⟩,
  ⟨some 80, .sl 3 (.t 78) (some (.t 79)) none, none⟩,
  ⟨some 81, .mv false (.t 2), none⟩,
  ⟨some 82, .copy 3 (.t 80) (.t 81), none⟩]
abbrev slices_Insert_api_Frame_api_Frame_r17 : List AI := [
  ⟨some 83, .mv false (.t 0), none⟩,
  ⟨some 6, .mv true (.t 83), none⟩]
abbrev slices_Insert_api_Frame_api_Frame_b1 : ACode := .seq (.reg true slices_Insert_api_Frame_api_Frame_r15) (.seq (.reg false slices_Insert_api_Frame_api_Frame_r16) (.seq (.reg false slices_Insert_api_Frame_api_Frame_r17) (.ret)))
abbrev slices_Insert_api_Frame_api_Frame_r18 : List AI := [
  ⟨some 84, .mv false (.t 0), none⟩,
  ⟨some 85, .mv false (.t 8), none⟩,
  ⟨some 86, .sl 3 (.t 84) (some (.t 85)) none, none⟩,
  ⟨some 87, .mv false (.t 2), none⟩,
  ⟨some 88, .copy 3 (.t 86) (.t 87), none⟩]
abbrev slices_Insert_api_Frame_api_Frame_r19 : List AI := [
  ⟨some 89, .mv false (.t 0), none⟩,
  ⟨some 90, .mv false (.t 1), none⟩,
  ⟨some 91, .sl 3 (.t 89) (some (.t 90)) none, none⟩,
  ⟨some 92, .mv false (.t 7), none⟩,
  ⟨some 93, .call (.c (.fn f_slices_rotateRight_api_Frame)) [(.t 91), (.t 92)] 0, none⟩]
abbrev slices_Insert_api_Frame_api_Frame_r20 : List AI := [
  ⟨some 94, .mv false (.t 0), none⟩,
  ⟨some 6, .mv true (.t 94), none⟩]
abbrev slices_Insert_api_Frame_api_Frame_c : ACode := .seq (.reg false slices_Insert_api_Frame_api_Frame_r0) (.seq (.reg false slices_Insert_api_Frame_api_Frame_r1) (.seq (.reg false slices_Insert_api_Frame_api_Frame_r2) (.seq (.seq (.reg false slices_Insert_api_Frame_api_Frame_r3) (.cond (.t 16) (.seq (.reg false slices_Insert_api_Frame_api_Frame_r4) (.ret)) (.skip))) (.seq (.reg false slices_Insert_api_Frame_api_Frame_r5) (.seq (.seq (.reg false slices_Insert_api_Frame_api_Frame_r6) (.cond (.t 22) (.seq (.reg false slices_Insert_api_Frame_api_Frame_r7) (.ret)) (.skip))) (.seq (.seq (.reg false slices_Insert_api_Frame_api_Frame_r8) (.cond (.t 31) (slices_Insert_api_Frame_api_Frame_b0) (.skip))) (.seq (.reg false slices_Insert_api_Frame_api_Frame_r13) (.seq (.seq (.reg false slices_Insert_api_Frame_api_Frame_r14) (.cond (.t 68) (slices_Insert_api_Frame_api_Frame_b1) (.skip))) (.seq (.reg false slices_Insert_api_Frame_api_Frame_r18) (.seq (.reg false slices_Insert_api_Frame_api_Frame_r19) (.seq (.reg false slices_Insert_api_Frame_api_Frame_r20) (.ret))))))))))))
def slices_Insert_api_Frame_api_Frame_F : AFunc := ⟨95, [.tmp 6], slices_Insert_api_Frame_api_Frame_c⟩

theorem slices_Insert_api_Frame_api_Frame_cp : compile Try.prog [25] f_slices_Insert_api_Frame_api_Frame = some slices_Insert_api_Frame_api_Frame_F := by kernel_rfl

abbrev slices_Clone_api_Frame_api_Frame_r0 : List AI := [
  ⟨some 2, .mv true (.c .nilS), none⟩]
abbrev slices_Clone_api_Frame_api_Frame_r1 : List AI := [
  ⟨some 3, .mv false (.t 0), none⟩,
  ⟨some 4, .isnil false (.t 3), none⟩]
abbrev slices_Clone_api_Frame_api_Frame_r2 : List AI := [
  ⟨some 2, .mv true (.c .nilS), none⟩]
abbrev slices_Clone_api_Frame_api_Frame_r3 : List AI := [
  ⟨some 5, .mkG 3 0 (.agg [(.bool false), (.int .i64 0), (.str [])]) [], none⟩,
  ⟨some 6, .mv false (.t 0), none⟩,
  ⟨some 7, .appG 3 32 [(.bool false), (.int .i64 0), (.str [])] (.t 5) (.t 6), none⟩,
  ⟨some 2, .mv true (.t 7), none⟩]
abbrev slices_Clone_api_Frame_api_Frame_c : ACode := .seq (.reg false slices_Clone_api_Frame_api_Frame_r0) (.seq (.seq (.reg false slices_Clone_api_Frame_api_Frame_r1) (.cond (.t 4) (.seq (.reg false slices_Clone_api_Frame_api_Frame_r2) (.ret)) (.skip))) (.seq (.reg false slices_Clone_api_Frame_api_Frame_r3) (.ret)))
def slices_Clone_api_Frame_api_Frame_F : AFunc := ⟨8, [.tmp 2], slices_Clone_api_Frame_api_Frame_c⟩

theorem slices_Clone_api_Frame_api_Frame_cp : compile Try.prog [5, 7] f_slices_Clone_api_Frame_api_Frame = some slices_Clone_api_Frame_api_Frame_F := by kernel_rfl

-- loop 0: [0, 1, 5, 6]
abbrev slices_DeleteFunc_api_Frame_api_Frame_r0 : List AI := [
  ⟨some 4, .mv true (.c .nilS), none⟩]
abbrev slices_DeleteFunc_api_Frame_api_Frame_r1 : List AI := [
  ⟨some 8, .mv false (.t 0), none⟩,
  ⟨some 9, .mv false (.t 1), none⟩,
  ⟨some 10, .call (.c (.fn f_slices_IndexFunc_api_Frame_api_Frame)) [(.t 8), (.t 9)] 0, none⟩,
  ⟨some 5, .mv true (.t 10), none⟩]
abbrev slices_DeleteFunc_api_Frame_api_Frame_r2 : List AI := [
  ⟨some 11, .mv false (.t 5), none⟩,
  ⟨some 12, .bin .eql (.t 11) (.c (.int .i64 (-1))), none⟩]
abbrev slices_DeleteFunc_api_Frame_api_Frame_r3 : List AI := [
  ⟨some 13, .mv false (.t 0), none⟩,
  ⟨some 4, .mv true (.t 13), none⟩]
abbrev slices_DeleteFunc_api_Frame_api_Frame_r4 : List AI := [
  ⟨some 14, .mv false (.t 5), none⟩,
  ⟨some 15, .bin .add (.t 14) (.c (.int .i64 1)), none⟩,
  ⟨some 6, .mv true (.t 15), none⟩]
abbrev slices_DeleteFunc_api_Frame_api_Frame_r5 : List AI := [
  ⟨some 16, .mv false (.t 6), none⟩,
  ⟨some 17, .mv false (.t 0), none⟩,
  ⟨some 18, .len false (.t 17), none⟩,
  ⟨some 19, .bin .lss (.t 16) (.t 18), none⟩]
abbrev slices_DeleteFunc_api_Frame_api_Frame_r6 : List AI := [
  ⟨some 22, .mv false (.t 0), none⟩,
  ⟨some 23, .mv false (.t 6), none⟩,
  ⟨some 24, .iaddr 3 (.t 22) (.t 23), none⟩,
  ⟨some 25, .load true 3 (.t 24) .any, none⟩,
  ⟨some 7, .alloc [(.bool false), (.int .i64 0), (.str [])], none⟩,
  ⟨none, .store 3 (.t 7) (.t 25) .any, none⟩]
abbrev slices_DeleteFunc_api_Frame_api_Frame_r7 : List AI := [
  ⟨some 26, .mv false (.t 1), none⟩,
  ⟨some 27, .load true 3 (.t 7) .any, none⟩,
  ⟨some 28, .call (.t 26) [(.t 27)] 0, none⟩,
  ⟨some 29, .not (.t 28), none⟩]
abbrev slices_DeleteFunc_api_Frame_api_Frame_r8 : List AI := [
  ⟨some 30, .mv false (.t 0), none⟩,
  ⟨some 31, .mv false (.t 5), none⟩,
  ⟨some 32, .load true 3 (.t 7) .any, none⟩,
  ⟨some 33, .iaddr 3 (.t 30) (.t 31), none⟩,
  ⟨none, .store 3 (.t 33) (.t 32) .any, none⟩]
abbrev slices_DeleteFunc_api_Frame_api_Frame_r9 : List AI := [
  ⟨some 34, .mv false (.t 5), none⟩,
  ⟨some 35, .bin .add (.t 34) (.c (.int .i64 1)), none⟩,
  ⟨some 5, .mv true (.t 35), none⟩]
abbrev slices_DeleteFunc_api_Frame_api_Frame_r10 : List AI := [
  ⟨some 20, .mv false (.t 6), none⟩,
  ⟨some 21, .bin .add (.t 20) (.c (.int .i64 1)), none⟩,
  ⟨some 6, .mv true (.t 21), none⟩]
abbrev slices_DeleteFunc_api_Frame_api_Frame_l0 : ACode := .seq (.seq (.reg false slices_DeleteFunc_api_Frame_api_Frame_r5) (.cond (.t 19) (.skip) (.exit 0))) (.seq (.block 1 (.seq (.reg false slices_DeleteFunc_api_Frame_api_Frame_r6) (.seq (.reg false slices_DeleteFunc_api_Frame_api_Frame_r7) (.cond (.t 29) (.seq (.reg false slices_DeleteFunc_api_Frame_api_Frame_r8) (.reg false slices_DeleteFunc_api_Frame_api_Frame_r9)) (.skip))))) (.reg false slices_DeleteFunc_api_Frame_api_Frame_r10))
abbrev slices_DeleteFunc_api_Frame_api_Frame_r11 : List AI := [
  ⟨some 36, .mv false (.t 0), none⟩,
  ⟨some 37, .mv false (.t 5), none⟩,
  ⟨some 38, .sl 3 (.t 36) (some (.t 37)) none, none⟩,
  ⟨none, .gd (.clr 3 [(.bool false), (.int .i64 0), (.str [])]) [(.t 38)], none⟩]
abbrev slices_DeleteFunc_api_Frame_api_Frame_r12 : List AI := [
  ⟨some 39, .mv false (.t 0), none⟩,
  ⟨some 40, .mv false (.t 5), none⟩,
  ⟨some 41, .sl 3 (.t 39) none (some (.t 40)), none⟩,
  ⟨some 4, .mv true (.t 41), none⟩]
abbrev slices_DeleteFunc_api_Frame_api_Frame_c : ACode := .seq (.reg false slices_DeleteFunc_api_Frame_api_Frame_r0) (.seq (.reg false slices_DeleteFunc_api_Frame_api_Frame_r1) (.seq (.seq (.reg false slices_DeleteFunc_api_Frame_api_Frame_r2) (.cond (.t 12) (.seq (.reg false slices_DeleteFunc_api_Frame_api_Frame_r3) (.ret)) (.skip))) (.seq (.seq (.reg false slices_DeleteFunc_api_Frame_api_Frame_r4) (.block 0 (.loop slices_DeleteFunc_api_Frame_api_Frame_l0))) (.seq (.reg false slices_DeleteFunc_api_Frame_api_Frame_r11) (.seq (.reg false slices_DeleteFunc_api_Frame_api_Frame_r12) (.ret))))))
def slices_DeleteFunc_api_Frame_api_Frame_F : AFunc := ⟨42, [.tmp 4], slices_DeleteFunc_api_Frame_api_Frame_c⟩

theorem slices_DeleteFunc_api_Frame_api_Frame_cp : compile Try.prog [] f_slices_DeleteFunc_api_Frame_api_Frame = some slices_DeleteFunc_api_Frame_api_Frame_F := by kernel_rfl

abbrev link_Receive_2_r0 : List AI := [
  ⟨some 3, .box 3 (.t 0), none⟩,
  ⟨some 4, .mv true (.c (.bool false)), none⟩]
abbrev link_Receive_2_r1 : List AI := [
  ⟨some 5, .faddr 1 (.t 3), none⟩,
  ⟨some 6, .load false 1 (.t 5) .any, none⟩,
  ⟨some 7, .faddr 0 (.t 1), none⟩,
  ⟨some 8, .load false 1 (.t 7) .any, none⟩,
  ⟨some 9, .bin .eql (.t 6) (.t 8), none⟩]
abbrev link_Receive_2_r2 : List AI := [
  ⟨some 10, .load false 1 (.t 2) .any, none⟩,
  ⟨some 11, .load true 3 (.t 3) .any, none⟩,
  ⟨some 12, .mkslice 3 1 (.agg [(.bool false), (.int .i64 0), (.str [])]) [(0, (.t 11))], none⟩,
  ⟨some 13, .appG 3 32 [(.bool false), (.int .i64 0), (.str [])] (.t 10) (.t 12), none⟩,
  ⟨none, .store 1 (.t 2) (.t 13) .any, none⟩]
abbrev link_Receive_2_r3 : List AI := [
  ⟨some 14, .faddr 0 (.t 1), none⟩,
  ⟨some 15, .load false 1 (.t 14) .any, none⟩,
  ⟨some 16, .bin .add (.t 15) (.c (.int .i64 1)), none⟩,
  ⟨some 17, .faddr 0 (.t 1), none⟩,
  ⟨none, .store 1 (.t 17) (.t 16) .any, none⟩]
abbrev link_Receive_2_r4 : List AI := [
  ⟨some 4, .mv true (.c (.bool true)), none⟩]
abbrev link_Receive_2_b0 : ACode := .seq (.reg false link_Receive_2_r2) (.seq (.reg false link_Receive_2_r3) (.seq (.reg false link_Receive_2_r4) (.ret)))
abbrev link_Receive_2_r5 : List AI := [
  ⟨some 18, .faddr 1 (.t 3), none⟩,
  ⟨some 19, .load false 1 (.t 18) .any, none⟩,
  ⟨some 20, .faddr 0 (.t 1), none⟩,
  ⟨some 21, .load false 1 (.t 20) .any, none⟩,
  ⟨some 22, .bin .lss (.t 19) (.t 21), none⟩,
  ⟨some 4, .mv true (.t 22), none⟩]
abbrev link_Receive_2_c : ACode := .seq (.reg false link_Receive_2_r0) (.seq (.seq (.reg false link_Receive_2_r1) (.cond (.t 9) (link_Receive_2_b0) (.skip))) (.seq (.reg false link_Receive_2_r5) (.ret)))
def link_Receive_2_F : AFunc := ⟨23, [.tmp 4], link_Receive_2_c⟩

theorem link_Receive_2_cp : compile Try.prog [13] f_link_Receive_2 = some link_Receive_2_F := by kernel_rfl

abbrev quietuslaw24_message_r0 : List AI := [
  ⟨some 2, .mv true (.c (.str [])), none⟩]
abbrev quietuslaw24_message_r1 : List AI := [
  ⟨some 3, .mv false (.t 0), none⟩,
  ⟨some 4, .bin .rem (.t 3) (.c (.int .i64 26)), none⟩,
  ⟨some 5, .bin .add (.c (.int .i64 97)) (.t 4), none⟩,
  ⟨some 6, .conv .u8 (.t 5), none⟩,
  ⟨some 7, .mv false (.t 0), none⟩,
  ⟨some 8, .bin .quo (.t 7) (.c (.int .i64 26)), none⟩,
  ⟨some 9, .bin .rem (.t 8) (.c (.int .i64 26)), none⟩,
  ⟨some 10, .bin .add (.c (.int .i64 97)) (.t 9), none⟩,
  ⟨some 11, .conv .u8 (.t 10), none⟩,
  ⟨some 12, .mkslice 1 2 (.int .u8 0) [(0, (.t 6)), (1, (.t 11))], none⟩,
  ⟨some 13, .b2s (.t 12), none⟩,
  ⟨some 14, .bin .add (.c (.str [109])) (.t 13), none⟩,
  ⟨some 2, .mv true (.t 14), none⟩]
abbrev quietuslaw24_message_c : ACode := .seq (.reg false quietuslaw24_message_r0) (.seq (.reg false quietuslaw24_message_r1) (.ret))
def quietuslaw24_message_F : AFunc := ⟨15, [.tmp 2], quietuslaw24_message_c⟩

theorem quietuslaw24_message_cp : compile Try.prog [] f_quietuslaw24_message = some quietuslaw24_message_F := by kernel_rfl

abbrev quietuslaw24_summary_r0 : List AI := [
  ⟨some 2, .mv true (.c (.str [])), none⟩]
abbrev quietuslaw24_summary_r1 : List AI := [
  ⟨some 3, .mv false (.t 0), none⟩,
  ⟨some 4, .call (.c (.fn f_quietuslaw24_message)) [(.t 3)] 0, none⟩,
  ⟨some 5, .bin .add (.c (.str [115])) (.t 4), none⟩,
  ⟨some 2, .mv true (.t 5), none⟩]
abbrev quietuslaw24_summary_c : ACode := .seq (.reg false quietuslaw24_summary_r0) (.seq (.reg false quietuslaw24_summary_r1) (.ret))
def quietuslaw24_summary_F : AFunc := ⟨6, [.tmp 2], quietuslaw24_summary_c⟩

theorem quietuslaw24_summary_cp : compile Try.prog [] f_quietuslaw24_summary = some quietuslaw24_summary_F := by kernel_rfl

-- loop 0: [0, 1, 3]
abbrev link_frames_1_r0 : List AI := [
  ⟨some 4, .faddr 1 (.t 1), none⟩,
  ⟨some 5, .load false 1 (.t 4) .any, none⟩,
  ⟨some 6, .faddr 0 (.t 1), none⟩,
  ⟨some 7, .load false 1 (.t 6) .any, none⟩,
  ⟨some 8, .bin .lss (.t 5) (.t 7), none⟩,
  ⟨some 9, .mv false (.t 8), none⟩,
  ⟨some 10, .mv false (.t 0), some (9, true)⟩,
  ⟨some 11, .faddr 0 (.t 1), some (9, true)⟩,
  ⟨some 12, .load false 1 (.t 11) .any, some (9, true)⟩,
  ⟨some 13, .faddr 2 (.t 1), some (9, true)⟩,
  ⟨some 14, .load false 1 (.t 13) .any, some (9, true)⟩,
  ⟨some 15, .build [(.bool false), (.int .i64 0), (.str [])] [(0, 1, (.c (.bool true))), (1, 1, (.t 12)), (2, 1, (.t 14))], some (9, true)⟩,
  ⟨some 16, .call (.t 10) [(.t 15)] 0, some (9, true)⟩,
  ⟨some 17, .not (.t 16), some (9, true)⟩,
  ⟨some 18, .pick (.t 9) (.t 17) (.c (.bool false)), none⟩]
abbrev link_frames_1_r1 : List AI := [
  ⟨some 19, .faddr 1 (.t 1), none⟩,
  ⟨some 20, .load false 1 (.t 19) .any, none⟩,
  ⟨some 21, .faddr 0 (.t 1), none⟩,
  ⟨some 22, .load false 1 (.t 21) .any, none⟩,
  ⟨some 23, .mx (.t 20) (.t 22), none⟩,
  ⟨some 3, .mv true (.t 23), none⟩]
abbrev link_frames_1_r2 : List AI := [
  ⟨some 24, .mv false (.t 3), none⟩,
  ⟨some 25, .load true 4 (.t 1) .any, none⟩,
  ⟨some 26, .call (.c (.fn f_link_end)) [(.t 25)] 0, none⟩,
  ⟨some 27, .bin .lss (.t 24) (.t 26), none⟩]
abbrev link_frames_1_r3 : List AI := [
  ⟨some 30, .mv false (.t 0), none⟩,
  ⟨some 31, .mv false (.t 3), none⟩,
  ⟨some 32, .faddr 3 (.t 1), none⟩,
  ⟨some 33, .load false 1 (.t 32) .any, none⟩,
  ⟨some 34, .mv false (.t 3), none⟩,
  ⟨some 35, .faddr 0 (.t 1), none⟩,
  ⟨some 36, .load false 1 (.t 35) .any, none⟩,
  ⟨some 37, .bin .sub (.t 34) (.t 36), none⟩,
  ⟨some 38, .iaddr 1 (.t 33) (.t 37), none⟩,
  ⟨some 39, .load false 1 (.t 38) .any, none⟩,
  ⟨some 40, .build [(.bool false), (.int .i64 0), (.str [])] [(1, 1, (.t 31)), (2, 1, (.t 39))], none⟩,
  ⟨some 41, .call (.t 30) [(.t 40)] 0, none⟩,
  ⟨some 42, .not (.t 41), none⟩]
abbrev link_frames_1_r4 : List AI := [
  ⟨some 28, .mv false (.t 3), none⟩,
  ⟨some 29, .bin .add (.t 28) (.c (.int .i64 1)), none⟩,
  ⟨some 3, .mv true (.t 29), none⟩]
abbrev link_frames_1_l0 : ACode := .seq (.seq (.reg false link_frames_1_r2) (.cond (.t 27) (.skip) (.exit 0))) (.seq (.block 1 (.seq (.reg false link_frames_1_r3) (.cond (.t 42) (.ret) (.skip)))) (.reg false link_frames_1_r4))
abbrev link_frames_1_c : ACode := .seq (.seq (.reg false link_frames_1_r0) (.cond (.t 18) (.ret) (.skip))) (.seq (.reg false link_frames_1_r1) (.block 0 (.loop link_frames_1_l0)))
def link_frames_1_F : AFunc := ⟨43, [], link_frames_1_c⟩

theorem link_frames_1_cp : compile Try.prog [] f_link_frames_1 = some link_frames_1_F := by kernel_rfl

-- loop 0: [0, 1, 7, 8]
abbrev slices_IndexFunc_string_string_r0 : List AI := [
  ⟨some 4, .mv true (.c (.int .i64 0)), none⟩]
abbrev slices_IndexFunc_string_string_r1 : List AI := [
  ⟨some 6, .mv false (.t 0), none⟩,
  ⟨some 7, .len false (.t 6), none⟩,
  ⟨some 8, .mv false (.c (.int .i64 0)), none⟩]
abbrev slices_IndexFunc_string_string_r2 : List AI := [
  ⟨some 9, .bin .lss (.t 8) (.t 7), none⟩]
abbrev slices_IndexFunc_string_string_r3 : List AI := [
  ⟨some 10, .mv false (.t 8), none⟩,
  ⟨some 5, .mv true (.t 10), none⟩]
abbrev slices_IndexFunc_string_string_r4 : List AI := [
  ⟨some 11, .mv false (.t 1), none⟩,
  ⟨some 12, .mv false (.t 0), none⟩,
  ⟨some 13, .mv false (.t 5), none⟩,
  ⟨some 14, .iaddr 1 (.t 12) (.t 13), none⟩,
  ⟨some 15, .load false 1 (.t 14) .any, none⟩,
  ⟨some 16, .call (.t 11) [(.t 15)] 0, none⟩]
abbrev slices_IndexFunc_string_string_r5 : List AI := [
  ⟨some 17, .mv false (.t 5), none⟩,
  ⟨some 4, .mv true (.t 17), none⟩]
abbrev slices_IndexFunc_string_string_r6 : List AI := [
  ⟨some 18, .bin .add (.t 8) (.c (.int .i64 1)), none⟩,
  ⟨some 8, .mv false (.t 18), none⟩]
abbrev slices_IndexFunc_string_string_l0 : ACode := .seq (.reg false slices_IndexFunc_string_string_r2) (.seq (.cond (.t 9) (.skip) (.exit 0)) (.seq (.block 1 (.seq (.reg false slices_IndexFunc_string_string_r3) (.seq (.reg false slices_IndexFunc_string_string_r4) (.cond (.t 16) (.seq (.reg false slices_IndexFunc_string_string_r5) (.ret)) (.skip))))) (.reg false slices_IndexFunc_string_string_r6)))
abbrev slices_IndexFunc_string_string_r7 : List AI := [
  ⟨some 4, .mv true (.c (.int .i64 (-1))), none⟩]
abbrev slices_IndexFunc_string_string_c : ACode := .seq (.reg false slices_IndexFunc_string_string_r0) (.seq (.seq (.reg false slices_IndexFunc_string_string_r1) (.block 0 (.loop slices_IndexFunc_string_string_l0))) (.seq (.reg false slices_IndexFunc_string_string_r7) (.ret)))
def slices_IndexFunc_string_string_F : AFunc := ⟨19, [.tmp 4], slices_IndexFunc_string_string_c⟩

theorem slices_IndexFunc_string_string_cp : compile Try.prog [] f_slices_IndexFunc_string_string = some slices_IndexFunc_string_string_F := by kernel_rfl

-- loop 0: [0, 1, 7, 8]
abbrev slices_IndexFunc_api_Frame_api_Frame_r0 : List AI := [
  ⟨some 4, .mv true (.c (.int .i64 0)), none⟩]
abbrev slices_IndexFunc_api_Frame_api_Frame_r1 : List AI := [
  ⟨some 6, .mv false (.t 0), none⟩,
  ⟨some 7, .len false (.t 6), none⟩,
  ⟨some 8, .mv false (.c (.int .i64 0)), none⟩]
abbrev slices_IndexFunc_api_Frame_api_Frame_r2 : List AI := [
  ⟨some 9, .bin .lss (.t 8) (.t 7), none⟩]
abbrev slices_IndexFunc_api_Frame_api_Frame_r3 : List AI := [
  ⟨some 10, .mv false (.t 8), none⟩,
  ⟨some 5, .mv true (.t 10), none⟩]
abbrev slices_IndexFunc_api_Frame_api_Frame_r4 : List AI := [
  ⟨some 11, .mv false (.t 1), none⟩,
  ⟨some 12, .mv false (.t 0), none⟩,
  ⟨some 13, .mv false (.t 5), none⟩,
  ⟨some 14, .iaddr 3 (.t 12) (.t 13), none⟩,
  ⟨some 15, .load true 3 (.t 14) .any, none⟩,
  ⟨some 16, .call (.t 11) [(.t 15)] 0, none⟩]
abbrev slices_IndexFunc_api_Frame_api_Frame_r5 : List AI := [
  ⟨some 17, .mv false (.t 5), none⟩,
  ⟨some 4, .mv true (.t 17), none⟩]
abbrev slices_IndexFunc_api_Frame_api_Frame_r6 : List AI := [
  ⟨some 18, .bin .add (.t 8) (.c (.int .i64 1)), none⟩,
  ⟨some 8, .mv false (.t 18), none⟩]
abbrev slices_IndexFunc_api_Frame_api_Frame_l0 : ACode := .seq (.reg false slices_IndexFunc_api_Frame_api_Frame_r2) (.seq (.cond (.t 9) (.skip) (.exit 0)) (.seq (.block 1 (.seq (.reg false slices_IndexFunc_api_Frame_api_Frame_r3) (.seq (.reg false slices_IndexFunc_api_Frame_api_Frame_r4) (.cond (.t 16) (.seq (.reg false slices_IndexFunc_api_Frame_api_Frame_r5) (.ret)) (.skip))))) (.reg false slices_IndexFunc_api_Frame_api_Frame_r6)))
abbrev slices_IndexFunc_api_Frame_api_Frame_r7 : List AI := [
  ⟨some 4, .mv true (.c (.int .i64 (-1))), none⟩]
abbrev slices_IndexFunc_api_Frame_api_Frame_c : ACode := .seq (.reg false slices_IndexFunc_api_Frame_api_Frame_r0) (.seq (.seq (.reg false slices_IndexFunc_api_Frame_api_Frame_r1) (.block 0 (.loop slices_IndexFunc_api_Frame_api_Frame_l0))) (.seq (.reg false slices_IndexFunc_api_Frame_api_Frame_r7) (.ret)))
def slices_IndexFunc_api_Frame_api_Frame_F : AFunc := ⟨19, [.tmp 4], slices_IndexFunc_api_Frame_api_Frame_c⟩

theorem slices_IndexFunc_api_Frame_api_Frame_cp : compile Try.prog [] f_slices_IndexFunc_api_Frame_api_Frame = some slices_IndexFunc_api_Frame_api_Frame_F := by kernel_rfl
theorem fol : Try.prog.follows .mixedOrders = true := by kernel_rfl
end
end Go.Proofs.Ytedmmfbebecobaa
