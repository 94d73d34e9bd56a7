/-
  The functions' code in the evaluator's form, printed by a program of ours from the loaded program, and checked against it.
  Conditions: none.
-/
import Derived.Test.YtpooocblijlabaaProg
import Derived.KernelRfl
import Derived.Test.YtpooocblijlabaaEB
namespace Go.Proofs.Ytpooocblijlabaa
open Go Go.E2
noncomputable section
abbrev f_main_main : FuncId := 0
abbrev f_gosem_cut : FuncId := 1
abbrev f_gosem_cut_init : FuncId := 2
abbrev f_quietuslaw42_CacheMatchesSpec : FuncId := 3
abbrev f_quietuslaw42_CacheRunsAsSpecified : FuncId := 4
abbrev f_quietuslaw42_CacheForgets : FuncId := 5
abbrev f_quietuslaw42_CacheIsFresh : FuncId := 6
abbrev f_quietuslaw42_CacheKeeps : FuncId := 7
abbrev f_quietuslaw42_short : FuncId := 8
abbrev f_quietuslaw42_sanity : FuncId := 9
abbrev f_cache_New : FuncId := 10
abbrev f_quietusref42_New : FuncId := 11
abbrev f_cache_Check : FuncId := 12
abbrev f_quietusref42_Check : FuncId := 13
abbrev f_quietusref42_Same : FuncId := 14
abbrev f_quietuslaw42_same : FuncId := 15
abbrev f_quietuslaw42_do : FuncId := 16
abbrev f_quietusref42_Do : FuncId := 17
abbrev f_quietuslaw42_few : FuncId := 18
abbrev f_quietusref42_Find : FuncId := 19
abbrev f_cache_Put : FuncId := 20
abbrev f_quietuslaw42_item : FuncId := 21
abbrev f_cache_Tick : FuncId := 22
abbrev f_cache_Get : FuncId := 23
abbrev f_cache_Forget : FuncId := 24
abbrev f_cache_right : FuncId := 25
abbrev f_cache_compare : FuncId := 26
abbrev f_cache_total : FuncId := 27
abbrev f_quietusref42_Right : FuncId := 28
abbrev f_quietusref42_before : FuncId := 29
abbrev f_quietusref42_Bytes : FuncId := 30
abbrev f_quietusref42_SameItems : FuncId := 31
abbrev f_quietusref42_Tick : FuncId := 32
abbrev f_quietusref42_Put : FuncId := 33
abbrev f_quietusref42_Get : FuncId := 34
abbrev f_quietusref42_Forget : FuncId := 35
abbrev f_cache_find : FuncId := 36
abbrev f_slices_Clone_api_Kept_api_Kept : FuncId := 37
abbrev f_slices_Insert_api_Kept_api_Kept : FuncId := 38
abbrev f_cache_keep_api_Kept : FuncId := 39
abbrev f_cache_Tick_1 : FuncId := 40
abbrev f_cache_Forget_1 : FuncId := 41
abbrev f_cache_right_1 : FuncId := 42
abbrev f_slices_BinarySearchFunc_api_Kept_api_Kept_api_Kept : FuncId := 43
abbrev f_slices_overlaps_api_Kept : FuncId := 44
abbrev f_slices_rotateRight_api_Kept : FuncId := 45
abbrev f_slices_rotateLeft_api_Kept : FuncId := 46
abbrev f_slices_Reverse_api_Kept_api_Kept : FuncId := 47
abbrev f_runtime_boundsError_Error : FuncId := 48
abbrev f_runtime_boundsError_RuntimeError : FuncId := 49
abbrev f_runtime_errorString_Error : FuncId := 50
abbrev f_runtime_errorString_RuntimeError : FuncId := 51
abbrev f_runtime_plainError_Error : FuncId := 52
abbrev f_runtime_plainError_RuntimeError : FuncId := 53
abbrev f_runtime_errorAddressString_Error : FuncId := 54
abbrev f_runtime_errorAddressString_RuntimeError : FuncId := 55
abbrev f_runtime_TypeAssertionError_Error : FuncId := 56
abbrev f_runtime_TypeAssertionError_RuntimeError : FuncId := 57
abbrev f_runtime_PanicNilError_Error : FuncId := 58
abbrev f_runtime_PanicNilError_RuntimeError : FuncId := 59
abbrev f_internal_abi_Type_Align : FuncId := 60
abbrev f_internal_runtime_maps_unhashableTypeError_Error : FuncId := 61
abbrev f_internal_runtime_maps_unhashableTypeError_RuntimeError : FuncId := 62
abbrev f_internal_abi_Kind_String : FuncId := 63
abbrev quietuslaw42_CacheMatchesSpec_r0 : List AI := [
  ⟨some 3, .box 3 (.t 0), none⟩,
  ⟨some 4, .box 9 (.t 1), none⟩,
  ⟨some 6, .mv true (.c (.bool false)), none⟩]
abbrev quietuslaw42_CacheMatchesSpec_r1 : List AI := [
  ⟨some 10, .faddr 2 (.t 3), none⟩,
  ⟨some 11, .load false 1 (.t 10) .any, none⟩,
  ⟨some 12, .call (.c (.fn f_quietuslaw42_short)) [(.t 11), (.c (.int .i64 12))] 0, none⟩,
  ⟨some 13, .not (.t 12), none⟩,
  ⟨some 14, .mv false (.t 13), none⟩,
  ⟨some 15, .faddr 2 (.t 4), some (14, false)⟩,
  ⟨some 16, .faddr 3 (.t 15), some (14, false)⟩,
  ⟨some 17, .load false 1 (.t 16) .any, some (14, false)⟩,
  ⟨some 18, .len true (.t 17), some (14, false)⟩,
  ⟨some 19, .bin .gtr (.t 18) (.c (.int .i64 5000)), some (14, false)⟩,
  ⟨some 20, .pick (.t 14) (.c (.bool true)) (.t 19), none⟩]
abbrev quietuslaw42_CacheMatchesSpec_r2 : List AI := [
  ⟨some 21, .call (.c (.fn f_quietuslaw42_sanity)) [] 0, none⟩,
  ⟨some 6, .mv true (.t 21), none⟩]
abbrev quietuslaw42_CacheMatchesSpec_r3 : List AI := [
  ⟨some 23, .mv false (.t 2), none⟩,
  ⟨some 24, .call (.c (.fn f_cache_New)) [(.t 23)] 0, none⟩,
  ⟨some 22, .mv false (.t 24), none⟩,
  ⟨some 25, .ext (.t 22) 0, none⟩,
  ⟨some 26, .ext (.t 22) 1, none⟩,
  ⟨some 7, .alloc [(.int .i64 0), (.int .i64 0), .nilS], none⟩,
  ⟨none, .store 3 (.t 7) (.t 25) .any, none⟩,
  ⟨some 8, .mv true (.t 26), none⟩]
abbrev quietuslaw42_CacheMatchesSpec_r4 : List AI := [
  ⟨some 27, .mv false (.t 2), none⟩,
  ⟨some 28, .call (.c (.fn f_quietusref42_New)) [(.t 27)] 0, none⟩,
  ⟨some 9, .alloc [(.int .i64 0), (.int .i64 0), .nilS, .nilS, (.str []), (.int .i64 0), (.int .i64 0)], none⟩,
  ⟨none, .store 7 (.t 9) (.t 28) .any, none⟩]
abbrev quietuslaw42_CacheMatchesSpec_r5 : List AI := [
  ⟨some 29, .call (.c (.fn f_quietuslaw42_sanity)) [] 2, none⟩,
  ⟨some 30, .mv false (.t 29), none⟩,
  ⟨some 31, .load true 3 (.t 3) (.site 3), some (30, true)⟩,
  ⟨some 33, .load true 3 (.t 3) (.site 3), some (30, true)⟩,
  ⟨some 32, .call (.c (.fn f_cache_Check)) [(.t 31)] 2, some (30, true)⟩,
  ⟨some 34, .call (.c (.fn f_quietusref42_Check)) [(.t 33)] 2, some (30, true)⟩,
  ⟨some 35, .bin .eql (.t 32) (.t 34), some (30, true)⟩,
  ⟨some 36, .pick (.t 30) (.t 35) (.c (.bool false)), none⟩,
  ⟨some 37, .mv false (.t 36), none⟩,
  ⟨some 38, .mv false (.t 8), some (37, true)⟩,
  ⟨some 39, .faddr 6 (.t 9), some (37, true)⟩,
  ⟨some 40, .load false 1 (.t 39) (.site 9), some (37, true)⟩,
  ⟨some 41, .bin .eql (.t 38) (.t 40), some (37, true)⟩,
  ⟨some 42, .pick (.t 37) (.t 41) (.c (.bool false)), none⟩,
  ⟨some 43, .mv false (.t 42), none⟩,
  ⟨some 44, .load true 3 (.t 7) (.site 7), some (43, true)⟩,
  ⟨some 45, .faddr 0 (.t 9), some (43, true)⟩,
  ⟨some 46, .load true 3 (.t 45) (.site 9), some (43, true)⟩,
  ⟨some 47, .call (.c (.fn f_quietusref42_Same)) [(.t 44), (.t 46)] 2, some (43, true)⟩,
  ⟨some 48, .pick (.t 43) (.t 47) (.c (.bool false)), none⟩,
  ⟨some 49, .mv false (.t 48), none⟩,
  ⟨some 50, .load true 3 (.t 3) (.site 3), some (49, true)⟩,
  ⟨some 51, .load true 9 (.t 4) (.site 4), some (49, true)⟩,
  ⟨some 53, .load true 3 (.t 3) (.site 3), some (49, true)⟩,
  ⟨some 54, .load true 9 (.t 4) (.site 4), some (49, true)⟩,
  ⟨some 52, .call (.c (.fn f_quietuslaw42_do)) [(.t 50), (.t 51)] 2, some (49, true)⟩,
  ⟨some 55, .call (.c (.fn f_quietusref42_Do)) [(.t 53), (.t 54)] 2, some (49, true)⟩,
  ⟨some 56, .call (.c (.fn f_quietuslaw42_same)) [(.t 52), (.t 55)] 2, some (49, true)⟩,
  ⟨some 57, .pick (.t 49) (.t 56) (.c (.bool false)), none⟩,
  ⟨some 6, .mv true (.t 57), none⟩]
abbrev quietuslaw42_CacheMatchesSpec_c : ACode := .seq (.reg false quietuslaw42_CacheMatchesSpec_r0) (.seq (.seq (.reg false quietuslaw42_CacheMatchesSpec_r1) (.cond (.t 20) (.seq (.reg false quietuslaw42_CacheMatchesSpec_r2) (.ret)) (.skip))) (.seq (.reg false quietuslaw42_CacheMatchesSpec_r3) (.seq (.reg false quietuslaw42_CacheMatchesSpec_r4) (.seq (.reg true quietuslaw42_CacheMatchesSpec_r5) (.ret)))))
def quietuslaw42_CacheMatchesSpec_F : AFunc := ⟨58, [.tmp 6], quietuslaw42_CacheMatchesSpec_c⟩

theorem quietuslaw42_CacheMatchesSpec_cp : compile Try.prog [] f_quietuslaw42_CacheMatchesSpec = some quietuslaw42_CacheMatchesSpec_F := by kernel_rfl

abbrev quietuslaw42_CacheRunsAsSpecified_r0 : List AI := [
  ⟨some 4, .mv true (.c (.bool false)), none⟩]
abbrev quietuslaw42_CacheRunsAsSpecified_r1 : List AI := [
  ⟨some 11, .mv false (.t 0), none⟩,
  ⟨some 12, .call (.c (.fn f_cache_New)) [(.t 11)] 0, none⟩,
  ⟨some 10, .mv false (.t 12), none⟩,
  ⟨some 13, .ext (.t 10) 0, none⟩,
  ⟨some 14, .ext (.t 10) 1, none⟩,
  ⟨some 5, .alloc [(.int .i64 0), (.int .i64 0), .nilS], none⟩,
  ⟨none, .store 3 (.t 5) (.t 13) .any, none⟩,
  ⟨some 6, .mv true (.t 14), none⟩]
abbrev quietuslaw42_CacheRunsAsSpecified_r2 : List AI := [
  ⟨some 15, .mv false (.t 1), none⟩,
  ⟨some 16, .call (.c (.fn f_quietuslaw42_few)) [(.t 15)] 0, none⟩,
  ⟨some 17, .not (.t 16), none⟩,
  ⟨some 18, .mv false (.t 17), none⟩,
  ⟨some 19, .mv false (.t 6), some (18, false)⟩,
  ⟨some 20, .bin .neq (.t 19) (.c (.int .i64 0)), some (18, false)⟩,
  ⟨some 21, .pick (.t 18) (.c (.bool true)) (.t 20), none⟩]
abbrev quietuslaw42_CacheRunsAsSpecified_r3 : List AI := [
  ⟨some 22, .call (.c (.fn f_quietuslaw42_sanity)) [] 0, none⟩,
  ⟨some 4, .mv true (.t 22), none⟩]
abbrev quietuslaw42_CacheRunsAsSpecified_r4 : List AI := [
  ⟨some 7, .mv true (.c (.int .i64 0)), none⟩]
abbrev quietuslaw42_CacheRunsAsSpecified_r5 : List AI := [
  ⟨some 23, .mv false (.t 7), none⟩,
  ⟨some 24, .mv false (.t 1), none⟩,
  ⟨some 25, .len false (.t 24), none⟩,
  ⟨some 26, .bin .lss (.t 23) (.t 25), none⟩]
abbrev quietuslaw42_CacheRunsAsSpecified_r6 : List AI := [
  ⟨some 29, .load true 3 (.t 5) (.site 5), none⟩,
  ⟨some 30, .mv false (.t 1), none⟩,
  ⟨some 31, .mv false (.t 7), none⟩,
  ⟨some 32, .iaddr 9 (.t 30) (.t 31), none⟩,
  ⟨some 33, .load true 9 (.t 32) .foreign, none⟩,
  ⟨some 8, .alloc [(.int .i64 0), (.int .i64 0), .nilS, .nilS, (.str []), (.int .i64 0), (.int .i64 0)], none⟩,
  ⟨some 34, .call (.c (.fn f_quietuslaw42_do)) [(.t 29), (.t 33)] 1, none⟩,
  ⟨none, .store 7 (.t 8) (.t 34) (.site 8), none⟩]
abbrev quietuslaw42_CacheRunsAsSpecified_r7 : List AI := [
  ⟨some 35, .load true 3 (.t 5) (.site 5), none⟩,
  ⟨some 36, .mv false (.t 1), none⟩,
  ⟨some 37, .mv false (.t 7), none⟩,
  ⟨some 38, .iaddr 9 (.t 36) (.t 37), none⟩,
  ⟨some 39, .load true 9 (.t 38) .foreign, none⟩,
  ⟨some 9, .alloc [(.int .i64 0), (.int .i64 0), .nilS, .nilS, (.str []), (.int .i64 0), (.int .i64 0)], none⟩,
  ⟨some 40, .call (.c (.fn f_quietusref42_Do)) [(.t 35), (.t 39)] 1, none⟩,
  ⟨none, .store 7 (.t 9) (.t 40) (.site 9), none⟩]
abbrev quietuslaw42_CacheRunsAsSpecified_r8 : List AI := [
  ⟨some 41, .load true 7 (.t 8) .any, none⟩,
  ⟨some 42, .load true 7 (.t 9) .any, none⟩,
  ⟨some 43, .call (.c (.fn f_quietuslaw42_same)) [(.t 41), (.t 42)] 0, none⟩,
  ⟨some 44, .not (.t 43), none⟩]
abbrev quietuslaw42_CacheRunsAsSpecified_r9 : List AI := [
  ⟨some 4, .mv true (.c (.bool false)), none⟩]
abbrev quietuslaw42_CacheRunsAsSpecified_r10 : List AI := [
  ⟨some 45, .faddr 0 (.t 8), none⟩,
  ⟨some 46, .load true 3 (.t 45) .any, none⟩,
  ⟨none, .store 3 (.t 5) (.t 46) .any, none⟩]
abbrev quietuslaw42_CacheRunsAsSpecified_r11 : List AI := [
  ⟨some 27, .mv false (.t 7), none⟩,
  ⟨some 28, .bin .add (.t 27) (.c (.int .i64 1)), none⟩,
  ⟨some 7, .mv true (.t 28), none⟩]
abbrev quietuslaw42_CacheRunsAsSpecified_l0 : ACode := .seq (.seq (.reg false quietuslaw42_CacheRunsAsSpecified_r5) (.cond (.t 26) (.skip) (.exit 0))) (.seq (.block 1 (.seq (.reg true quietuslaw42_CacheRunsAsSpecified_r6) (.seq (.reg true quietuslaw42_CacheRunsAsSpecified_r7) (.seq (.seq (.reg false quietuslaw42_CacheRunsAsSpecified_r8) (.cond (.t 44) (.seq (.reg false quietuslaw42_CacheRunsAsSpecified_r9) (.ret)) (.skip))) (.reg false quietuslaw42_CacheRunsAsSpecified_r10))))) (.reg false quietuslaw42_CacheRunsAsSpecified_r11))
abbrev quietuslaw42_CacheRunsAsSpecified_r12 : List AI := [
  ⟨some 47, .call (.c (.fn f_quietuslaw42_sanity)) [] 0, none⟩,
  ⟨some 4, .mv true (.t 47), none⟩]
abbrev quietuslaw42_CacheRunsAsSpecified_c : ACode := .seq (.reg false quietuslaw42_CacheRunsAsSpecified_r0) (.seq (.reg false quietuslaw42_CacheRunsAsSpecified_r1) (.seq (.seq (.reg false quietuslaw42_CacheRunsAsSpecified_r2) (.cond (.t 21) (.seq (.reg false quietuslaw42_CacheRunsAsSpecified_r3) (.ret)) (.skip))) (.seq (.seq (.reg false quietuslaw42_CacheRunsAsSpecified_r4) (.block 0 (.loop quietuslaw42_CacheRunsAsSpecified_l0))) (.seq (.reg false quietuslaw42_CacheRunsAsSpecified_r12) (.ret)))))
def quietuslaw42_CacheRunsAsSpecified_F : AFunc := ⟨48, [.tmp 4], quietuslaw42_CacheRunsAsSpecified_c⟩

theorem quietuslaw42_CacheRunsAsSpecified_cp : compile Try.prog [] f_quietuslaw42_CacheRunsAsSpecified = some quietuslaw42_CacheRunsAsSpecified_F := by kernel_rfl

abbrev quietuslaw42_CacheForgets_r0 : List AI := [
  ⟨some 4, .mv true (.c (.bool false)), none⟩]
abbrev quietuslaw42_CacheForgets_r1 : List AI := [
  ⟨some 12, .mv false (.t 0), none⟩,
  ⟨some 13, .call (.c (.fn f_cache_New)) [(.t 12)] 0, none⟩,
  ⟨some 11, .mv false (.t 13), none⟩,
  ⟨some 14, .ext (.t 11) 0, none⟩,
  ⟨some 15, .ext (.t 11) 1, none⟩,
  ⟨some 5, .alloc [(.int .i64 0), (.int .i64 0), .nilS], none⟩,
  ⟨none, .store 3 (.t 5) (.t 14) .any, none⟩,
  ⟨some 6, .mv true (.t 15), none⟩]
abbrev quietuslaw42_CacheForgets_r2 : List AI := [
  ⟨some 16, .mv false (.t 1), none⟩,
  ⟨some 17, .call (.c (.fn f_quietuslaw42_few)) [(.t 16)] 0, none⟩,
  ⟨some 18, .not (.t 17), none⟩,
  ⟨some 19, .mv false (.t 18), none⟩,
  ⟨some 20, .mv false (.t 6), some (19, false)⟩,
  ⟨some 21, .bin .neq (.t 20) (.c (.int .i64 0)), some (19, false)⟩,
  ⟨some 22, .pick (.t 19) (.c (.bool true)) (.t 21), none⟩]
abbrev quietuslaw42_CacheForgets_r3 : List AI := [
  ⟨some 23, .call (.c (.fn f_quietuslaw42_sanity)) [] 0, none⟩,
  ⟨some 4, .mv true (.t 23), none⟩]
abbrev quietuslaw42_CacheForgets_r4 : List AI := [
  ⟨some 7, .mv true (.c (.int .i64 0)), none⟩]
abbrev quietuslaw42_CacheForgets_r5 : List AI := [
  ⟨some 24, .mv false (.t 7), none⟩,
  ⟨some 25, .mv false (.t 1), none⟩,
  ⟨some 26, .len false (.t 25), none⟩,
  ⟨some 27, .bin .lss (.t 24) (.t 26), none⟩]
abbrev quietuslaw42_CacheForgets_r6 : List AI := [
  ⟨some 30, .load true 3 (.t 5) (.site 5), none⟩,
  ⟨some 31, .mv false (.t 1), none⟩,
  ⟨some 32, .mv false (.t 7), none⟩,
  ⟨some 33, .iaddr 9 (.t 31) (.t 32), none⟩,
  ⟨some 34, .load true 9 (.t 33) .foreign, none⟩,
  ⟨some 8, .alloc [(.int .i64 0), (.int .i64 0), .nilS, .nilS, (.str []), (.int .i64 0), (.int .i64 0)], none⟩,
  ⟨some 35, .call (.c (.fn f_quietuslaw42_do)) [(.t 30), (.t 34)] 1, none⟩,
  ⟨none, .store 7 (.t 8) (.t 35) (.site 8), none⟩]
abbrev quietuslaw42_CacheForgets_r7 : List AI := [
  ⟨some 36, .faddr 6 (.t 8), none⟩,
  ⟨some 37, .load false 1 (.t 36) .any, none⟩,
  ⟨some 38, .bin .neq (.t 37) (.c (.int .i64 0)), none⟩,
  ⟨some 39, .mv false (.t 38), none⟩,
  ⟨some 40, .faddr 0 (.t 8), some (39, true)⟩,
  ⟨some 41, .load true 3 (.t 40) .any, some (39, true)⟩,
  ⟨some 42, .load true 3 (.t 5) .any, some (39, true)⟩,
  ⟨some 43, .call (.c (.fn f_quietusref42_Same)) [(.t 41), (.t 42)] 0, some (39, true)⟩,
  ⟨some 44, .not (.t 43), some (39, true)⟩,
  ⟨some 45, .pick (.t 39) (.t 44) (.c (.bool false)), none⟩,
  ⟨some 46, .mv false (.t 45), none⟩,
  ⟨some 47, .faddr 0 (.t 8), some (46, false)⟩,
  ⟨some 48, .load true 3 (.t 47) .any, some (46, false)⟩,
  ⟨some 49, .call (.c (.fn f_cache_Check)) [(.t 48)] 0, some (46, false)⟩,
  ⟨some 50, .bin .neq (.t 49) (.c (.int .i64 0)), some (46, false)⟩,
  ⟨some 51, .pick (.t 46) (.c (.bool true)) (.t 50), none⟩,
  ⟨some 52, .mv false (.t 51), none⟩,
  ⟨some 53, .faddr 0 (.t 8), some (52, false)⟩,
  ⟨some 54, .faddr 0 (.t 53), some (52, false)⟩,
  ⟨some 55, .load false 1 (.t 54) .any, some (52, false)⟩,
  ⟨some 56, .mv false (.t 0), some (52, false)⟩,
  ⟨some 57, .bin .neq (.t 55) (.t 56), some (52, false)⟩,
  ⟨some 58, .pick (.t 52) (.c (.bool true)) (.t 57), none⟩]
abbrev quietuslaw42_CacheForgets_r8 : List AI := [
  ⟨some 4, .mv true (.c (.bool false)), none⟩]
abbrev quietuslaw42_CacheForgets_r9 : List AI := [
  ⟨some 59, .faddr 0 (.t 8), none⟩,
  ⟨some 60, .load true 3 (.t 59) .any, none⟩,
  ⟨none, .store 3 (.t 5) (.t 60) .any, none⟩]
abbrev quietuslaw42_CacheForgets_r10 : List AI := [
  ⟨some 9, .mv true (.c (.int .i64 0)), none⟩]
abbrev quietuslaw42_CacheForgets_r11 : List AI := [
  ⟨some 10, .mv true (.c (.int .i64 0)), none⟩]
abbrev quietuslaw42_CacheForgets_r12 : List AI := [
  ⟨some 61, .mv false (.t 10), none⟩,
  ⟨some 62, .faddr 2 (.t 5), none⟩,
  ⟨some 63, .load false 1 (.t 62) .any, none⟩,
  ⟨some 64, .len false (.t 63), none⟩,
  ⟨some 65, .bin .lss (.t 61) (.t 64), none⟩]
abbrev quietuslaw42_CacheForgets_r13 : List AI := [
  ⟨some 68, .mv false (.t 9), none⟩,
  ⟨some 69, .faddr 2 (.t 5), none⟩,
  ⟨some 70, .load false 1 (.t 69) .any, none⟩,
  ⟨some 71, .mv false (.t 10), none⟩,
  ⟨some 72, .iaddr 7 (.t 70) (.t 71), none⟩,
  ⟨some 73, .faddr 3 (.t 72), none⟩,
  ⟨some 74, .load false 1 (.t 73) .any, none⟩,
  ⟨some 75, .len true (.t 74), none⟩,
  ⟨some 76, .bin .add (.t 68) (.t 75), none⟩,
  ⟨some 9, .mv true (.t 76), none⟩]
abbrev quietuslaw42_CacheForgets_r14 : List AI := [
  ⟨some 77, .faddr 2 (.t 5), none⟩,
  ⟨some 78, .load false 1 (.t 77) (.site 5), none⟩,
  ⟨some 79, .mv false (.t 10), none⟩,
  ⟨some 80, .iaddr 7 (.t 78) (.t 79), none⟩,
  ⟨some 81, .faddr 5 (.t 80), none⟩,
  ⟨some 82, .load false 1 (.t 81) .foreign, none⟩,
  ⟨some 83, .faddr 1 (.t 5), none⟩,
  ⟨some 84, .load false 1 (.t 83) (.site 5), none⟩,
  ⟨some 85, .bin .lss (.t 82) (.t 84), none⟩,
  ⟨some 86, .mv false (.t 85), none⟩,
  ⟨some 87, .mv false (.t 1), some (86, false)⟩,
  ⟨some 88, .mv false (.t 7), some (86, false)⟩,
  ⟨some 89, .iaddr 9 (.t 87) (.t 88), some (86, false)⟩,
  ⟨some 90, .faddr 0 (.t 89), some (86, false)⟩,
  ⟨some 91, .load false 1 (.t 90) .foreign, some (86, false)⟩,
  ⟨some 92, .bin .rem (.t 91) (.c (.int .u8 4)), some (86, false)⟩,
  ⟨some 93, .bin .eql (.t 92) (.c (.int .u8 3)), some (86, false)⟩,
  ⟨some 94, .mv false (.t 93), some (86, false)⟩,
  ⟨some 95, .faddr 2 (.t 5), some (94, true)⟩,
  ⟨some 96, .load false 1 (.t 95) (.site 5), some (94, true)⟩,
  ⟨some 97, .mv false (.t 10), some (94, true)⟩,
  ⟨some 98, .iaddr 7 (.t 96) (.t 97), some (94, true)⟩,
  ⟨some 99, .faddr 0 (.t 98), some (94, true)⟩,
  ⟨some 100, .load false 1 (.t 99) .foreign, some (94, true)⟩,
  ⟨some 101, .mv false (.t 1), some (94, true)⟩,
  ⟨some 102, .mv false (.t 7), some (94, true)⟩,
  ⟨some 103, .iaddr 9 (.t 101) (.t 102), some (94, true)⟩,
  ⟨some 104, .faddr 2 (.t 103), some (94, true)⟩,
  ⟨some 105, .faddr 0 (.t 104), some (94, true)⟩,
  ⟨some 106, .load false 1 (.t 105) .foreign, some (94, true)⟩,
  ⟨some 107, .bin .eql (.t 100) (.t 106), some (94, true)⟩,
  ⟨some 108, .pick (.t 94) (.t 107) (.c (.bool false)), some (86, false)⟩,
  ⟨some 109, .pick (.t 86) (.c (.bool true)) (.t 108), none⟩]
abbrev quietuslaw42_CacheForgets_r15 : List AI := [
  ⟨some 4, .mv true (.c (.bool false)), none⟩]
abbrev quietuslaw42_CacheForgets_r16 : List AI := [
  ⟨some 66, .mv false (.t 10), none⟩,
  ⟨some 67, .bin .add (.t 66) (.c (.int .i64 1)), none⟩,
  ⟨some 10, .mv true (.t 67), none⟩]
abbrev quietuslaw42_CacheForgets_l0 : ACode := .seq (.seq (.reg false quietuslaw42_CacheForgets_r12) (.cond (.t 65) (.skip) (.exit 2))) (.seq (.block 3 (.seq (.reg false quietuslaw42_CacheForgets_r13) (.seq (.reg true quietuslaw42_CacheForgets_r14) (.cond (.t 109) (.seq (.reg false quietuslaw42_CacheForgets_r15) (.ret)) (.skip))))) (.reg false quietuslaw42_CacheForgets_r16))
abbrev quietuslaw42_CacheForgets_r17 : List AI := [
  ⟨some 110, .mv false (.t 9), none⟩,
  ⟨some 111, .mv false (.t 0), none⟩,
  ⟨some 112, .bin .gtr (.t 110) (.t 111), none⟩]
abbrev quietuslaw42_CacheForgets_r18 : List AI := [
  ⟨some 4, .mv true (.c (.bool false)), none⟩]
abbrev quietuslaw42_CacheForgets_r19 : List AI := [
  ⟨some 28, .mv false (.t 7), none⟩,
  ⟨some 29, .bin .add (.t 28) (.c (.int .i64 1)), none⟩,
  ⟨some 7, .mv true (.t 29), none⟩]
abbrev quietuslaw42_CacheForgets_l1 : ACode := .seq (.seq (.reg false quietuslaw42_CacheForgets_r5) (.cond (.t 27) (.skip) (.exit 0))) (.seq (.block 1 (.seq (.reg true quietuslaw42_CacheForgets_r6) (.seq (.seq (.reg false quietuslaw42_CacheForgets_r7) (.cond (.t 58) (.seq (.reg false quietuslaw42_CacheForgets_r8) (.ret)) (.skip))) (.seq (.reg false quietuslaw42_CacheForgets_r9) (.seq (.reg false quietuslaw42_CacheForgets_r10) (.seq (.seq (.reg false quietuslaw42_CacheForgets_r11) (.block 2 (.loop quietuslaw42_CacheForgets_l0))) (.seq (.reg false quietuslaw42_CacheForgets_r17) (.cond (.t 112) (.seq (.reg false quietuslaw42_CacheForgets_r18) (.ret)) (.skip))))))))) (.reg false quietuslaw42_CacheForgets_r19))
abbrev quietuslaw42_CacheForgets_r20 : List AI := [
  ⟨some 113, .call (.c (.fn f_quietuslaw42_sanity)) [] 0, none⟩,
  ⟨some 4, .mv true (.t 113), none⟩]
abbrev quietuslaw42_CacheForgets_c : ACode := .seq (.reg false quietuslaw42_CacheForgets_r0) (.seq (.reg false quietuslaw42_CacheForgets_r1) (.seq (.seq (.reg false quietuslaw42_CacheForgets_r2) (.cond (.t 22) (.seq (.reg false quietuslaw42_CacheForgets_r3) (.ret)) (.skip))) (.seq (.seq (.reg false quietuslaw42_CacheForgets_r4) (.block 0 (.loop quietuslaw42_CacheForgets_l1))) (.seq (.reg false quietuslaw42_CacheForgets_r20) (.ret)))))
def quietuslaw42_CacheForgets_F : AFunc := ⟨114, [.tmp 4], quietuslaw42_CacheForgets_c⟩

theorem quietuslaw42_CacheForgets_cp : compile Try.prog [] f_quietuslaw42_CacheForgets = some quietuslaw42_CacheForgets_F := by kernel_rfl

abbrev quietuslaw42_CacheIsFresh_r0 : List AI := [
  ⟨some 4, .mv true (.c (.bool false)), none⟩]
abbrev quietuslaw42_CacheIsFresh_r1 : List AI := [
  ⟨some 18, .mv false (.t 0), none⟩,
  ⟨some 19, .call (.c (.fn f_cache_New)) [(.t 18)] 0, none⟩,
  ⟨some 17, .mv false (.t 19), none⟩,
  ⟨some 20, .ext (.t 17) 0, none⟩,
  ⟨some 21, .ext (.t 17) 1, none⟩,
  ⟨some 5, .alloc [(.int .i64 0), (.int .i64 0), .nilS], none⟩,
  ⟨none, .store 3 (.t 5) (.t 20) .any, none⟩,
  ⟨some 6, .mv true (.t 21), none⟩]
abbrev quietuslaw42_CacheIsFresh_r2 : List AI := [
  ⟨some 22, .mv false (.t 1), none⟩,
  ⟨some 23, .call (.c (.fn f_quietuslaw42_few)) [(.t 22)] 0, none⟩,
  ⟨some 24, .not (.t 23), none⟩,
  ⟨some 25, .mv false (.t 24), none⟩,
  ⟨some 26, .mv false (.t 6), some (25, false)⟩,
  ⟨some 27, .bin .neq (.t 26) (.c (.int .i64 0)), some (25, false)⟩,
  ⟨some 28, .pick (.t 25) (.c (.bool true)) (.t 27), none⟩]
abbrev quietuslaw42_CacheIsFresh_r3 : List AI := [
  ⟨some 29, .call (.c (.fn f_quietuslaw42_sanity)) [] 0, none⟩,
  ⟨some 4, .mv true (.t 29), none⟩]
abbrev quietuslaw42_CacheIsFresh_r4 : List AI := [
  ⟨some 7, .mv true (.c .nilS), none⟩]
abbrev quietuslaw42_CacheIsFresh_r5 : List AI := [
  ⟨some 8, .mv true (.c (.int .i64 0)), none⟩]
abbrev quietuslaw42_CacheIsFresh_r6 : List AI := [
  ⟨some 30, .mv false (.t 8), none⟩,
  ⟨some 31, .mv false (.t 1), none⟩,
  ⟨some 32, .len false (.t 31), none⟩,
  ⟨some 33, .bin .lss (.t 30) (.t 32), none⟩]
abbrev quietuslaw42_CacheIsFresh_r7 : List AI := [
  ⟨some 36, .mv false (.t 1), none⟩,
  ⟨some 37, .mv false (.t 8), none⟩,
  ⟨some 38, .iaddr 9 (.t 36) (.t 37), none⟩,
  ⟨some 39, .load true 9 (.t 38) .any, none⟩,
  ⟨some 9, .alloc [(.int .u8 0), (.int .i64 0), (.int .i64 0), (.int .i64 0), (.int .i64 0), (.str []), (.int .i64 0), (.int .i64 0), (.int .i64 0)], none⟩,
  ⟨none, .store 9 (.t 9) (.t 39) .any, none⟩]
abbrev quietuslaw42_CacheIsFresh_r8 : List AI := [
  ⟨some 40, .faddr 2 (.t 5), none⟩,
  ⟨some 41, .load false 1 (.t 40) .any, none⟩,
  ⟨some 42, .faddr 2 (.t 9), none⟩,
  ⟨some 43, .faddr 0 (.t 42), none⟩,
  ⟨some 44, .load false 1 (.t 43) .any, none⟩,
  ⟨some 45, .faddr 2 (.t 9), none⟩,
  ⟨some 46, .faddr 1 (.t 45), none⟩,
  ⟨some 47, .load false 1 (.t 46) .any, none⟩,
  ⟨some 48, .call (.c (.fn f_quietusref42_Find)) [(.t 41), (.t 44), (.t 47)] 0, none⟩,
  ⟨some 10, .mv true (.t 48), none⟩]
abbrev quietuslaw42_CacheIsFresh_r9 : List AI := [
  ⟨some 49, .mv false (.t 10), none⟩,
  ⟨some 50, .bin .geq (.t 49) (.c (.int .i64 0)), none⟩,
  ⟨some 51, .mv false (.t 50), none⟩,
  ⟨some 52, .faddr 2 (.t 5), some (51, true)⟩,
  ⟨some 53, .load false 1 (.t 52) (.site 5), some (51, true)⟩,
  ⟨some 54, .mv false (.t 10), some (51, true)⟩,
  ⟨some 55, .iaddr 7 (.t 53) (.t 54), some (51, true)⟩,
  ⟨some 56, .faddr 2 (.t 55), some (51, true)⟩,
  ⟨some 57, .load false 1 (.t 56) .foreign, some (51, true)⟩,
  ⟨some 58, .faddr 2 (.t 9), some (51, true)⟩,
  ⟨some 59, .faddr 2 (.t 58), some (51, true)⟩,
  ⟨some 60, .load false 1 (.t 59) (.site 9), some (51, true)⟩,
  ⟨some 61, .bin .gtr (.t 57) (.t 60), some (51, true)⟩,
  ⟨some 62, .pick (.t 51) (.t 61) (.c (.bool false)), none⟩,
  ⟨some 63, .mv false (.t 62), none⟩,
  ⟨some 64, .faddr 0 (.t 9), some (63, true)⟩,
  ⟨some 65, .load false 1 (.t 64) (.site 9), some (63, true)⟩,
  ⟨some 66, .bin .rem (.t 65) (.c (.int .u8 4)), some (63, true)⟩,
  ⟨some 67, .bin .eql (.t 66) (.c (.int .u8 1)), some (63, true)⟩,
  ⟨some 68, .pick (.t 63) (.t 67) (.c (.bool false)), none⟩]
abbrev quietuslaw42_CacheIsFresh_r10 : List AI := [
  ⟨some 70, .load true 3 (.t 5) .any, none⟩,
  ⟨some 71, .faddr 2 (.t 9), none⟩,
  ⟨some 72, .load true 7 (.t 71) .any, none⟩,
  ⟨some 73, .call (.c (.fn f_cache_Put)) [(.t 70), (.t 72)] 0, none⟩,
  ⟨some 69, .mv false (.t 73), none⟩,
  ⟨some 74, .ext (.t 69) 0, none⟩,
  ⟨some 75, .ext (.t 69) 1, none⟩,
  ⟨some 76, .ext (.t 69) 2, none⟩,
  ⟨some 11, .alloc [(.int .i64 0), (.int .i64 0), .nilS], none⟩,
  ⟨none, .store 3 (.t 11) (.t 74) .any, none⟩,
  ⟨some 12, .mv true (.t 75), none⟩,
  ⟨some 13, .mv true (.t 76), none⟩]
abbrev quietuslaw42_CacheIsFresh_r11 : List AI := [
  ⟨some 77, .mv false (.t 13), none⟩,
  ⟨some 78, .bin .eql (.t 77) (.c (.int .i64 0)), none⟩]
abbrev quietuslaw42_CacheIsFresh_r12 : List AI := [
  ⟨some 4, .mv true (.c (.bool false)), none⟩]
abbrev quietuslaw42_CacheIsFresh_b0 : ACode := .seq (.reg false quietuslaw42_CacheIsFresh_r10) (.seq (.reg false quietuslaw42_CacheIsFresh_r11) (.cond (.t 78) (.seq (.reg false quietuslaw42_CacheIsFresh_r12) (.ret)) (.skip)))
abbrev quietuslaw42_CacheIsFresh_r13 : List AI := [
  ⟨some 79, .load true 3 (.t 5) .any, none⟩,
  ⟨some 80, .load true 9 (.t 9) .any, none⟩,
  ⟨some 81, .call (.c (.fn f_quietuslaw42_do)) [(.t 79), (.t 80)] 0, none⟩,
  ⟨some 14, .alloc [(.int .i64 0), (.int .i64 0), .nilS, .nilS, (.str []), (.int .i64 0), (.int .i64 0)], none⟩,
  ⟨none, .store 7 (.t 14) (.t 81) .any, none⟩]
abbrev quietuslaw42_CacheIsFresh_r14 : List AI := [
  ⟨some 82, .faddr 0 (.t 14), none⟩,
  ⟨some 83, .load true 3 (.t 82) .any, none⟩,
  ⟨none, .store 3 (.t 5) (.t 83) .any, none⟩]
abbrev quietuslaw42_CacheIsFresh_r15 : List AI := [
  ⟨some 84, .faddr 6 (.t 14), none⟩,
  ⟨some 85, .load false 1 (.t 84) .any, none⟩,
  ⟨some 86, .bin .neq (.t 85) (.c (.int .i64 0)), none⟩]
abbrev quietuslaw42_CacheIsFresh_r16 : List AI := [
  ⟨some 87, .faddr 0 (.t 9), none⟩,
  ⟨some 88, .load false 1 (.t 87) .any, none⟩,
  ⟨some 89, .bin .rem (.t 88) (.c (.int .u8 4)), none⟩,
  ⟨some 90, .bin .eql (.t 89) (.c (.int .u8 1)), none⟩]
abbrev quietuslaw42_CacheIsFresh_r17 : List AI := [
  ⟨some 91, .mv true (.t 7), none⟩,
  ⟨some 92, .faddr 2 (.t 9), none⟩,
  ⟨some 93, .load true 7 (.t 92) .any, none⟩,
  ⟨some 94, .mkslice 7 1 (.agg [(.int .i64 0), (.int .i64 0), (.int .i64 0), (.str []), (.int .i64 0), (.int .i64 0), (.int .i64 0)]) [(0, (.t 93))], none⟩,
  ⟨some 95, .append 7 64 (.t 91) (.t 94), none⟩,
  ⟨some 7, .mv true (.t 95), none⟩]
abbrev quietuslaw42_CacheIsFresh_r18 : List AI := [
  ⟨some 96, .faddr 0 (.t 9), none⟩,
  ⟨some 97, .load false 1 (.t 96) .any, none⟩,
  ⟨some 98, .bin .rem (.t 97) (.c (.int .u8 4)), none⟩,
  ⟨some 99, .bin .eql (.t 98) (.c (.int .u8 2)), none⟩]
abbrev quietuslaw42_CacheIsFresh_r19 : List AI := [
  ⟨some 15, .mv true (.c (.int .i64 (-1))), none⟩]
abbrev quietuslaw42_CacheIsFresh_r20 : List AI := [
  ⟨some 16, .mv true (.c (.int .i64 0)), none⟩]
abbrev quietuslaw42_CacheIsFresh_r21 : List AI := [
  ⟨some 100, .mv false (.t 16), none⟩,
  ⟨some 101, .mv false (.t 7), none⟩,
  ⟨some 102, .len false (.t 101), none⟩,
  ⟨some 103, .bin .lss (.t 100) (.t 102), none⟩]
abbrev quietuslaw42_CacheIsFresh_r22 : List AI := [
  ⟨some 106, .mv false (.t 7), none⟩,
  ⟨some 107, .mv false (.t 16), none⟩,
  ⟨some 108, .iaddr 7 (.t 106) (.t 107), none⟩,
  ⟨some 109, .faddr 0 (.t 108), none⟩,
  ⟨some 110, .load false 1 (.t 109) .foreign, none⟩,
  ⟨some 111, .faddr 2 (.t 9), none⟩,
  ⟨some 112, .faddr 0 (.t 111), none⟩,
  ⟨some 113, .load false 1 (.t 112) (.site 9), none⟩,
  ⟨some 114, .bin .eql (.t 110) (.t 113), none⟩,
  ⟨some 115, .mv false (.t 114), none⟩,
  ⟨some 116, .mv false (.t 7), some (115, true)⟩,
  ⟨some 117, .mv false (.t 16), some (115, true)⟩,
  ⟨some 118, .iaddr 7 (.t 116) (.t 117), some (115, true)⟩,
  ⟨some 119, .faddr 1 (.t 118), some (115, true)⟩,
  ⟨some 120, .load false 1 (.t 119) .foreign, some (115, true)⟩,
  ⟨some 121, .faddr 2 (.t 9), some (115, true)⟩,
  ⟨some 122, .faddr 1 (.t 121), some (115, true)⟩,
  ⟨some 123, .load false 1 (.t 122) (.site 9), some (115, true)⟩,
  ⟨some 124, .bin .eql (.t 120) (.t 123), some (115, true)⟩,
  ⟨some 125, .pick (.t 115) (.t 124) (.c (.bool false)), none⟩]
abbrev quietuslaw42_CacheIsFresh_r23 : List AI := [
  ⟨some 126, .mv false (.t 16), none⟩,
  ⟨some 15, .mv true (.t 126), none⟩]
abbrev quietuslaw42_CacheIsFresh_r24 : List AI := [
  ⟨some 104, .mv false (.t 16), none⟩,
  ⟨some 105, .bin .add (.t 104) (.c (.int .i64 1)), none⟩,
  ⟨some 16, .mv true (.t 105), none⟩]
abbrev quietuslaw42_CacheIsFresh_l0 : ACode := .seq (.seq (.reg false quietuslaw42_CacheIsFresh_r21) (.cond (.t 103) (.skip) (.exit 2))) (.seq (.block 3 (.seq (.reg true quietuslaw42_CacheIsFresh_r22) (.cond (.t 125) (.reg false quietuslaw42_CacheIsFresh_r23) (.skip)))) (.reg false quietuslaw42_CacheIsFresh_r24))
abbrev quietuslaw42_CacheIsFresh_r25 : List AI := [
  ⟨some 127, .mv false (.t 15), none⟩,
  ⟨some 128, .bin .lss (.t 127) (.c (.int .i64 0)), none⟩,
  ⟨some 129, .mv false (.t 128), none⟩,
  ⟨some 130, .mv false (.t 7), some (129, false)⟩,
  ⟨some 131, .mv false (.t 15), some (129, false)⟩,
  ⟨some 132, .iaddr 7 (.t 130) (.t 131), some (129, false)⟩,
  ⟨some 133, .faddr 3 (.t 132), some (129, false)⟩,
  ⟨some 134, .load false 1 (.t 133) .foreign, some (129, false)⟩,
  ⟨some 135, .faddr 4 (.t 14), some (129, false)⟩,
  ⟨some 136, .load false 1 (.t 135) (.site 14), some (129, false)⟩,
  ⟨some 137, .bin .neq (.t 134) (.t 136), some (129, false)⟩,
  ⟨some 138, .pick (.t 129) (.c (.bool true)) (.t 137), none⟩,
  ⟨some 139, .mv false (.t 138), none⟩,
  ⟨some 140, .faddr 1 (.t 5), some (139, false)⟩,
  ⟨some 141, .load false 1 (.t 140) (.site 5), some (139, false)⟩,
  ⟨some 142, .mv false (.t 7), some (139, false)⟩,
  ⟨some 143, .mv false (.t 15), some (139, false)⟩,
  ⟨some 144, .iaddr 7 (.t 142) (.t 143), some (139, false)⟩,
  ⟨some 145, .faddr 4 (.t 144), some (139, false)⟩,
  ⟨some 146, .load false 1 (.t 145) .foreign, some (139, false)⟩,
  ⟨some 147, .bin .sub (.t 141) (.t 146), some (139, false)⟩,
  ⟨some 148, .faddr 1 (.t 9), some (139, false)⟩,
  ⟨some 149, .load false 1 (.t 148) (.site 9), some (139, false)⟩,
  ⟨some 150, .bin .gtr (.t 147) (.t 149), some (139, false)⟩,
  ⟨some 151, .pick (.t 139) (.c (.bool true)) (.t 150), none⟩,
  ⟨some 152, .mv false (.t 151), none⟩,
  ⟨some 153, .mv false (.t 7), some (152, false)⟩,
  ⟨some 154, .mv false (.t 15), some (152, false)⟩,
  ⟨some 155, .iaddr 7 (.t 153) (.t 154), some (152, false)⟩,
  ⟨some 156, .faddr 5 (.t 155), some (152, false)⟩,
  ⟨some 157, .load false 1 (.t 156) .foreign, some (152, false)⟩,
  ⟨some 158, .faddr 1 (.t 5), some (152, false)⟩,
  ⟨some 159, .load false 1 (.t 158) (.site 5), some (152, false)⟩,
  ⟨some 160, .bin .lss (.t 157) (.t 159), some (152, false)⟩,
  ⟨some 161, .pick (.t 152) (.c (.bool true)) (.t 160), none⟩]
abbrev quietuslaw42_CacheIsFresh_r26 : List AI := [
  ⟨some 4, .mv true (.c (.bool false)), none⟩]
abbrev quietuslaw42_CacheIsFresh_b1 : ACode := .seq (.reg false quietuslaw42_CacheIsFresh_r19) (.seq (.seq (.reg false quietuslaw42_CacheIsFresh_r20) (.block 2 (.loop quietuslaw42_CacheIsFresh_l0))) (.seq (.reg true quietuslaw42_CacheIsFresh_r25) (.cond (.t 161) (.seq (.reg false quietuslaw42_CacheIsFresh_r26) (.ret)) (.skip))))
abbrev quietuslaw42_CacheIsFresh_r27 : List AI := [
  ⟨some 34, .mv false (.t 8), none⟩,
  ⟨some 35, .bin .add (.t 34) (.c (.int .i64 1)), none⟩,
  ⟨some 8, .mv true (.t 35), none⟩]
abbrev quietuslaw42_CacheIsFresh_l1 : ACode := .seq (.seq (.reg false quietuslaw42_CacheIsFresh_r6) (.cond (.t 33) (.skip) (.exit 0))) (.seq (.block 1 (.seq (.reg false quietuslaw42_CacheIsFresh_r7) (.seq (.reg false quietuslaw42_CacheIsFresh_r8) (.seq (.seq (.reg true quietuslaw42_CacheIsFresh_r9) (.cond (.t 68) (quietuslaw42_CacheIsFresh_b0) (.skip))) (.seq (.reg false quietuslaw42_CacheIsFresh_r13) (.seq (.reg false quietuslaw42_CacheIsFresh_r14) (.seq (.seq (.reg false quietuslaw42_CacheIsFresh_r15) (.cond (.t 86) (.exit 1) (.skip))) (.seq (.seq (.reg false quietuslaw42_CacheIsFresh_r16) (.cond (.t 90) (.reg false quietuslaw42_CacheIsFresh_r17) (.skip))) (.seq (.reg false quietuslaw42_CacheIsFresh_r18) (.cond (.t 99) (quietuslaw42_CacheIsFresh_b1) (.skip))))))))))) (.reg false quietuslaw42_CacheIsFresh_r27))
abbrev quietuslaw42_CacheIsFresh_r28 : List AI := [
  ⟨some 162, .call (.c (.fn f_quietuslaw42_sanity)) [] 0, none⟩,
  ⟨some 4, .mv true (.t 162), none⟩]
abbrev quietuslaw42_CacheIsFresh_c : ACode := .seq (.reg false quietuslaw42_CacheIsFresh_r0) (.seq (.reg false quietuslaw42_CacheIsFresh_r1) (.seq (.seq (.reg false quietuslaw42_CacheIsFresh_r2) (.cond (.t 28) (.seq (.reg false quietuslaw42_CacheIsFresh_r3) (.ret)) (.skip))) (.seq (.reg false quietuslaw42_CacheIsFresh_r4) (.seq (.seq (.reg false quietuslaw42_CacheIsFresh_r5) (.block 0 (.loop quietuslaw42_CacheIsFresh_l1))) (.seq (.reg false quietuslaw42_CacheIsFresh_r28) (.ret))))))
def quietuslaw42_CacheIsFresh_F : AFunc := ⟨163, [.tmp 4], quietuslaw42_CacheIsFresh_c⟩

theorem quietuslaw42_CacheIsFresh_cp : compile Try.prog [] f_quietuslaw42_CacheIsFresh = some quietuslaw42_CacheIsFresh_F := by kernel_rfl

abbrev quietuslaw42_CacheKeeps_r0 : List AI := [
  ⟨some 4, .mv true (.c (.bool false)), none⟩]
abbrev quietuslaw42_CacheKeeps_r1 : List AI := [
  ⟨some 17, .mv false (.t 0), none⟩,
  ⟨some 18, .call (.c (.fn f_cache_New)) [(.t 17)] 0, none⟩,
  ⟨some 16, .mv false (.t 18), none⟩,
  ⟨some 19, .ext (.t 16) 0, none⟩,
  ⟨some 20, .ext (.t 16) 1, none⟩,
  ⟨some 5, .alloc [(.int .i64 0), (.int .i64 0), .nilS], none⟩,
  ⟨none, .store 3 (.t 5) (.t 19) .any, none⟩,
  ⟨some 6, .mv true (.t 20), none⟩]
abbrev quietuslaw42_CacheKeeps_r2 : List AI := [
  ⟨some 21, .mv false (.t 1), none⟩,
  ⟨some 22, .call (.c (.fn f_quietuslaw42_few)) [(.t 21)] 0, none⟩,
  ⟨some 23, .not (.t 22), none⟩,
  ⟨some 24, .mv false (.t 23), none⟩,
  ⟨some 25, .mv false (.t 6), some (24, false)⟩,
  ⟨some 26, .bin .neq (.t 25) (.c (.int .i64 0)), some (24, false)⟩,
  ⟨some 27, .pick (.t 24) (.c (.bool true)) (.t 26), none⟩]
abbrev quietuslaw42_CacheKeeps_r3 : List AI := [
  ⟨some 28, .call (.c (.fn f_quietuslaw42_sanity)) [] 0, none⟩,
  ⟨some 4, .mv true (.t 28), none⟩]
abbrev quietuslaw42_CacheKeeps_r4 : List AI := [
  ⟨some 7, .mv true (.c (.int .i64 0)), none⟩]
abbrev quietuslaw42_CacheKeeps_r5 : List AI := [
  ⟨some 29, .mv false (.t 7), none⟩,
  ⟨some 30, .mv false (.t 1), none⟩,
  ⟨some 31, .len false (.t 30), none⟩,
  ⟨some 32, .bin .lss (.t 29) (.t 31), none⟩]
abbrev quietuslaw42_CacheKeeps_r6 : List AI := [
  ⟨some 35, .mv false (.t 1), none⟩,
  ⟨some 36, .mv false (.t 7), none⟩,
  ⟨some 37, .iaddr 9 (.t 35) (.t 36), none⟩,
  ⟨some 38, .load true 9 (.t 37) .any, none⟩,
  ⟨some 8, .alloc [(.int .u8 0), (.int .i64 0), (.int .i64 0), (.int .i64 0), (.int .i64 0), (.str []), (.int .i64 0), (.int .i64 0), (.int .i64 0)], none⟩,
  ⟨none, .store 9 (.t 8) (.t 38) .any, none⟩]
abbrev quietuslaw42_CacheKeeps_r7 : List AI := [
  ⟨some 39, .load true 3 (.t 5) .any, none⟩,
  ⟨some 40, .load true 9 (.t 8) .any, none⟩,
  ⟨some 41, .call (.c (.fn f_quietuslaw42_do)) [(.t 39), (.t 40)] 0, none⟩,
  ⟨some 9, .alloc [(.int .i64 0), (.int .i64 0), .nilS, .nilS, (.str []), (.int .i64 0), (.int .i64 0)], none⟩,
  ⟨none, .store 7 (.t 9) (.t 41) .any, none⟩]
abbrev quietuslaw42_CacheKeeps_r8 : List AI := [
  ⟨some 10, .mv true (.c (.int .i64 0)), none⟩]
abbrev quietuslaw42_CacheKeeps_r9 : List AI := [
  ⟨some 42, .mv false (.t 10), none⟩,
  ⟨some 43, .faddr 2 (.t 5), none⟩,
  ⟨some 44, .load false 1 (.t 43) .any, none⟩,
  ⟨some 45, .len false (.t 44), none⟩,
  ⟨some 46, .bin .lss (.t 42) (.t 45), none⟩]
abbrev quietuslaw42_CacheKeeps_r10 : List AI := [
  ⟨some 49, .faddr 2 (.t 5), none⟩,
  ⟨some 50, .load false 1 (.t 49) .any, none⟩,
  ⟨some 51, .mv false (.t 10), none⟩,
  ⟨some 52, .iaddr 7 (.t 50) (.t 51), none⟩,
  ⟨some 53, .load true 7 (.t 52) .any, none⟩,
  ⟨some 11, .alloc [(.int .i64 0), (.int .i64 0), (.int .i64 0), (.str []), (.int .i64 0), (.int .i64 0), (.int .i64 0)], none⟩,
  ⟨none, .store 7 (.t 11) (.t 53) .any, none⟩]
abbrev quietuslaw42_CacheKeeps_r11 : List AI := [
  ⟨some 54, .faddr 0 (.t 11), none⟩,
  ⟨some 55, .load false 1 (.t 54) .any, none⟩,
  ⟨some 56, .faddr 2 (.t 8), none⟩,
  ⟨some 57, .faddr 0 (.t 56), none⟩,
  ⟨some 58, .load false 1 (.t 57) .any, none⟩,
  ⟨some 59, .bin .eql (.t 55) (.t 58), none⟩,
  ⟨some 60, .mv false (.t 59), none⟩,
  ⟨some 61, .faddr 1 (.t 11), some (60, true)⟩,
  ⟨some 62, .load false 1 (.t 61) .any, some (60, true)⟩,
  ⟨some 63, .faddr 2 (.t 8), some (60, true)⟩,
  ⟨some 64, .faddr 1 (.t 63), some (60, true)⟩,
  ⟨some 65, .load false 1 (.t 64) .any, some (60, true)⟩,
  ⟨some 66, .bin .eql (.t 62) (.t 65), some (60, true)⟩,
  ⟨some 67, .pick (.t 60) (.t 66) (.c (.bool false)), none⟩,
  ⟨some 12, .mv true (.t 67), none⟩]
abbrev quietuslaw42_CacheKeeps_r12 : List AI := [
  ⟨some 68, .faddr 6 (.t 9), none⟩,
  ⟨some 69, .load false 1 (.t 68) .any, none⟩,
  ⟨some 70, .bin .eql (.t 69) (.c (.int .i64 0)), none⟩,
  ⟨some 71, .mv false (.t 70), none⟩,
  ⟨some 72, .faddr 0 (.t 8), some (71, true)⟩,
  ⟨some 73, .load false 1 (.t 72) .any, some (71, true)⟩,
  ⟨some 74, .bin .rem (.t 73) (.c (.int .u8 4)), some (71, true)⟩,
  ⟨some 75, .bin .eql (.t 74) (.c (.int .u8 0)), some (71, true)⟩,
  ⟨some 76, .mv false (.t 75), some (71, true)⟩,
  ⟨some 77, .faddr 5 (.t 11), some (76, true)⟩,
  ⟨some 78, .load false 1 (.t 77) .any, some (76, true)⟩,
  ⟨some 79, .faddr 1 (.t 8), some (76, true)⟩,
  ⟨some 80, .load false 1 (.t 79) .any, some (76, true)⟩,
  ⟨some 81, .bin .lss (.t 78) (.t 80), some (76, true)⟩,
  ⟨some 82, .pick (.t 76) (.t 81) (.c (.bool false)), some (71, true)⟩,
  ⟨some 83, .mv false (.t 82), some (71, true)⟩,
  ⟨some 84, .faddr 0 (.t 8), some (83, false)⟩,
  ⟨some 85, .load false 1 (.t 84) .any, some (83, false)⟩,
  ⟨some 86, .bin .rem (.t 85) (.c (.int .u8 4)), some (83, false)⟩,
  ⟨some 87, .bin .eql (.t 86) (.c (.int .u8 3)), some (83, false)⟩,
  ⟨some 88, .mv false (.t 87), some (83, false)⟩,
  ⟨some 89, .faddr 0 (.t 11), some (88, true)⟩,
  ⟨some 90, .load false 1 (.t 89) .any, some (88, true)⟩,
  ⟨some 91, .faddr 2 (.t 8), some (88, true)⟩,
  ⟨some 92, .faddr 0 (.t 91), some (88, true)⟩,
  ⟨some 93, .load false 1 (.t 92) .any, some (88, true)⟩,
  ⟨some 94, .bin .eql (.t 90) (.t 93), some (88, true)⟩,
  ⟨some 95, .pick (.t 88) (.t 94) (.c (.bool false)), some (83, false)⟩,
  ⟨some 96, .pick (.t 83) (.c (.bool true)) (.t 95), some (71, true)⟩,
  ⟨some 97, .mv false (.t 96), some (71, true)⟩,
  ⟨some 98, .faddr 0 (.t 8), some (97, false)⟩,
  ⟨some 99, .load false 1 (.t 98) .any, some (97, false)⟩,
  ⟨some 100, .bin .rem (.t 99) (.c (.int .u8 4)), some (97, false)⟩,
  ⟨some 101, .bin .eql (.t 100) (.c (.int .u8 1)), some (97, false)⟩,
  ⟨some 102, .mv false (.t 101), some (97, false)⟩,
  ⟨some 103, .mv false (.t 12), some (102, true)⟩,
  ⟨some 104, .pick (.t 102) (.t 103) (.c (.bool false)), some (97, false)⟩,
  ⟨some 105, .pick (.t 97) (.c (.bool true)) (.t 104), some (71, true)⟩,
  ⟨some 106, .pick (.t 71) (.t 105) (.c (.bool false)), none⟩]
abbrev quietuslaw42_CacheKeeps_r13 : List AI := [
  ⟨some 107, .faddr 3 (.t 9), none⟩,
  ⟨some 108, .load false 1 (.t 107) .any, none⟩,
  ⟨some 109, .faddr 0 (.t 11), none⟩,
  ⟨some 110, .load false 1 (.t 109) .any, none⟩,
  ⟨some 111, .faddr 1 (.t 11), none⟩,
  ⟨some 112, .load false 1 (.t 111) .any, none⟩,
  ⟨some 113, .call (.c (.fn f_quietusref42_Find)) [(.t 108), (.t 110), (.t 112)] 0, none⟩,
  ⟨some 114, .bin .geq (.t 113) (.c (.int .i64 0)), none⟩]
abbrev quietuslaw42_CacheKeeps_r14 : List AI := [
  ⟨some 115, .faddr 0 (.t 9), none⟩,
  ⟨some 116, .faddr 2 (.t 115), none⟩,
  ⟨some 117, .load false 1 (.t 116) .any, none⟩,
  ⟨some 118, .faddr 0 (.t 11), none⟩,
  ⟨some 119, .load false 1 (.t 118) .any, none⟩,
  ⟨some 120, .faddr 1 (.t 11), none⟩,
  ⟨some 121, .load false 1 (.t 120) .any, none⟩,
  ⟨some 122, .call (.c (.fn f_quietusref42_Find)) [(.t 117), (.t 119), (.t 121)] 0, none⟩,
  ⟨some 13, .mv true (.t 122), none⟩]
abbrev quietuslaw42_CacheKeeps_r15 : List AI := [
  ⟨some 123, .mv false (.t 13), none⟩,
  ⟨some 124, .bin .lss (.t 123) (.c (.int .i64 0)), none⟩]
abbrev quietuslaw42_CacheKeeps_r16 : List AI := [
  ⟨some 4, .mv true (.c (.bool false)), none⟩]
abbrev quietuslaw42_CacheKeeps_r17 : List AI := [
  ⟨some 125, .faddr 0 (.t 9), none⟩,
  ⟨some 126, .faddr 2 (.t 125), none⟩,
  ⟨some 127, .load false 1 (.t 126) .any, none⟩,
  ⟨some 128, .mv false (.t 13), none⟩,
  ⟨some 129, .iaddr 7 (.t 127) (.t 128), none⟩,
  ⟨some 130, .load true 7 (.t 129) .any, none⟩,
  ⟨some 14, .alloc [(.int .i64 0), (.int .i64 0), (.int .i64 0), (.str []), (.int .i64 0), (.int .i64 0), (.int .i64 0)], none⟩,
  ⟨none, .store 7 (.t 14) (.t 130) .any, none⟩]
abbrev quietuslaw42_CacheKeeps_r18 : List AI := [
  ⟨some 131, .faddr 6 (.t 11), none⟩,
  ⟨some 132, .load false 1 (.t 131) .any, none⟩,
  ⟨some 133, .faddr 6 (.t 14), none⟩,
  ⟨none, .store 1 (.t 133) (.t 132) .any, none⟩]
abbrev quietuslaw42_CacheKeeps_r19 : List AI := [
  ⟨some 134, .load true 7 (.t 14) .any, none⟩,
  ⟨some 135, .load true 7 (.t 11) .any, none⟩,
  ⟨some 136, .eqs true [.i, .i, .i, .s, .i, .i, .i] (.t 134) (.t 135), none⟩]
abbrev quietuslaw42_CacheKeeps_r20 : List AI := [
  ⟨some 4, .mv true (.c (.bool false)), none⟩]
abbrev quietuslaw42_CacheKeeps_r21 : List AI := [
  ⟨some 15, .mv true (.c (.int .i64 0)), none⟩]
abbrev quietuslaw42_CacheKeeps_r22 : List AI := [
  ⟨some 137, .mv false (.t 15), none⟩,
  ⟨some 138, .faddr 3 (.t 9), none⟩,
  ⟨some 139, .load false 1 (.t 138) .any, none⟩,
  ⟨some 140, .len false (.t 139), none⟩,
  ⟨some 141, .bin .lss (.t 137) (.t 140), none⟩]
abbrev quietuslaw42_CacheKeeps_r23 : List AI := [
  ⟨some 144, .faddr 3 (.t 9), none⟩,
  ⟨some 145, .load false 1 (.t 144) (.site 9), none⟩,
  ⟨some 146, .mv false (.t 15), none⟩,
  ⟨some 147, .iaddr 7 (.t 145) (.t 146), none⟩,
  ⟨some 148, .faddr 6 (.t 147), none⟩,
  ⟨some 149, .load false 1 (.t 148) .foreign, none⟩,
  ⟨some 150, .faddr 6 (.t 11), none⟩,
  ⟨some 151, .load false 1 (.t 150) (.site 11), none⟩,
  ⟨some 152, .bin .gtr (.t 149) (.t 151), none⟩]
abbrev quietuslaw42_CacheKeeps_r24 : List AI := [
  ⟨some 4, .mv true (.c (.bool false)), none⟩]
abbrev quietuslaw42_CacheKeeps_r25 : List AI := [
  ⟨some 142, .mv false (.t 15), none⟩,
  ⟨some 143, .bin .add (.t 142) (.c (.int .i64 1)), none⟩,
  ⟨some 15, .mv true (.t 143), none⟩]
abbrev quietuslaw42_CacheKeeps_l0 : ACode := .seq (.seq (.reg false quietuslaw42_CacheKeeps_r22) (.cond (.t 141) (.skip) (.exit 4))) (.seq (.block 5 (.seq (.reg true quietuslaw42_CacheKeeps_r23) (.cond (.t 152) (.seq (.reg false quietuslaw42_CacheKeeps_r24) (.ret)) (.skip)))) (.reg false quietuslaw42_CacheKeeps_r25))
abbrev quietuslaw42_CacheKeeps_r26 : List AI := [
  ⟨some 47, .mv false (.t 10), none⟩,
  ⟨some 48, .bin .add (.t 47) (.c (.int .i64 1)), none⟩,
  ⟨some 10, .mv true (.t 48), none⟩]
abbrev quietuslaw42_CacheKeeps_l1 : ACode := .seq (.seq (.reg false quietuslaw42_CacheKeeps_r9) (.cond (.t 46) (.skip) (.exit 2))) (.seq (.block 3 (.seq (.reg false quietuslaw42_CacheKeeps_r10) (.seq (.reg false quietuslaw42_CacheKeeps_r11) (.seq (.seq (.reg false quietuslaw42_CacheKeeps_r12) (.cond (.t 106) (.exit 3) (.skip))) (.seq (.seq (.reg false quietuslaw42_CacheKeeps_r13) (.cond (.t 114) (.exit 3) (.skip))) (.seq (.reg false quietuslaw42_CacheKeeps_r14) (.seq (.seq (.reg false quietuslaw42_CacheKeeps_r15) (.cond (.t 124) (.seq (.reg false quietuslaw42_CacheKeeps_r16) (.ret)) (.skip))) (.seq (.reg false quietuslaw42_CacheKeeps_r17) (.seq (.reg false quietuslaw42_CacheKeeps_r18) (.seq (.seq (.reg false quietuslaw42_CacheKeeps_r19) (.cond (.t 136) (.seq (.reg false quietuslaw42_CacheKeeps_r20) (.ret)) (.skip))) (.seq (.reg false quietuslaw42_CacheKeeps_r21) (.block 4 (.loop quietuslaw42_CacheKeeps_l0))))))))))))) (.reg false quietuslaw42_CacheKeeps_r26))
abbrev quietuslaw42_CacheKeeps_r27 : List AI := [
  ⟨some 153, .faddr 0 (.t 9), none⟩,
  ⟨some 154, .load true 3 (.t 153) .any, none⟩,
  ⟨none, .store 3 (.t 5) (.t 154) .any, none⟩]
abbrev quietuslaw42_CacheKeeps_r28 : List AI := [
  ⟨some 33, .mv false (.t 7), none⟩,
  ⟨some 34, .bin .add (.t 33) (.c (.int .i64 1)), none⟩,
  ⟨some 7, .mv true (.t 34), none⟩]
abbrev quietuslaw42_CacheKeeps_l2 : ACode := .seq (.seq (.reg false quietuslaw42_CacheKeeps_r5) (.cond (.t 32) (.skip) (.exit 0))) (.seq (.block 1 (.seq (.reg false quietuslaw42_CacheKeeps_r6) (.seq (.reg false quietuslaw42_CacheKeeps_r7) (.seq (.seq (.reg false quietuslaw42_CacheKeeps_r8) (.block 2 (.loop quietuslaw42_CacheKeeps_l1))) (.reg false quietuslaw42_CacheKeeps_r27))))) (.reg false quietuslaw42_CacheKeeps_r28))
abbrev quietuslaw42_CacheKeeps_r29 : List AI := [
  ⟨some 155, .call (.c (.fn f_quietuslaw42_sanity)) [] 0, none⟩,
  ⟨some 4, .mv true (.t 155), none⟩]
abbrev quietuslaw42_CacheKeeps_c : ACode := .seq (.reg false quietuslaw42_CacheKeeps_r0) (.seq (.reg false quietuslaw42_CacheKeeps_r1) (.seq (.seq (.reg false quietuslaw42_CacheKeeps_r2) (.cond (.t 27) (.seq (.reg false quietuslaw42_CacheKeeps_r3) (.ret)) (.skip))) (.seq (.seq (.reg false quietuslaw42_CacheKeeps_r4) (.block 0 (.loop quietuslaw42_CacheKeeps_l2))) (.seq (.reg false quietuslaw42_CacheKeeps_r29) (.ret)))))
def quietuslaw42_CacheKeeps_F : AFunc := ⟨156, [.tmp 4], quietuslaw42_CacheKeeps_c⟩

theorem quietuslaw42_CacheKeeps_cp : compile Try.prog [] f_quietuslaw42_CacheKeeps = some quietuslaw42_CacheKeeps_F := by kernel_rfl

abbrev quietuslaw42_short_r0 : List AI := [
  ⟨some 4, .mv true (.c (.bool false)), none⟩]
abbrev quietuslaw42_short_r1 : List AI := [
  ⟨some 6, .mv false (.t 0), none⟩,
  ⟨some 7, .len false (.t 6), none⟩,
  ⟨some 8, .mv false (.t 1), none⟩,
  ⟨some 9, .bin .gtr (.t 7) (.t 8), none⟩]
abbrev quietuslaw42_short_r2 : List AI := [
  ⟨some 4, .mv true (.c (.bool false)), none⟩]
abbrev quietuslaw42_short_r3 : List AI := [
  ⟨some 5, .mv true (.c (.int .i64 0)), none⟩]
abbrev quietuslaw42_short_r4 : List AI := [
  ⟨some 10, .mv false (.t 5), none⟩,
  ⟨some 11, .mv false (.t 0), none⟩,
  ⟨some 12, .len false (.t 11), none⟩,
  ⟨some 13, .bin .lss (.t 10) (.t 12), none⟩]
abbrev quietuslaw42_short_r5 : List AI := [
  ⟨some 16, .mv false (.t 0), none⟩,
  ⟨some 17, .mv false (.t 5), none⟩,
  ⟨some 18, .iaddr 7 (.t 16) (.t 17), none⟩,
  ⟨some 19, .faddr 3 (.t 18), none⟩,
  ⟨some 20, .load false 1 (.t 19) .any, none⟩,
  ⟨some 21, .len true (.t 20), none⟩,
  ⟨some 22, .bin .gtr (.t 21) (.c (.int .i64 60)), none⟩]
abbrev quietuslaw42_short_r6 : List AI := [
  ⟨some 4, .mv true (.c (.bool false)), none⟩]
abbrev quietuslaw42_short_r7 : List AI := [
  ⟨some 14, .mv false (.t 5), none⟩,
  ⟨some 15, .bin .add (.t 14) (.c (.int .i64 1)), none⟩,
  ⟨some 5, .mv true (.t 15), none⟩]
abbrev quietuslaw42_short_l0 : ACode := .seq (.seq (.reg false quietuslaw42_short_r4) (.cond (.t 13) (.skip) (.exit 0))) (.seq (.block 1 (.seq (.reg false quietuslaw42_short_r5) (.cond (.t 22) (.seq (.reg false quietuslaw42_short_r6) (.ret)) (.skip)))) (.reg false quietuslaw42_short_r7))
abbrev quietuslaw42_short_r8 : List AI := [
  ⟨some 4, .mv true (.c (.bool true)), none⟩]
abbrev quietuslaw42_short_c : ACode := .seq (.reg false quietuslaw42_short_r0) (.seq (.seq (.reg false quietuslaw42_short_r1) (.cond (.t 9) (.seq (.reg false quietuslaw42_short_r2) (.ret)) (.skip))) (.seq (.seq (.reg false quietuslaw42_short_r3) (.block 0 (.loop quietuslaw42_short_l0))) (.seq (.reg false quietuslaw42_short_r8) (.ret))))
def quietuslaw42_short_F : AFunc := ⟨23, [.tmp 4], quietuslaw42_short_c⟩

theorem quietuslaw42_short_cp : compile Try.prog [] f_quietuslaw42_short = some quietuslaw42_short_F := by kernel_rfl

abbrev quietuslaw42_sanity_r0 : List AI := [
  ⟨some 0, .mv true (.c (.bool false)), none⟩]
abbrev quietuslaw42_sanity_r1 : List AI := [
  ⟨some 38, .call (.c (.fn f_cache_New)) [(.c (.int .i64 10))] 0, none⟩,
  ⟨some 37, .mv false (.t 38), none⟩,
  ⟨some 39, .ext (.t 37) 0, none⟩,
  ⟨some 40, .ext (.t 37) 1, none⟩,
  ⟨some 1, .alloc [(.int .i64 0), (.int .i64 0), .nilS], none⟩,
  ⟨none, .store 3 (.t 1) (.t 39) .any, none⟩,
  ⟨some 2, .mv true (.t 40), none⟩]
abbrev quietuslaw42_sanity_r2 : List AI := [
  ⟨some 42, .load true 3 (.t 1) (.site 1), none⟩,
  ⟨some 43, .call (.c (.fn f_quietuslaw42_item)) [(.c (.int .i64 1)), (.c (.int .i64 0)), (.c (.str [97, 98, 99, 100])), (.c (.int .i64 0)), (.c (.int .i64 9))] 2, none⟩,
  ⟨some 44, .call (.c (.fn f_cache_Put)) [(.t 42), (.t 43)] 2, none⟩,
  ⟨some 41, .mv false (.t 44), none⟩,
  ⟨some 45, .ext (.t 41) 0, none⟩,
  ⟨some 46, .ext (.t 41) 1, none⟩,
  ⟨some 47, .ext (.t 41) 2, none⟩,
  ⟨none, .store 3 (.t 1) (.t 45) (.site 1), none⟩,
  ⟨some 3, .mv true (.t 46), none⟩,
  ⟨some 4, .mv true (.t 47), none⟩]
abbrev quietuslaw42_sanity_r3 : List AI := [
  ⟨some 49, .load true 3 (.t 1) (.site 1), none⟩,
  ⟨some 50, .call (.c (.fn f_quietuslaw42_item)) [(.c (.int .i64 1)), (.c (.int .i64 1)), (.c (.str [101, 102, 103, 104])), (.c (.int .i64 0)), (.c (.int .i64 5))] 2, none⟩,
  ⟨some 51, .call (.c (.fn f_cache_Put)) [(.t 49), (.t 50)] 2, none⟩,
  ⟨some 48, .mv false (.t 51), none⟩,
  ⟨some 52, .ext (.t 48) 0, none⟩,
  ⟨some 53, .ext (.t 48) 1, none⟩,
  ⟨some 54, .ext (.t 48) 2, none⟩,
  ⟨none, .store 3 (.t 1) (.t 52) (.site 1), none⟩,
  ⟨some 5, .mv true (.t 53), none⟩,
  ⟨some 6, .mv true (.t 54), none⟩]
abbrev quietuslaw42_sanity_r4 : List AI := [
  ⟨some 56, .load true 3 (.t 1) .any, none⟩,
  ⟨some 57, .call (.c (.fn f_cache_Tick)) [(.t 56), (.c (.int .i64 2))] 0, none⟩,
  ⟨some 55, .mv false (.t 57), none⟩,
  ⟨some 58, .ext (.t 55) 0, none⟩,
  ⟨some 59, .ext (.t 55) 1, none⟩,
  ⟨none, .store 3 (.t 1) (.t 58) .any, none⟩,
  ⟨some 7, .mv true (.t 59), none⟩]
abbrev quietuslaw42_sanity_r5 : List AI := [
  ⟨some 61, .load true 3 (.t 1) .any, none⟩,
  ⟨some 62, .call (.c (.fn f_cache_Get)) [(.t 61), (.c (.int .i64 1)), (.c (.int .i64 0)), (.c (.int .i64 3))] 0, none⟩,
  ⟨some 60, .mv false (.t 62), none⟩,
  ⟨some 63, .ext (.t 60) 0, none⟩,
  ⟨some 64, .ext (.t 60) 1, none⟩,
  ⟨some 65, .ext (.t 60) 2, none⟩,
  ⟨some 8, .mv true (.t 63), none⟩,
  ⟨none, .store 3 (.t 1) (.t 64) .any, none⟩,
  ⟨some 9, .mv true (.t 65), none⟩]
abbrev quietuslaw42_sanity_r6 : List AI := [
  ⟨some 67, .load true 3 (.t 1) (.site 1), none⟩,
  ⟨some 68, .call (.c (.fn f_quietuslaw42_item)) [(.c (.int .i64 2)), (.c (.int .i64 0)), (.c (.str [105, 106, 107, 108])), (.c (.int .i64 2)), (.c (.int .i64 9))] 2, none⟩,
  ⟨some 69, .call (.c (.fn f_cache_Put)) [(.t 67), (.t 68)] 2, none⟩,
  ⟨some 66, .mv false (.t 69), none⟩,
  ⟨some 70, .ext (.t 66) 0, none⟩,
  ⟨some 71, .ext (.t 66) 1, none⟩,
  ⟨some 72, .ext (.t 66) 2, none⟩,
  ⟨none, .store 3 (.t 1) (.t 70) (.site 1), none⟩,
  ⟨some 10, .mv true (.t 71), none⟩,
  ⟨some 11, .mv true (.t 72), none⟩]
abbrev quietuslaw42_sanity_r7 : List AI := [
  ⟨some 73, .mv false (.t 2), none⟩,
  ⟨some 74, .bin .neq (.t 73) (.c (.int .i64 0)), none⟩,
  ⟨some 75, .mv false (.t 74), none⟩,
  ⟨some 76, .mv false (.t 4), some (75, false)⟩,
  ⟨some 77, .bin .neq (.t 76) (.c (.int .i64 0)), some (75, false)⟩,
  ⟨some 78, .pick (.t 75) (.c (.bool true)) (.t 77), none⟩,
  ⟨some 79, .mv false (.t 78), none⟩,
  ⟨some 80, .mv false (.t 6), some (79, false)⟩,
  ⟨some 81, .bin .neq (.t 80) (.c (.int .i64 0)), some (79, false)⟩,
  ⟨some 82, .pick (.t 79) (.c (.bool true)) (.t 81), none⟩,
  ⟨some 83, .mv false (.t 82), none⟩,
  ⟨some 84, .mv false (.t 7), some (83, false)⟩,
  ⟨some 85, .bin .neq (.t 84) (.c (.int .i64 0)), some (83, false)⟩,
  ⟨some 86, .pick (.t 83) (.c (.bool true)) (.t 85), none⟩,
  ⟨some 87, .mv false (.t 86), none⟩,
  ⟨some 88, .mv false (.t 9), some (87, false)⟩,
  ⟨some 89, .bin .neq (.t 88) (.c (.int .i64 0)), some (87, false)⟩,
  ⟨some 90, .pick (.t 87) (.c (.bool true)) (.t 89), none⟩,
  ⟨some 91, .mv false (.t 90), none⟩,
  ⟨some 92, .mv false (.t 11), some (91, false)⟩,
  ⟨some 93, .bin .neq (.t 92) (.c (.int .i64 0)), some (91, false)⟩,
  ⟨some 94, .pick (.t 91) (.c (.bool true)) (.t 93), none⟩,
  ⟨some 95, .mv false (.t 94), none⟩,
  ⟨some 96, .mv false (.t 5), some (95, false)⟩,
  ⟨some 97, .len false (.t 96), some (95, false)⟩,
  ⟨some 98, .bin .neq (.t 97) (.c (.int .i64 0)), some (95, false)⟩,
  ⟨some 99, .pick (.t 95) (.c (.bool true)) (.t 98), none⟩,
  ⟨some 100, .mv false (.t 99), none⟩,
  ⟨some 101, .mv false (.t 8), some (100, false)⟩,
  ⟨some 102, .bin .neq (.t 101) (.c (.str [97, 98, 99, 100])), some (100, false)⟩,
  ⟨some 103, .pick (.t 100) (.c (.bool true)) (.t 102), none⟩,
  ⟨some 104, .mv false (.t 103), none⟩,
  ⟨some 105, .mv false (.t 10), some (104, false)⟩,
  ⟨some 106, .len false (.t 105), some (104, false)⟩,
  ⟨some 107, .bin .neq (.t 106) (.c (.int .i64 1)), some (104, false)⟩,
  ⟨some 108, .pick (.t 104) (.c (.bool true)) (.t 107), none⟩,
  ⟨some 109, .mv false (.t 108), none⟩,
  ⟨some 110, .mv false (.t 10), some (109, false)⟩,
  ⟨some 111, .iaddr 7 (.t 110) (.c (.int .i64 0)), some (109, false)⟩,
  ⟨some 112, .faddr 1 (.t 111), some (109, false)⟩,
  ⟨some 113, .load false 1 (.t 112) .any, some (109, false)⟩,
  ⟨some 114, .bin .neq (.t 113) (.c (.int .i64 1)), some (109, false)⟩,
  ⟨some 115, .pick (.t 109) (.c (.bool true)) (.t 114), none⟩,
  ⟨some 116, .mv false (.t 115), none⟩,
  ⟨some 117, .mv false (.t 10), some (116, false)⟩,
  ⟨some 118, .iaddr 7 (.t 117) (.c (.int .i64 0)), some (116, false)⟩,
  ⟨some 119, .faddr 3 (.t 118), some (116, false)⟩,
  ⟨some 120, .load false 1 (.t 119) .any, some (116, false)⟩,
  ⟨some 121, .bin .neq (.t 120) (.c (.str [101, 102, 103, 104])), some (116, false)⟩,
  ⟨some 122, .pick (.t 116) (.c (.bool true)) (.t 121), none⟩,
  ⟨some 123, .mv false (.t 122), none⟩,
  ⟨some 124, .faddr 2 (.t 1), some (123, false)⟩,
  ⟨some 125, .load false 1 (.t 124) .any, some (123, false)⟩,
  ⟨some 126, .len false (.t 125), some (123, false)⟩,
  ⟨some 127, .bin .neq (.t 126) (.c (.int .i64 2)), some (123, false)⟩,
  ⟨some 128, .pick (.t 123) (.c (.bool true)) (.t 127), none⟩,
  ⟨some 129, .mv false (.t 128), none⟩,
  ⟨some 130, .load true 3 (.t 1) .any, some (129, false)⟩,
  ⟨some 131, .call (.c (.fn f_cache_Check)) [(.t 130)] 0, some (129, false)⟩,
  ⟨some 132, .bin .neq (.t 131) (.c (.int .i64 0)), some (129, false)⟩,
  ⟨some 133, .pick (.t 129) (.c (.bool true)) (.t 132), none⟩]
abbrev quietuslaw42_sanity_r8 : List AI := [
  ⟨some 0, .mv true (.c (.bool false)), none⟩]
abbrev quietuslaw42_sanity_r9 : List AI := [
  ⟨some 134, .call (.c (.fn f_quietuslaw42_item)) [(.c (.int .i64 1)), (.c (.int .i64 0)), (.c (.str [120])), (.c (.int .i64 2)), (.c (.int .i64 9))] 0, none⟩,
  ⟨some 12, .alloc [(.int .i64 0), (.int .i64 0), (.int .i64 0), (.str []), (.int .i64 0), (.int .i64 0), (.int .i64 0)], none⟩,
  ⟨none, .store 7 (.t 12) (.t 134) .any, none⟩]
abbrev quietuslaw42_sanity_r10 : List AI := [
  ⟨some 135, .faddr 2 (.t 12), none⟩,
  ⟨none, .store 1 (.t 135) (.c (.int .i64 0)) .any, none⟩]
abbrev quietuslaw42_sanity_r11 : List AI := [
  ⟨some 136, .call (.c (.fn f_quietuslaw42_item)) [(.c (.int .i64 1)), (.c (.int .i64 0)), (.c (.str [97, 98, 99, 100, 101, 102, 103, 104, 105, 106, 107])), (.c (.int .i64 2)), (.c (.int .i64 9))] 0, none⟩,
  ⟨some 13, .alloc [(.int .i64 0), (.int .i64 0), (.int .i64 0), (.str []), (.int .i64 0), (.int .i64 0), (.int .i64 0)], none⟩,
  ⟨none, .store 7 (.t 13) (.t 136) .any, none⟩]
abbrev quietuslaw42_sanity_r12 : List AI := [
  ⟨some 137, .faddr 2 (.t 13), none⟩,
  ⟨none, .store 1 (.t 137) (.c (.int .i64 2)) .any, none⟩]
abbrev quietuslaw42_sanity_r13 : List AI := [
  ⟨some 138, .call (.c (.fn f_quietuslaw42_item)) [(.c (.int .i64 1)), (.c (.int .i64 0)), (.c (.str [120])), (.c (.int .i64 1)), (.c (.int .i64 1))] 0, none⟩,
  ⟨some 14, .alloc [(.int .i64 0), (.int .i64 0), (.int .i64 0), (.str []), (.int .i64 0), (.int .i64 0), (.int .i64 0)], none⟩,
  ⟨none, .store 7 (.t 14) (.t 138) .any, none⟩]
abbrev quietuslaw42_sanity_r14 : List AI := [
  ⟨some 139, .faddr 2 (.t 14), none⟩,
  ⟨none, .store 1 (.t 139) (.c (.int .i64 2)) .any, none⟩]
abbrev quietuslaw42_sanity_r15 : List AI := [
  ⟨some 141, .load true 3 (.t 1) .any, none⟩,
  ⟨some 142, .load true 7 (.t 12) .any, none⟩,
  ⟨some 143, .call (.c (.fn f_cache_Put)) [(.t 141), (.t 142)] 0, none⟩,
  ⟨some 140, .mv false (.t 143), none⟩,
  ⟨some 144, .ext (.t 140) 0, none⟩,
  ⟨some 145, .ext (.t 140) 1, none⟩,
  ⟨some 146, .ext (.t 140) 2, none⟩,
  ⟨some 15, .alloc [(.int .i64 0), (.int .i64 0), .nilS], none⟩,
  ⟨none, .store 3 (.t 15) (.t 144) .any, none⟩,
  ⟨some 16, .mv true (.t 145), none⟩,
  ⟨some 17, .mv true (.t 146), none⟩]
abbrev quietuslaw42_sanity_r16 : List AI := [
  ⟨some 148, .load true 3 (.t 1) .any, none⟩,
  ⟨some 149, .load true 7 (.t 13) .any, none⟩,
  ⟨some 150, .call (.c (.fn f_cache_Put)) [(.t 148), (.t 149)] 0, none⟩,
  ⟨some 147, .mv false (.t 150), none⟩,
  ⟨some 151, .ext (.t 147) 0, none⟩,
  ⟨some 152, .ext (.t 147) 1, none⟩,
  ⟨some 153, .ext (.t 147) 2, none⟩,
  ⟨some 18, .alloc [(.int .i64 0), (.int .i64 0), .nilS], none⟩,
  ⟨none, .store 3 (.t 18) (.t 151) .any, none⟩,
  ⟨some 19, .mv true (.t 152), none⟩,
  ⟨some 20, .mv true (.t 153), none⟩]
abbrev quietuslaw42_sanity_r17 : List AI := [
  ⟨some 155, .load true 3 (.t 1) .any, none⟩,
  ⟨some 156, .load true 7 (.t 14) .any, none⟩,
  ⟨some 157, .call (.c (.fn f_cache_Put)) [(.t 155), (.t 156)] 0, none⟩,
  ⟨some 154, .mv false (.t 157), none⟩,
  ⟨some 158, .ext (.t 154) 0, none⟩,
  ⟨some 159, .ext (.t 154) 1, none⟩,
  ⟨some 160, .ext (.t 154) 2, none⟩,
  ⟨some 21, .alloc [(.int .i64 0), (.int .i64 0), .nilS], none⟩,
  ⟨none, .store 3 (.t 21) (.t 158) .any, none⟩,
  ⟨some 22, .mv true (.t 159), none⟩,
  ⟨some 23, .mv true (.t 160), none⟩]
abbrev quietuslaw42_sanity_r18 : List AI := [
  ⟨some 162, .load true 3 (.t 1) .any, none⟩,
  ⟨some 163, .call (.c (.fn f_cache_Get)) [(.t 162), (.c (.int .i64 1)), (.c (.int .i64 0)), (.c (.int .i64 1))] 0, none⟩,
  ⟨some 161, .mv false (.t 163), none⟩,
  ⟨some 164, .ext (.t 161) 0, none⟩,
  ⟨some 165, .ext (.t 161) 1, none⟩,
  ⟨some 166, .ext (.t 161) 2, none⟩,
  ⟨some 25, .alloc [(.int .i64 0), (.int .i64 0), .nilS], none⟩,
  ⟨some 24, .mv true (.t 164), none⟩,
  ⟨none, .store 3 (.t 25) (.t 165) .any, none⟩,
  ⟨some 26, .mv true (.t 166), none⟩]
abbrev quietuslaw42_sanity_r19 : List AI := [
  ⟨some 168, .load true 3 (.t 1) .any, none⟩,
  ⟨some 169, .call (.c (.fn f_cache_Get)) [(.t 168), (.c (.int .i64 1)), (.c (.int .i64 1)), (.c (.int .i64 9))] 0, none⟩,
  ⟨some 167, .mv false (.t 169), none⟩,
  ⟨some 170, .ext (.t 167) 0, none⟩,
  ⟨some 171, .ext (.t 167) 1, none⟩,
  ⟨some 172, .ext (.t 167) 2, none⟩,
  ⟨some 28, .alloc [(.int .i64 0), (.int .i64 0), .nilS], none⟩,
  ⟨some 27, .mv true (.t 170), none⟩,
  ⟨none, .store 3 (.t 28) (.t 171) .any, none⟩,
  ⟨some 29, .mv true (.t 172), none⟩]
abbrev quietuslaw42_sanity_r20 : List AI := [
  ⟨some 174, .load true 3 (.t 1) .any, none⟩,
  ⟨some 175, .call (.c (.fn f_cache_Forget)) [(.t 174), (.c (.int .i64 1))] 0, none⟩,
  ⟨some 173, .mv false (.t 175), none⟩,
  ⟨some 176, .ext (.t 173) 0, none⟩,
  ⟨some 177, .ext (.t 173) 1, none⟩,
  ⟨some 178, .ext (.t 173) 2, none⟩,
  ⟨some 30, .alloc [(.int .i64 0), (.int .i64 0), .nilS], none⟩,
  ⟨none, .store 3 (.t 30) (.t 176) .any, none⟩,
  ⟨some 31, .mv true (.t 177), none⟩,
  ⟨some 32, .mv true (.t 178), none⟩]
abbrev quietuslaw42_sanity_r21 : List AI := [
  ⟨some 180, .load true 3 (.t 1) .any, none⟩,
  ⟨some 181, .call (.c (.fn f_cache_Tick)) [(.t 180), (.c (.int .i64 10))] 0, none⟩,
  ⟨some 179, .mv false (.t 181), none⟩,
  ⟨some 182, .ext (.t 179) 0, none⟩,
  ⟨some 183, .ext (.t 179) 1, none⟩,
  ⟨some 33, .alloc [(.int .i64 0), (.int .i64 0), .nilS], none⟩,
  ⟨none, .store 3 (.t 33) (.t 182) .any, none⟩,
  ⟨some 34, .mv true (.t 183), none⟩]
abbrev quietuslaw42_sanity_r22 : List AI := [
  ⟨some 185, .load true 3 (.t 33) .any, none⟩,
  ⟨some 186, .call (.c (.fn f_cache_Tick)) [(.t 185), (.c (.int .i64 9))] 0, none⟩,
  ⟨some 184, .mv false (.t 186), none⟩,
  ⟨some 187, .ext (.t 184) 0, none⟩,
  ⟨some 188, .ext (.t 184) 1, none⟩,
  ⟨some 35, .alloc [(.int .i64 0), (.int .i64 0), .nilS], none⟩,
  ⟨none, .store 3 (.t 35) (.t 187) .any, none⟩,
  ⟨some 36, .mv true (.t 188), none⟩]
abbrev quietuslaw42_sanity_r23 : List AI := [
  ⟨some 189, .mv false (.t 17), none⟩,
  ⟨some 190, .bin .eql (.t 189) (.c (.int .i64 15)), none⟩,
  ⟨some 191, .mv false (.t 190), none⟩,
  ⟨some 192, .mv false (.t 20), some (191, true)⟩,
  ⟨some 193, .bin .eql (.t 192) (.c (.int .i64 13)), some (191, true)⟩,
  ⟨some 194, .pick (.t 191) (.t 193) (.c (.bool false)), none⟩,
  ⟨some 195, .mv false (.t 194), none⟩,
  ⟨some 196, .mv false (.t 23), some (195, true)⟩,
  ⟨some 197, .bin .eql (.t 196) (.c (.int .i64 18)), some (195, true)⟩,
  ⟨some 198, .pick (.t 195) (.t 197) (.c (.bool false)), none⟩,
  ⟨some 199, .mv false (.t 198), none⟩,
  ⟨some 200, .mv false (.t 26), some (199, true)⟩,
  ⟨some 201, .bin .eql (.t 200) (.c (.int .i64 15)), some (199, true)⟩,
  ⟨some 202, .pick (.t 199) (.t 201) (.c (.bool false)), none⟩,
  ⟨some 203, .mv false (.t 202), none⟩,
  ⟨some 204, .mv false (.t 29), some (203, true)⟩,
  ⟨some 205, .bin .eql (.t 204) (.c (.int .i64 8)), some (203, true)⟩,
  ⟨some 206, .pick (.t 203) (.t 205) (.c (.bool false)), none⟩,
  ⟨some 207, .mv false (.t 206), none⟩,
  ⟨some 208, .mv false (.t 32), some (207, true)⟩,
  ⟨some 209, .bin .eql (.t 208) (.c (.int .i64 0)), some (207, true)⟩,
  ⟨some 210, .pick (.t 207) (.t 209) (.c (.bool false)), none⟩,
  ⟨some 211, .mv false (.t 210), none⟩,
  ⟨some 212, .mv false (.t 31), some (211, true)⟩,
  ⟨some 213, .bin .eql (.t 212) (.c (.int .i64 1)), some (211, true)⟩,
  ⟨some 214, .pick (.t 211) (.t 213) (.c (.bool false)), none⟩,
  ⟨some 215, .mv false (.t 214), none⟩,
  ⟨some 216, .faddr 2 (.t 30), some (215, true)⟩,
  ⟨some 217, .load false 1 (.t 216) .any, some (215, true)⟩,
  ⟨some 218, .len false (.t 217), some (215, true)⟩,
  ⟨some 219, .bin .eql (.t 218) (.c (.int .i64 1)), some (215, true)⟩,
  ⟨some 220, .pick (.t 215) (.t 219) (.c (.bool false)), none⟩,
  ⟨some 221, .mv false (.t 220), none⟩,
  ⟨some 222, .mv false (.t 34), some (221, true)⟩,
  ⟨some 223, .bin .eql (.t 222) (.c (.int .i64 0)), some (221, true)⟩,
  ⟨some 224, .pick (.t 221) (.t 223) (.c (.bool false)), none⟩,
  ⟨some 225, .mv false (.t 224), none⟩,
  ⟨some 226, .faddr 2 (.t 33), some (225, true)⟩,
  ⟨some 227, .load false 1 (.t 226) .any, some (225, true)⟩,
  ⟨some 228, .len false (.t 227), some (225, true)⟩,
  ⟨some 229, .bin .eql (.t 228) (.c (.int .i64 0)), some (225, true)⟩,
  ⟨some 230, .pick (.t 225) (.t 229) (.c (.bool false)), none⟩,
  ⟨some 231, .mv false (.t 230), none⟩,
  ⟨some 232, .faddr 1 (.t 33), some (231, true)⟩,
  ⟨some 233, .load false 1 (.t 232) .any, some (231, true)⟩,
  ⟨some 234, .bin .eql (.t 233) (.c (.int .i64 10)), some (231, true)⟩,
  ⟨some 235, .pick (.t 231) (.t 234) (.c (.bool false)), none⟩,
  ⟨some 236, .mv false (.t 235), none⟩,
  ⟨some 237, .mv false (.t 36), some (236, true)⟩,
  ⟨some 238, .bin .eql (.t 237) (.c (.int .i64 15)), some (236, true)⟩,
  ⟨some 239, .pick (.t 236) (.t 238) (.c (.bool false)), none⟩,
  ⟨some 0, .mv true (.t 239), none⟩]
abbrev quietuslaw42_sanity_c : ACode := .seq (.reg false quietuslaw42_sanity_r0) (.seq (.reg false quietuslaw42_sanity_r1) (.seq (.reg true quietuslaw42_sanity_r2) (.seq (.reg true quietuslaw42_sanity_r3) (.seq (.reg false quietuslaw42_sanity_r4) (.seq (.reg false quietuslaw42_sanity_r5) (.seq (.reg true quietuslaw42_sanity_r6) (.seq (.seq (.reg false quietuslaw42_sanity_r7) (.cond (.t 133) (.seq (.reg false quietuslaw42_sanity_r8) (.ret)) (.skip))) (.seq (.reg false quietuslaw42_sanity_r9) (.seq (.reg false quietuslaw42_sanity_r10) (.seq (.reg false quietuslaw42_sanity_r11) (.seq (.reg false quietuslaw42_sanity_r12) (.seq (.reg false quietuslaw42_sanity_r13) (.seq (.reg false quietuslaw42_sanity_r14) (.seq (.reg false quietuslaw42_sanity_r15) (.seq (.reg false quietuslaw42_sanity_r16) (.seq (.reg false quietuslaw42_sanity_r17) (.seq (.reg false quietuslaw42_sanity_r18) (.seq (.reg false quietuslaw42_sanity_r19) (.seq (.reg false quietuslaw42_sanity_r20) (.seq (.reg false quietuslaw42_sanity_r21) (.seq (.reg false quietuslaw42_sanity_r22) (.seq (.reg false quietuslaw42_sanity_r23) (.ret)))))))))))))))))))))))
def quietuslaw42_sanity_F : AFunc := ⟨240, [.tmp 0], quietuslaw42_sanity_c⟩

theorem quietuslaw42_sanity_cp : compile Try.prog [] f_quietuslaw42_sanity = some quietuslaw42_sanity_F := by kernel_rfl

abbrev cache_New_r0 : List AI := [
  ⟨some 2, .alloc [(.int .i64 0), (.int .i64 0), .nilS], none⟩,
  ⟨some 3, .mv true (.c (.int .i64 0)), none⟩]
abbrev cache_New_r1 : List AI := [
  ⟨some 4, .mv false (.t 0), none⟩,
  ⟨some 5, .bin .lss (.t 4) (.c (.int .i64 0)), none⟩,
  ⟨some 6, .mv false (.t 5), none⟩,
  ⟨some 7, .mv false (.t 0), some (6, false)⟩,
  ⟨some 8, .bin .gtr (.t 7) (.c (.int .i64 1048576)), some (6, false)⟩,
  ⟨some 9, .pick (.t 6) (.c (.bool true)) (.t 8), none⟩]
abbrev cache_New_r2 : List AI := [
  ⟨some 10, .build [(.int .i64 0), (.int .i64 0), .nilS] [], none⟩,
  ⟨none, .store 3 (.t 2) (.t 10) .any, none⟩,
  ⟨some 3, .mv true (.c (.int .i64 3)), none⟩]
abbrev cache_New_r3 : List AI := [
  ⟨some 11, .mv false (.t 0), none⟩,
  ⟨some 12, .build [(.int .i64 0), (.int .i64 0), .nilS] [(0, 1, (.t 11))], none⟩,
  ⟨none, .store 3 (.t 2) (.t 12) .any, none⟩,
  ⟨some 3, .mv true (.c (.int .i64 0)), none⟩]
abbrev cache_New_c : ACode := .seq (.reg false cache_New_r0) (.seq (.seq (.reg false cache_New_r1) (.cond (.t 9) (.seq (.reg false cache_New_r2) (.ret)) (.skip))) (.seq (.reg false cache_New_r3) (.ret)))
def cache_New_F : AFunc := ⟨13, [.cell 2 true 3, .tmp 3], cache_New_c⟩

theorem cache_New_cp : compile Try.prog [] f_cache_New = some cache_New_F := by kernel_rfl

abbrev quietusref42_New_r0 : List AI := [
  ⟨some 2, .alloc [(.int .i64 0), (.int .i64 0), .nilS, .nilS, (.str []), (.int .i64 0), (.int .i64 0)], none⟩]
abbrev quietusref42_New_r1 : List AI := [
  ⟨some 3, .mv false (.t 0), none⟩,
  ⟨some 4, .bin .lss (.t 3) (.c (.int .i64 0)), none⟩,
  ⟨some 5, .mv false (.t 4), none⟩,
  ⟨some 6, .mv false (.t 0), some (5, false)⟩,
  ⟨some 7, .bin .gtr (.t 6) (.c (.int .i64 1048576)), some (5, false)⟩,
  ⟨some 8, .pick (.t 5) (.c (.bool true)) (.t 7), none⟩]
abbrev quietusref42_New_r2 : List AI := [
  ⟨some 9, .build [(.int .i64 0), (.int .i64 0), .nilS, .nilS, (.str []), (.int .i64 0), (.int .i64 0)] [(6, 1, (.c (.int .i64 3)))], none⟩,
  ⟨none, .store 7 (.t 2) (.t 9) .any, none⟩]
abbrev quietusref42_New_r3 : List AI := [
  ⟨some 10, .mv false (.t 0), none⟩,
  ⟨some 11, .build [(.int .i64 0), (.int .i64 0), .nilS] [(0, 1, (.t 10))], none⟩,
  ⟨some 12, .build [(.int .i64 0), (.int .i64 0), .nilS, .nilS, (.str []), (.int .i64 0), (.int .i64 0)] [(0, 3, (.t 11))], none⟩,
  ⟨none, .store 7 (.t 2) (.t 12) .any, none⟩]
abbrev quietusref42_New_c : ACode := .seq (.reg false quietusref42_New_r0) (.seq (.seq (.reg false quietusref42_New_r1) (.cond (.t 8) (.seq (.reg false quietusref42_New_r2) (.ret)) (.skip))) (.seq (.reg false quietusref42_New_r3) (.ret)))
def quietusref42_New_F : AFunc := ⟨13, [.cell 2 true 7], quietusref42_New_c⟩

theorem quietusref42_New_cp : compile Try.prog [] f_quietusref42_New = some quietusref42_New_F := by kernel_rfl

abbrev cache_Check_r0 : List AI := [
  ⟨some 1, .box 3 (.t 0), none⟩,
  ⟨some 2, .mv true (.c (.int .i64 0)), none⟩]
abbrev cache_Check_r1 : List AI := [
  ⟨some 5, .faddr 0 (.t 1), none⟩,
  ⟨some 6, .load false 1 (.t 5) .any, none⟩,
  ⟨some 7, .bin .lss (.t 6) (.c (.int .i64 0)), none⟩,
  ⟨some 8, .mv false (.t 7), none⟩,
  ⟨some 9, .faddr 0 (.t 1), some (8, false)⟩,
  ⟨some 10, .load false 1 (.t 9) .any, some (8, false)⟩,
  ⟨some 11, .bin .gtr (.t 10) (.c (.int .i64 1048576)), some (8, false)⟩,
  ⟨some 12, .pick (.t 8) (.c (.bool true)) (.t 11), none⟩,
  ⟨some 13, .mv false (.t 12), none⟩,
  ⟨some 14, .faddr 1 (.t 1), some (13, false)⟩,
  ⟨some 15, .load false 1 (.t 14) .any, some (13, false)⟩,
  ⟨some 16, .bin .lss (.t 15) (.c (.int .i64 0)), some (13, false)⟩,
  ⟨some 17, .pick (.t 13) (.c (.bool true)) (.t 16), none⟩,
  ⟨some 18, .mv false (.t 17), none⟩,
  ⟨some 19, .faddr 1 (.t 1), some (18, false)⟩,
  ⟨some 20, .load false 1 (.t 19) .any, some (18, false)⟩,
  ⟨some 21, .bin .gtr (.t 20) (.c (.int .i64 1000000)), some (18, false)⟩,
  ⟨some 22, .pick (.t 18) (.c (.bool true)) (.t 21), none⟩]
abbrev cache_Check_r2 : List AI := [
  ⟨some 2, .mv true (.c (.int .i64 3)), none⟩]
abbrev cache_Check_r3 : List AI := [
  ⟨some 23, .faddr 2 (.t 1), none⟩,
  ⟨some 24, .load false 1 (.t 23) .any, none⟩,
  ⟨some 25, .len false (.t 24), none⟩,
  ⟨some 26, .mv false (.c (.int .i64 0)), none⟩]
abbrev cache_Check_r4 : List AI := [
  ⟨some 27, .bin .lss (.t 26) (.t 25), none⟩]
abbrev cache_Check_r5 : List AI := [
  ⟨some 28, .mv false (.t 26), none⟩,
  ⟨some 29, .iaddr 7 (.t 24) (.t 26), none⟩,
  ⟨some 30, .load true 7 (.t 29) .any, none⟩,
  ⟨some 4, .alloc [(.int .i64 0), (.int .i64 0), (.int .i64 0), (.str []), (.int .i64 0), (.int .i64 0), (.int .i64 0)], none⟩,
  ⟨some 3, .mv true (.t 28), none⟩,
  ⟨none, .store 7 (.t 4) (.t 30) .any, none⟩]
abbrev cache_Check_r6 : List AI := [
  ⟨some 31, .load true 7 (.t 4) (.site 4), none⟩,
  ⟨some 32, .faddr 1 (.t 1), none⟩,
  ⟨some 33, .load false 1 (.t 32) (.site 1), none⟩,
  ⟨some 34, .call (.c (.fn f_cache_right)) [(.t 31), (.t 33)] 1, none⟩,
  ⟨some 35, .not (.t 34), none⟩,
  ⟨some 36, .mv false (.t 35), none⟩,
  ⟨some 37, .faddr 6 (.t 4), some (36, false)⟩,
  ⟨some 38, .load false 1 (.t 37) (.site 4), some (36, false)⟩,
  ⟨some 39, .faddr 4 (.t 4), some (36, false)⟩,
  ⟨some 40, .load false 1 (.t 39) (.site 4), some (36, false)⟩,
  ⟨some 41, .bin .lss (.t 38) (.t 40), some (36, false)⟩,
  ⟨some 42, .pick (.t 36) (.c (.bool true)) (.t 41), none⟩,
  ⟨some 43, .mv false (.t 42), none⟩,
  ⟨some 44, .faddr 6 (.t 4), some (43, false)⟩,
  ⟨some 45, .load false 1 (.t 44) (.site 4), some (43, false)⟩,
  ⟨some 46, .faddr 1 (.t 1), some (43, false)⟩,
  ⟨some 47, .load false 1 (.t 46) (.site 1), some (43, false)⟩,
  ⟨some 48, .bin .gtr (.t 45) (.t 47), some (43, false)⟩,
  ⟨some 49, .pick (.t 43) (.c (.bool true)) (.t 48), none⟩,
  ⟨some 50, .mv false (.t 49), none⟩,
  ⟨some 51, .mv false (.t 3), some (50, false)⟩,
  ⟨some 52, .bin .gtr (.t 51) (.c (.int .i64 0)), some (50, false)⟩,
  ⟨some 53, .mv false (.t 52), some (50, false)⟩,
  ⟨some 54, .faddr 2 (.t 1), some (53, true)⟩,
  ⟨some 55, .load false 1 (.t 54) (.site 1), some (53, true)⟩,
  ⟨some 56, .mv false (.t 3), some (53, true)⟩,
  ⟨some 57, .bin .sub (.t 56) (.c (.int .i64 1)), some (53, true)⟩,
  ⟨some 58, .iaddr 7 (.t 55) (.t 57), some (53, true)⟩,
  ⟨some 59, .load true 7 (.t 58) .foreign, some (53, true)⟩,
  ⟨some 60, .load true 7 (.t 4) (.site 4), some (53, true)⟩,
  ⟨some 61, .call (.c (.fn f_cache_compare)) [(.t 59), (.t 60)] 1, some (53, true)⟩,
  ⟨some 62, .bin .geq (.t 61) (.c (.int .i64 0)), some (53, true)⟩,
  ⟨some 63, .pick (.t 53) (.t 62) (.c (.bool false)), some (50, false)⟩,
  ⟨some 64, .pick (.t 50) (.c (.bool true)) (.t 63), none⟩]
abbrev cache_Check_r7 : List AI := [
  ⟨some 2, .mv true (.c (.int .i64 1)), none⟩]
abbrev cache_Check_r8 : List AI := [
  ⟨some 65, .faddr 5 (.t 4), none⟩,
  ⟨some 66, .load false 1 (.t 65) .any, none⟩,
  ⟨some 67, .faddr 1 (.t 1), none⟩,
  ⟨some 68, .load false 1 (.t 67) .any, none⟩,
  ⟨some 69, .bin .lss (.t 66) (.t 68), none⟩]
abbrev cache_Check_r9 : List AI := [
  ⟨some 2, .mv true (.c (.int .i64 18)), none⟩]
abbrev cache_Check_r10 : List AI := [
  ⟨some 70, .bin .add (.t 26) (.c (.int .i64 1)), none⟩,
  ⟨some 26, .mv false (.t 70), none⟩]
abbrev cache_Check_l0 : ACode := .seq (.reg false cache_Check_r4) (.seq (.cond (.t 27) (.skip) (.exit 0)) (.seq (.block 1 (.seq (.reg false cache_Check_r5) (.seq (.seq (.reg true cache_Check_r6) (.cond (.t 64) (.seq (.reg false cache_Check_r7) (.ret)) (.skip))) (.seq (.reg false cache_Check_r8) (.cond (.t 69) (.seq (.reg false cache_Check_r9) (.ret)) (.skip)))))) (.reg false cache_Check_r10)))
abbrev cache_Check_r11 : List AI := [
  ⟨some 71, .faddr 2 (.t 1), none⟩,
  ⟨some 72, .load false 1 (.t 71) (.site 1), none⟩,
  ⟨some 74, .faddr 0 (.t 1), none⟩,
  ⟨some 75, .load false 1 (.t 74) (.site 1), none⟩,
  ⟨some 73, .call (.c (.fn f_cache_total)) [(.t 72)] 2, none⟩,
  ⟨some 76, .bin .gtr (.t 73) (.t 75), none⟩]
abbrev cache_Check_r12 : List AI := [
  ⟨some 2, .mv true (.c (.int .i64 13)), none⟩]
abbrev cache_Check_r13 : List AI := [
  ⟨some 2, .mv true (.c (.int .i64 0)), none⟩]
abbrev cache_Check_c : ACode := .seq (.reg false cache_Check_r0) (.seq (.seq (.reg false cache_Check_r1) (.cond (.t 22) (.seq (.reg false cache_Check_r2) (.ret)) (.skip))) (.seq (.seq (.reg false cache_Check_r3) (.block 0 (.loop cache_Check_l0))) (.seq (.seq (.reg true cache_Check_r11) (.cond (.t 76) (.seq (.reg false cache_Check_r12) (.ret)) (.skip))) (.seq (.reg false cache_Check_r13) (.ret)))))
def cache_Check_F : AFunc := ⟨77, [.tmp 2], cache_Check_c⟩

theorem cache_Check_cp : compile Try.prog [] f_cache_Check = some cache_Check_F := by kernel_rfl

abbrev quietusref42_Check_r0 : List AI := [
  ⟨some 1, .box 3 (.t 0), none⟩,
  ⟨some 2, .mv true (.c (.int .i64 0)), none⟩]
abbrev quietusref42_Check_r1 : List AI := [
  ⟨some 7, .faddr 0 (.t 1), none⟩,
  ⟨some 8, .load false 1 (.t 7) .any, none⟩,
  ⟨some 9, .bin .lss (.t 8) (.c (.int .i64 0)), none⟩,
  ⟨some 10, .mv false (.t 9), none⟩,
  ⟨some 11, .faddr 0 (.t 1), some (10, false)⟩,
  ⟨some 12, .load false 1 (.t 11) .any, some (10, false)⟩,
  ⟨some 13, .bin .gtr (.t 12) (.c (.int .i64 1048576)), some (10, false)⟩,
  ⟨some 14, .pick (.t 10) (.c (.bool true)) (.t 13), none⟩,
  ⟨some 15, .mv false (.t 14), none⟩,
  ⟨some 16, .faddr 1 (.t 1), some (15, false)⟩,
  ⟨some 17, .load false 1 (.t 16) .any, some (15, false)⟩,
  ⟨some 18, .bin .lss (.t 17) (.c (.int .i64 0)), some (15, false)⟩,
  ⟨some 19, .pick (.t 15) (.c (.bool true)) (.t 18), none⟩,
  ⟨some 20, .mv false (.t 19), none⟩,
  ⟨some 21, .faddr 1 (.t 1), some (20, false)⟩,
  ⟨some 22, .load false 1 (.t 21) .any, some (20, false)⟩,
  ⟨some 23, .bin .gtr (.t 22) (.c (.int .i64 1000000)), some (20, false)⟩,
  ⟨some 24, .pick (.t 20) (.c (.bool true)) (.t 23), none⟩]
abbrev quietusref42_Check_r2 : List AI := [
  ⟨some 2, .mv true (.c (.int .i64 3)), none⟩]
abbrev quietusref42_Check_r3 : List AI := [
  ⟨some 3, .mv true (.c (.int .i64 0)), none⟩]
abbrev quietusref42_Check_r4 : List AI := [
  ⟨some 25, .mv false (.t 3), none⟩,
  ⟨some 26, .faddr 2 (.t 1), none⟩,
  ⟨some 27, .load false 1 (.t 26) .any, none⟩,
  ⟨some 28, .len false (.t 27), none⟩,
  ⟨some 29, .bin .lss (.t 25) (.t 28), none⟩]
abbrev quietusref42_Check_r5 : List AI := [
  ⟨some 32, .faddr 2 (.t 1), none⟩,
  ⟨some 33, .load false 1 (.t 32) .any, none⟩,
  ⟨some 34, .mv false (.t 3), none⟩,
  ⟨some 35, .iaddr 7 (.t 33) (.t 34), none⟩,
  ⟨some 36, .load true 7 (.t 35) .any, none⟩,
  ⟨some 4, .alloc [(.int .i64 0), (.int .i64 0), (.int .i64 0), (.str []), (.int .i64 0), (.int .i64 0), (.int .i64 0)], none⟩,
  ⟨none, .store 7 (.t 4) (.t 36) .any, none⟩]
abbrev quietusref42_Check_r6 : List AI := [
  ⟨some 37, .load true 7 (.t 4) .any, none⟩,
  ⟨some 38, .faddr 1 (.t 1), none⟩,
  ⟨some 39, .load false 1 (.t 38) .any, none⟩,
  ⟨some 40, .call (.c (.fn f_quietusref42_Right)) [(.t 37), (.t 39)] 0, none⟩,
  ⟨some 5, .mv true (.t 40), none⟩]
abbrev quietusref42_Check_r7 : List AI := [
  ⟨some 41, .mv false (.t 3), none⟩,
  ⟨some 42, .bin .eql (.t 41) (.c (.int .i64 0)), none⟩,
  ⟨some 43, .mv false (.t 42), none⟩,
  ⟨some 44, .faddr 2 (.t 1), some (43, false)⟩,
  ⟨some 45, .load false 1 (.t 44) (.site 1), some (43, false)⟩,
  ⟨some 46, .mv false (.t 3), some (43, false)⟩,
  ⟨some 47, .bin .sub (.t 46) (.c (.int .i64 1)), some (43, false)⟩,
  ⟨some 48, .iaddr 7 (.t 45) (.t 47), some (43, false)⟩,
  ⟨some 49, .load true 7 (.t 48) .foreign, some (43, false)⟩,
  ⟨some 50, .load true 7 (.t 4) (.site 4), some (43, false)⟩,
  ⟨some 51, .call (.c (.fn f_quietusref42_before)) [(.t 49), (.t 50)] 1, some (43, false)⟩,
  ⟨some 52, .pick (.t 43) (.c (.bool true)) (.t 51), none⟩,
  ⟨some 6, .mv true (.t 52), none⟩]
abbrev quietusref42_Check_r8 : List AI := [
  ⟨some 53, .mv false (.t 5), none⟩,
  ⟨some 54, .not (.t 53), none⟩,
  ⟨some 55, .mv false (.t 54), none⟩,
  ⟨some 56, .faddr 6 (.t 4), some (55, false)⟩,
  ⟨some 57, .load false 1 (.t 56) .any, some (55, false)⟩,
  ⟨some 58, .faddr 4 (.t 4), some (55, false)⟩,
  ⟨some 59, .load false 1 (.t 58) .any, some (55, false)⟩,
  ⟨some 60, .bin .lss (.t 57) (.t 59), some (55, false)⟩,
  ⟨some 61, .pick (.t 55) (.c (.bool true)) (.t 60), none⟩,
  ⟨some 62, .mv false (.t 61), none⟩,
  ⟨some 63, .faddr 6 (.t 4), some (62, false)⟩,
  ⟨some 64, .load false 1 (.t 63) .any, some (62, false)⟩,
  ⟨some 65, .faddr 1 (.t 1), some (62, false)⟩,
  ⟨some 66, .load false 1 (.t 65) .any, some (62, false)⟩,
  ⟨some 67, .bin .gtr (.t 64) (.t 66), some (62, false)⟩,
  ⟨some 68, .pick (.t 62) (.c (.bool true)) (.t 67), none⟩,
  ⟨some 69, .mv false (.t 68), none⟩,
  ⟨some 70, .mv false (.t 6), some (69, false)⟩,
  ⟨some 71, .not (.t 70), some (69, false)⟩,
  ⟨some 72, .pick (.t 69) (.c (.bool true)) (.t 71), none⟩]
abbrev quietusref42_Check_r9 : List AI := [
  ⟨some 2, .mv true (.c (.int .i64 1)), none⟩]
abbrev quietusref42_Check_r10 : List AI := [
  ⟨some 73, .faddr 5 (.t 4), none⟩,
  ⟨some 74, .load false 1 (.t 73) .any, none⟩,
  ⟨some 75, .faddr 1 (.t 1), none⟩,
  ⟨some 76, .load false 1 (.t 75) .any, none⟩,
  ⟨some 77, .bin .lss (.t 74) (.t 76), none⟩]
abbrev quietusref42_Check_r11 : List AI := [
  ⟨some 2, .mv true (.c (.int .i64 18)), none⟩]
abbrev quietusref42_Check_r12 : List AI := [
  ⟨some 30, .mv false (.t 3), none⟩,
  ⟨some 31, .bin .add (.t 30) (.c (.int .i64 1)), none⟩,
  ⟨some 3, .mv true (.t 31), none⟩]
abbrev quietusref42_Check_l0 : ACode := .seq (.seq (.reg false quietusref42_Check_r4) (.cond (.t 29) (.skip) (.exit 0))) (.seq (.block 1 (.seq (.reg false quietusref42_Check_r5) (.seq (.reg false quietusref42_Check_r6) (.seq (.reg true quietusref42_Check_r7) (.seq (.seq (.reg false quietusref42_Check_r8) (.cond (.t 72) (.seq (.reg false quietusref42_Check_r9) (.ret)) (.skip))) (.seq (.reg false quietusref42_Check_r10) (.cond (.t 77) (.seq (.reg false quietusref42_Check_r11) (.ret)) (.skip)))))))) (.reg false quietusref42_Check_r12))
abbrev quietusref42_Check_r13 : List AI := [
  ⟨some 78, .faddr 2 (.t 1), none⟩,
  ⟨some 79, .load false 1 (.t 78) (.site 1), none⟩,
  ⟨some 81, .faddr 0 (.t 1), none⟩,
  ⟨some 82, .load false 1 (.t 81) (.site 1), none⟩,
  ⟨some 80, .call (.c (.fn f_quietusref42_Bytes)) [(.t 79)] 2, none⟩,
  ⟨some 83, .bin .gtr (.t 80) (.t 82), none⟩]
abbrev quietusref42_Check_r14 : List AI := [
  ⟨some 2, .mv true (.c (.int .i64 13)), none⟩]
abbrev quietusref42_Check_r15 : List AI := [
  ⟨some 2, .mv true (.c (.int .i64 0)), none⟩]
abbrev quietusref42_Check_c : ACode := .seq (.reg false quietusref42_Check_r0) (.seq (.seq (.reg false quietusref42_Check_r1) (.cond (.t 24) (.seq (.reg false quietusref42_Check_r2) (.ret)) (.skip))) (.seq (.seq (.reg false quietusref42_Check_r3) (.block 0 (.loop quietusref42_Check_l0))) (.seq (.seq (.reg true quietusref42_Check_r13) (.cond (.t 83) (.seq (.reg false quietusref42_Check_r14) (.ret)) (.skip))) (.seq (.reg false quietusref42_Check_r15) (.ret)))))
def quietusref42_Check_F : AFunc := ⟨84, [.tmp 2], quietusref42_Check_c⟩

theorem quietusref42_Check_cp : compile Try.prog [] f_quietusref42_Check = some quietusref42_Check_F := by kernel_rfl

abbrev quietusref42_Same_r0 : List AI := [
  ⟨some 2, .box 3 (.t 0), none⟩,
  ⟨some 3, .box 3 (.t 1), none⟩,
  ⟨some 4, .mv true (.c (.bool false)), none⟩]
abbrev quietusref42_Same_r1 : List AI := [
  ⟨some 6, .faddr 2 (.t 2), none⟩,
  ⟨some 7, .load false 1 (.t 6) .any, none⟩,
  ⟨some 8, .faddr 2 (.t 3), none⟩,
  ⟨some 9, .load false 1 (.t 8) .any, none⟩,
  ⟨some 10, .call (.c (.fn f_quietusref42_SameItems)) [(.t 7), (.t 9)] 0, none⟩,
  ⟨some 5, .mv true (.t 10), none⟩]
abbrev quietusref42_Same_r2 : List AI := [
  ⟨some 11, .mv false (.t 5), none⟩,
  ⟨some 12, .mv false (.t 11), none⟩,
  ⟨some 13, .faddr 0 (.t 2), some (12, true)⟩,
  ⟨some 14, .load false 1 (.t 13) .any, some (12, true)⟩,
  ⟨some 15, .faddr 0 (.t 3), some (12, true)⟩,
  ⟨some 16, .load false 1 (.t 15) .any, some (12, true)⟩,
  ⟨some 17, .bin .eql (.t 14) (.t 16), some (12, true)⟩,
  ⟨some 18, .pick (.t 12) (.t 17) (.c (.bool false)), none⟩,
  ⟨some 19, .mv false (.t 18), none⟩,
  ⟨some 20, .faddr 1 (.t 2), some (19, true)⟩,
  ⟨some 21, .load false 1 (.t 20) .any, some (19, true)⟩,
  ⟨some 22, .faddr 1 (.t 3), some (19, true)⟩,
  ⟨some 23, .load false 1 (.t 22) .any, some (19, true)⟩,
  ⟨some 24, .bin .eql (.t 21) (.t 23), some (19, true)⟩,
  ⟨some 25, .pick (.t 19) (.t 24) (.c (.bool false)), none⟩,
  ⟨some 4, .mv true (.t 25), none⟩]
abbrev quietusref42_Same_c : ACode := .seq (.reg false quietusref42_Same_r0) (.seq (.reg false quietusref42_Same_r1) (.seq (.reg false quietusref42_Same_r2) (.ret)))
def quietusref42_Same_F : AFunc := ⟨26, [.tmp 4], quietusref42_Same_c⟩

theorem quietusref42_Same_cp : compile Try.prog [] f_quietusref42_Same = some quietusref42_Same_F := by kernel_rfl

abbrev quietuslaw42_same_r0 : List AI := [
  ⟨some 2, .box 7 (.t 0), none⟩,
  ⟨some 3, .box 7 (.t 1), none⟩,
  ⟨some 4, .mv true (.c (.bool false)), none⟩]
abbrev quietuslaw42_same_r1 : List AI := [
  ⟨some 7, .faddr 0 (.t 2), none⟩,
  ⟨some 8, .load true 3 (.t 7) .any, none⟩,
  ⟨some 9, .faddr 0 (.t 3), none⟩,
  ⟨some 10, .load true 3 (.t 9) .any, none⟩,
  ⟨some 11, .call (.c (.fn f_quietusref42_Same)) [(.t 8), (.t 10)] 0, none⟩,
  ⟨some 5, .mv true (.t 11), none⟩]
abbrev quietuslaw42_same_r2 : List AI := [
  ⟨some 12, .faddr 3 (.t 2), none⟩,
  ⟨some 13, .load false 1 (.t 12) .any, none⟩,
  ⟨some 14, .faddr 3 (.t 3), none⟩,
  ⟨some 15, .load false 1 (.t 14) .any, none⟩,
  ⟨some 16, .call (.c (.fn f_quietusref42_SameItems)) [(.t 13), (.t 15)] 0, none⟩,
  ⟨some 6, .mv true (.t 16), none⟩]
abbrev quietuslaw42_same_r3 : List AI := [
  ⟨some 17, .mv false (.t 5), none⟩,
  ⟨some 18, .mv false (.t 17), none⟩,
  ⟨some 19, .mv false (.t 6), some (18, true)⟩,
  ⟨some 20, .pick (.t 18) (.t 19) (.c (.bool false)), none⟩,
  ⟨some 21, .mv false (.t 20), none⟩,
  ⟨some 22, .faddr 4 (.t 2), some (21, true)⟩,
  ⟨some 23, .load false 1 (.t 22) .any, some (21, true)⟩,
  ⟨some 24, .faddr 4 (.t 3), some (21, true)⟩,
  ⟨some 25, .load false 1 (.t 24) .any, some (21, true)⟩,
  ⟨some 26, .bin .eql (.t 23) (.t 25), some (21, true)⟩,
  ⟨some 27, .pick (.t 21) (.t 26) (.c (.bool false)), none⟩,
  ⟨some 28, .mv false (.t 27), none⟩,
  ⟨some 29, .faddr 5 (.t 2), some (28, true)⟩,
  ⟨some 30, .load false 1 (.t 29) .any, some (28, true)⟩,
  ⟨some 31, .faddr 5 (.t 3), some (28, true)⟩,
  ⟨some 32, .load false 1 (.t 31) .any, some (28, true)⟩,
  ⟨some 33, .bin .eql (.t 30) (.t 32), some (28, true)⟩,
  ⟨some 34, .pick (.t 28) (.t 33) (.c (.bool false)), none⟩,
  ⟨some 35, .mv false (.t 34), none⟩,
  ⟨some 36, .faddr 6 (.t 2), some (35, true)⟩,
  ⟨some 37, .load false 1 (.t 36) .any, some (35, true)⟩,
  ⟨some 38, .faddr 6 (.t 3), some (35, true)⟩,
  ⟨some 39, .load false 1 (.t 38) .any, some (35, true)⟩,
  ⟨some 40, .bin .eql (.t 37) (.t 39), some (35, true)⟩,
  ⟨some 41, .pick (.t 35) (.t 40) (.c (.bool false)), none⟩,
  ⟨some 4, .mv true (.t 41), none⟩]
abbrev quietuslaw42_same_c : ACode := .seq (.reg false quietuslaw42_same_r0) (.seq (.reg false quietuslaw42_same_r1) (.seq (.reg false quietuslaw42_same_r2) (.seq (.reg false quietuslaw42_same_r3) (.ret))))
def quietuslaw42_same_F : AFunc := ⟨42, [.tmp 4], quietuslaw42_same_c⟩

theorem quietuslaw42_same_cp : compile Try.prog [] f_quietuslaw42_same = some quietuslaw42_same_F := by kernel_rfl

abbrev quietuslaw42_do_r0 : List AI := [
  ⟨some 2, .box 3 (.t 0), none⟩,
  ⟨some 3, .box 9 (.t 1), none⟩,
  ⟨some 4, .alloc [(.int .i64 0), (.int .i64 0), .nilS, .nilS, (.str []), (.int .i64 0), (.int .i64 0)], none⟩]
abbrev quietuslaw42_do_r1 : List AI := [
  ⟨some 16, .faddr 0 (.t 3), none⟩,
  ⟨some 17, .load false 1 (.t 16) .any, none⟩,
  ⟨some 18, .bin .rem (.t 17) (.c (.int .u8 4)), none⟩]
abbrev quietuslaw42_do_r2 : List AI := [
  ⟨some 20, .bin .eql (.t 18) (.c (.int .u8 0)), none⟩,
  ⟨some 19, .mv true (.t 20), none⟩]
abbrev quietuslaw42_do_r3 : List AI := [
  ⟨some 22, .load true 3 (.t 2) .any, none⟩,
  ⟨some 23, .faddr 1 (.t 3), none⟩,
  ⟨some 24, .load false 1 (.t 23) .any, none⟩,
  ⟨some 25, .call (.c (.fn f_cache_Tick)) [(.t 22), (.t 24)] 0, none⟩,
  ⟨some 21, .mv false (.t 25), none⟩,
  ⟨some 26, .ext (.t 21) 0, none⟩,
  ⟨some 27, .ext (.t 21) 1, none⟩,
  ⟨some 5, .alloc [(.int .i64 0), (.int .i64 0), .nilS], none⟩,
  ⟨none, .store 3 (.t 5) (.t 26) .any, none⟩,
  ⟨some 6, .mv true (.t 27), none⟩]
abbrev quietuslaw42_do_r4 : List AI := [
  ⟨some 28, .load true 3 (.t 5) .any, none⟩,
  ⟨some 29, .mv false (.t 6), none⟩,
  ⟨some 30, .build [(.int .i64 0), (.int .i64 0), .nilS, .nilS, (.str []), (.int .i64 0), (.int .i64 0)] [(0, 3, (.t 28)), (6, 1, (.t 29))], none⟩,
  ⟨none, .store 7 (.t 4) (.t 30) .any, none⟩]
abbrev quietuslaw42_do_b0 : ACode := .seq (.reg false quietuslaw42_do_r3) (.seq (.reg false quietuslaw42_do_r4) (.ret))
abbrev quietuslaw42_do_r5 : List AI := [
  ⟨some 32, .bin .eql (.t 18) (.c (.int .u8 1)), none⟩,
  ⟨some 31, .mv true (.t 32), none⟩]
abbrev quietuslaw42_do_r6 : List AI := [
  ⟨some 34, .load true 3 (.t 2) .any, none⟩,
  ⟨some 35, .faddr 2 (.t 3), none⟩,
  ⟨some 36, .load true 7 (.t 35) .any, none⟩,
  ⟨some 37, .call (.c (.fn f_cache_Put)) [(.t 34), (.t 36)] 0, none⟩,
  ⟨some 33, .mv false (.t 37), none⟩,
  ⟨some 38, .ext (.t 33) 0, none⟩,
  ⟨some 39, .ext (.t 33) 1, none⟩,
  ⟨some 40, .ext (.t 33) 2, none⟩,
  ⟨some 7, .alloc [(.int .i64 0), (.int .i64 0), .nilS], none⟩,
  ⟨none, .store 3 (.t 7) (.t 38) .any, none⟩,
  ⟨some 8, .mv true (.t 39), none⟩,
  ⟨some 9, .mv true (.t 40), none⟩]
abbrev quietuslaw42_do_r7 : List AI := [
  ⟨some 41, .load true 3 (.t 7) .any, none⟩,
  ⟨some 42, .mv false (.t 8), none⟩,
  ⟨some 43, .mv false (.t 9), none⟩,
  ⟨some 44, .build [(.int .i64 0), (.int .i64 0), .nilS, .nilS, (.str []), (.int .i64 0), (.int .i64 0)] [(0, 3, (.t 41)), (3, 1, (.t 42)), (6, 1, (.t 43))], none⟩,
  ⟨none, .store 7 (.t 4) (.t 44) .any, none⟩]
abbrev quietuslaw42_do_b1 : ACode := .seq (.reg false quietuslaw42_do_r6) (.seq (.reg false quietuslaw42_do_r7) (.ret))
abbrev quietuslaw42_do_r8 : List AI := [
  ⟨some 46, .bin .eql (.t 18) (.c (.int .u8 2)), none⟩,
  ⟨some 45, .mv true (.t 46), none⟩]
abbrev quietuslaw42_do_r9 : List AI := [
  ⟨some 48, .load true 3 (.t 2) .any, none⟩,
  ⟨some 49, .faddr 2 (.t 3), none⟩,
  ⟨some 50, .faddr 0 (.t 49), none⟩,
  ⟨some 51, .load false 1 (.t 50) .any, none⟩,
  ⟨some 52, .faddr 2 (.t 3), none⟩,
  ⟨some 53, .faddr 1 (.t 52), none⟩,
  ⟨some 54, .load false 1 (.t 53) .any, none⟩,
  ⟨some 55, .faddr 1 (.t 3), none⟩,
  ⟨some 56, .load false 1 (.t 55) .any, none⟩,
  ⟨some 57, .call (.c (.fn f_cache_Get)) [(.t 48), (.t 51), (.t 54), (.t 56)] 0, none⟩,
  ⟨some 47, .mv false (.t 57), none⟩,
  ⟨some 58, .ext (.t 47) 0, none⟩,
  ⟨some 59, .ext (.t 47) 1, none⟩,
  ⟨some 60, .ext (.t 47) 2, none⟩,
  ⟨some 11, .alloc [(.int .i64 0), (.int .i64 0), .nilS], none⟩,
  ⟨some 10, .mv true (.t 58), none⟩,
  ⟨none, .store 3 (.t 11) (.t 59) .any, none⟩,
  ⟨some 12, .mv true (.t 60), none⟩]
abbrev quietuslaw42_do_r10 : List AI := [
  ⟨some 61, .load true 3 (.t 11) .any, none⟩,
  ⟨some 62, .mv false (.t 10), none⟩,
  ⟨some 63, .mv false (.t 12), none⟩,
  ⟨some 64, .build [(.int .i64 0), (.int .i64 0), .nilS, .nilS, (.str []), (.int .i64 0), (.int .i64 0)] [(0, 3, (.t 61)), (4, 1, (.t 62)), (6, 1, (.t 63))], none⟩,
  ⟨none, .store 7 (.t 4) (.t 64) .any, none⟩]
abbrev quietuslaw42_do_b2 : ACode := .seq (.reg false quietuslaw42_do_r9) (.seq (.reg false quietuslaw42_do_r10) (.ret))
abbrev quietuslaw42_do_b3 : ACode := .seq (.reg false quietuslaw42_do_r8) (.cond (.t 45) (quietuslaw42_do_b2) (.skip))
abbrev quietuslaw42_do_b4 : ACode := .seq (.reg false quietuslaw42_do_r5) (.cond (.t 31) (quietuslaw42_do_b1) (quietuslaw42_do_b3))
abbrev quietuslaw42_do_r11 : List AI := [
  ⟨some 66, .load true 3 (.t 2) .any, none⟩,
  ⟨some 67, .faddr 2 (.t 3), none⟩,
  ⟨some 68, .faddr 0 (.t 67), none⟩,
  ⟨some 69, .load false 1 (.t 68) .any, none⟩,
  ⟨some 70, .call (.c (.fn f_cache_Forget)) [(.t 66), (.t 69)] 0, none⟩,
  ⟨some 65, .mv false (.t 70), none⟩,
  ⟨some 71, .ext (.t 65) 0, none⟩,
  ⟨some 72, .ext (.t 65) 1, none⟩,
  ⟨some 73, .ext (.t 65) 2, none⟩,
  ⟨some 13, .alloc [(.int .i64 0), (.int .i64 0), .nilS], none⟩,
  ⟨none, .store 3 (.t 13) (.t 71) .any, none⟩,
  ⟨some 14, .mv true (.t 72), none⟩,
  ⟨some 15, .mv true (.t 73), none⟩]
abbrev quietuslaw42_do_r12 : List AI := [
  ⟨some 74, .load true 3 (.t 13) .any, none⟩,
  ⟨some 75, .mv false (.t 14), none⟩,
  ⟨some 76, .mv false (.t 15), none⟩,
  ⟨some 77, .build [(.int .i64 0), (.int .i64 0), .nilS, .nilS, (.str []), (.int .i64 0), (.int .i64 0)] [(0, 3, (.t 74)), (5, 1, (.t 75)), (6, 1, (.t 76))], none⟩,
  ⟨none, .store 7 (.t 4) (.t 77) .any, none⟩]
abbrev quietuslaw42_do_c : ACode := .seq (.reg false quietuslaw42_do_r0) (.seq (.seq (.reg false quietuslaw42_do_r1) (.block 0 (.seq (.reg false quietuslaw42_do_r2) (.cond (.t 19) (quietuslaw42_do_b0) (quietuslaw42_do_b4))))) (.seq (.reg false quietuslaw42_do_r11) (.seq (.reg false quietuslaw42_do_r12) (.ret))))
def quietuslaw42_do_F : AFunc := ⟨78, [.cell 4 true 7], quietuslaw42_do_c⟩

theorem quietuslaw42_do_cp : compile Try.prog [] f_quietuslaw42_do = some quietuslaw42_do_F := by kernel_rfl

abbrev quietusref42_Do_r0 : List AI := [
  ⟨some 2, .box 3 (.t 0), none⟩,
  ⟨some 3, .box 9 (.t 1), none⟩,
  ⟨some 4, .alloc [(.int .i64 0), (.int .i64 0), .nilS, .nilS, (.str []), (.int .i64 0), (.int .i64 0)], none⟩]
abbrev quietusref42_Do_r1 : List AI := [
  ⟨some 5, .faddr 0 (.t 3), none⟩,
  ⟨some 6, .load false 1 (.t 5) .any, none⟩,
  ⟨some 7, .bin .rem (.t 6) (.c (.int .u8 4)), none⟩]
abbrev quietusref42_Do_r2 : List AI := [
  ⟨some 9, .bin .eql (.t 7) (.c (.int .u8 0)), none⟩,
  ⟨some 8, .mv true (.t 9), none⟩]
abbrev quietusref42_Do_r3 : List AI := [
  ⟨some 10, .load true 3 (.t 2) .any, none⟩,
  ⟨some 11, .faddr 1 (.t 3), none⟩,
  ⟨some 12, .load false 1 (.t 11) .any, none⟩,
  ⟨some 13, .call (.c (.fn f_quietusref42_Tick)) [(.t 10), (.t 12)] 0, none⟩,
  ⟨none, .store 7 (.t 4) (.t 13) .any, none⟩]
abbrev quietusref42_Do_r4 : List AI := [
  ⟨some 15, .bin .eql (.t 7) (.c (.int .u8 1)), none⟩,
  ⟨some 14, .mv true (.t 15), none⟩]
abbrev quietusref42_Do_r5 : List AI := [
  ⟨some 16, .load true 3 (.t 2) .any, none⟩,
  ⟨some 17, .faddr 2 (.t 3), none⟩,
  ⟨some 18, .load true 7 (.t 17) .any, none⟩,
  ⟨some 19, .call (.c (.fn f_quietusref42_Put)) [(.t 16), (.t 18)] 0, none⟩,
  ⟨none, .store 7 (.t 4) (.t 19) .any, none⟩]
abbrev quietusref42_Do_r6 : List AI := [
  ⟨some 21, .bin .eql (.t 7) (.c (.int .u8 2)), none⟩,
  ⟨some 20, .mv true (.t 21), none⟩]
abbrev quietusref42_Do_r7 : List AI := [
  ⟨some 22, .load true 3 (.t 2) .any, none⟩,
  ⟨some 23, .faddr 2 (.t 3), none⟩,
  ⟨some 24, .faddr 0 (.t 23), none⟩,
  ⟨some 25, .load false 1 (.t 24) .any, none⟩,
  ⟨some 26, .faddr 2 (.t 3), none⟩,
  ⟨some 27, .faddr 1 (.t 26), none⟩,
  ⟨some 28, .load false 1 (.t 27) .any, none⟩,
  ⟨some 29, .faddr 1 (.t 3), none⟩,
  ⟨some 30, .load false 1 (.t 29) .any, none⟩,
  ⟨some 31, .call (.c (.fn f_quietusref42_Get)) [(.t 22), (.t 25), (.t 28), (.t 30)] 0, none⟩,
  ⟨none, .store 7 (.t 4) (.t 31) .any, none⟩]
abbrev quietusref42_Do_b0 : ACode := .seq (.reg false quietusref42_Do_r6) (.cond (.t 20) (.seq (.reg false quietusref42_Do_r7) (.ret)) (.skip))
abbrev quietusref42_Do_b1 : ACode := .seq (.reg false quietusref42_Do_r4) (.cond (.t 14) (.seq (.reg false quietusref42_Do_r5) (.ret)) (quietusref42_Do_b0))
abbrev quietusref42_Do_r8 : List AI := [
  ⟨some 32, .load true 3 (.t 2) .any, none⟩,
  ⟨some 33, .faddr 2 (.t 3), none⟩,
  ⟨some 34, .faddr 0 (.t 33), none⟩,
  ⟨some 35, .load false 1 (.t 34) .any, none⟩,
  ⟨some 36, .call (.c (.fn f_quietusref42_Forget)) [(.t 32), (.t 35)] 0, none⟩,
  ⟨none, .store 7 (.t 4) (.t 36) .any, none⟩]
abbrev quietusref42_Do_c : ACode := .seq (.reg false quietusref42_Do_r0) (.seq (.seq (.reg false quietusref42_Do_r1) (.block 0 (.seq (.reg false quietusref42_Do_r2) (.cond (.t 8) (.seq (.reg false quietusref42_Do_r3) (.ret)) (quietusref42_Do_b1))))) (.seq (.reg false quietusref42_Do_r8) (.ret)))
def quietusref42_Do_F : AFunc := ⟨37, [.cell 4 true 7], quietusref42_Do_c⟩

theorem quietusref42_Do_cp : compile Try.prog [] f_quietusref42_Do = some quietusref42_Do_F := by kernel_rfl

abbrev quietuslaw42_few_r0 : List AI := [
  ⟨some 2, .mv true (.c (.bool false)), none⟩]
abbrev quietuslaw42_few_r1 : List AI := [
  ⟨some 4, .mv false (.t 0), none⟩,
  ⟨some 5, .len false (.t 4), none⟩,
  ⟨some 6, .bin .gtr (.t 5) (.c (.int .i64 40)), none⟩]
abbrev quietuslaw42_few_r2 : List AI := [
  ⟨some 2, .mv true (.c (.bool false)), none⟩]
abbrev quietuslaw42_few_r3 : List AI := [
  ⟨some 3, .mv true (.c (.int .i64 0)), none⟩]
abbrev quietuslaw42_few_r4 : List AI := [
  ⟨some 7, .mv false (.t 3), none⟩,
  ⟨some 8, .mv false (.t 0), none⟩,
  ⟨some 9, .len false (.t 8), none⟩,
  ⟨some 10, .bin .lss (.t 7) (.t 9), none⟩]
abbrev quietuslaw42_few_r5 : List AI := [
  ⟨some 13, .mv false (.t 0), none⟩,
  ⟨some 14, .mv false (.t 3), none⟩,
  ⟨some 15, .iaddr 9 (.t 13) (.t 14), none⟩,
  ⟨some 16, .faddr 2 (.t 15), none⟩,
  ⟨some 17, .faddr 3 (.t 16), none⟩,
  ⟨some 18, .load false 1 (.t 17) .any, none⟩,
  ⟨some 19, .len true (.t 18), none⟩,
  ⟨some 20, .bin .gtr (.t 19) (.c (.int .i64 60)), none⟩]
abbrev quietuslaw42_few_r6 : List AI := [
  ⟨some 2, .mv true (.c (.bool false)), none⟩]
abbrev quietuslaw42_few_r7 : List AI := [
  ⟨some 11, .mv false (.t 3), none⟩,
  ⟨some 12, .bin .add (.t 11) (.c (.int .i64 1)), none⟩,
  ⟨some 3, .mv true (.t 12), none⟩]
abbrev quietuslaw42_few_l0 : ACode := .seq (.seq (.reg false quietuslaw42_few_r4) (.cond (.t 10) (.skip) (.exit 0))) (.seq (.block 1 (.seq (.reg false quietuslaw42_few_r5) (.cond (.t 20) (.seq (.reg false quietuslaw42_few_r6) (.ret)) (.skip)))) (.reg false quietuslaw42_few_r7))
abbrev quietuslaw42_few_r8 : List AI := [
  ⟨some 2, .mv true (.c (.bool true)), none⟩]
abbrev quietuslaw42_few_c : ACode := .seq (.reg false quietuslaw42_few_r0) (.seq (.seq (.reg false quietuslaw42_few_r1) (.cond (.t 6) (.seq (.reg false quietuslaw42_few_r2) (.ret)) (.skip))) (.seq (.seq (.reg false quietuslaw42_few_r3) (.block 0 (.loop quietuslaw42_few_l0))) (.seq (.reg false quietuslaw42_few_r8) (.ret))))
def quietuslaw42_few_F : AFunc := ⟨21, [.tmp 2], quietuslaw42_few_c⟩

theorem quietuslaw42_few_cp : compile Try.prog [] f_quietuslaw42_few = some quietuslaw42_few_F := by kernel_rfl

abbrev quietusref42_Find_r0 : List AI := [
  ⟨some 6, .mv true (.c (.int .i64 0)), none⟩]
abbrev quietusref42_Find_r1 : List AI := [
  ⟨some 7, .mv true (.c (.int .i64 0)), none⟩]
abbrev quietusref42_Find_r2 : List AI := [
  ⟨some 8, .mv false (.t 7), none⟩,
  ⟨some 9, .mv false (.t 0), none⟩,
  ⟨some 10, .len false (.t 9), none⟩,
  ⟨some 11, .bin .lss (.t 8) (.t 10), none⟩]
abbrev quietusref42_Find_r3 : List AI := [
  ⟨some 14, .mv false (.t 0), none⟩,
  ⟨some 15, .mv false (.t 7), none⟩,
  ⟨some 16, .iaddr 7 (.t 14) (.t 15), none⟩,
  ⟨some 17, .faddr 0 (.t 16), none⟩,
  ⟨some 18, .load false 1 (.t 17) .any, none⟩,
  ⟨some 19, .mv false (.t 1), none⟩,
  ⟨some 20, .bin .eql (.t 18) (.t 19), none⟩,
  ⟨some 21, .mv false (.t 20), none⟩,
  ⟨some 22, .mv false (.t 0), some (21, true)⟩,
  ⟨some 23, .mv false (.t 7), some (21, true)⟩,
  ⟨some 24, .iaddr 7 (.t 22) (.t 23), some (21, true)⟩,
  ⟨some 25, .faddr 1 (.t 24), some (21, true)⟩,
  ⟨some 26, .load false 1 (.t 25) .any, some (21, true)⟩,
  ⟨some 27, .mv false (.t 2), some (21, true)⟩,
  ⟨some 28, .bin .eql (.t 26) (.t 27), some (21, true)⟩,
  ⟨some 29, .pick (.t 21) (.t 28) (.c (.bool false)), none⟩]
abbrev quietusref42_Find_r4 : List AI := [
  ⟨some 30, .mv false (.t 7), none⟩,
  ⟨some 6, .mv true (.t 30), none⟩]
abbrev quietusref42_Find_r5 : List AI := [
  ⟨some 12, .mv false (.t 7), none⟩,
  ⟨some 13, .bin .add (.t 12) (.c (.int .i64 1)), none⟩,
  ⟨some 7, .mv true (.t 13), none⟩]
abbrev quietusref42_Find_l0 : ACode := .seq (.seq (.reg false quietusref42_Find_r2) (.cond (.t 11) (.skip) (.exit 0))) (.seq (.block 1 (.seq (.reg false quietusref42_Find_r3) (.cond (.t 29) (.seq (.reg false quietusref42_Find_r4) (.ret)) (.skip)))) (.reg false quietusref42_Find_r5))
abbrev quietusref42_Find_r6 : List AI := [
  ⟨some 6, .mv true (.c (.int .i64 (-1))), none⟩]
abbrev quietusref42_Find_c : ACode := .seq (.reg false quietusref42_Find_r0) (.seq (.seq (.reg false quietusref42_Find_r1) (.block 0 (.loop quietusref42_Find_l0))) (.seq (.reg false quietusref42_Find_r6) (.ret)))
def quietusref42_Find_F : AFunc := ⟨31, [.tmp 6], quietusref42_Find_c⟩

theorem quietusref42_Find_cp : compile Try.prog [] f_quietusref42_Find = some quietusref42_Find_F := by kernel_rfl

abbrev cache_Put_r0 : List AI := [
  ⟨some 2, .box 3 (.t 0), none⟩,
  ⟨some 3, .box 7 (.t 1), none⟩,
  ⟨some 4, .alloc [(.int .i64 0), (.int .i64 0), .nilS], none⟩,
  ⟨some 5, .mv true (.c .nilS), none⟩,
  ⟨some 6, .mv true (.c (.int .i64 0)), none⟩]
abbrev cache_Put_r1 : List AI := [
  ⟨some 16, .load true 3 (.t 2) .any, none⟩,
  ⟨some 17, .call (.c (.fn f_cache_Check)) [(.t 16)] 0, none⟩,
  ⟨some 7, .mv true (.t 17), none⟩]
abbrev cache_Put_r2 : List AI := [
  ⟨some 18, .mv false (.t 7), none⟩,
  ⟨some 19, .bin .neq (.t 18) (.c (.int .i64 0)), none⟩]
abbrev cache_Put_r3 : List AI := [
  ⟨some 20, .load true 3 (.t 2) .any, none⟩,
  ⟨some 21, .mv false (.t 7), none⟩,
  ⟨none, .store 3 (.t 4) (.t 20) .any, none⟩,
  ⟨some 5, .mv true (.c .nilS), none⟩,
  ⟨some 6, .mv true (.t 21), none⟩]
abbrev cache_Put_r4 : List AI := [
  ⟨some 22, .load true 7 (.t 3) .any, none⟩,
  ⟨some 23, .faddr 1 (.t 2), none⟩,
  ⟨some 24, .load false 1 (.t 23) .any, none⟩,
  ⟨some 25, .call (.c (.fn f_cache_right)) [(.t 22), (.t 24)] 0, none⟩,
  ⟨some 26, .not (.t 25), none⟩]
abbrev cache_Put_r5 : List AI := [
  ⟨some 27, .load true 3 (.t 2) .any, none⟩,
  ⟨none, .store 3 (.t 4) (.t 27) .any, none⟩,
  ⟨some 5, .mv true (.c .nilS), none⟩,
  ⟨some 6, .mv true (.c (.int .i64 1)), none⟩]
abbrev cache_Put_r6 : List AI := [
  ⟨some 28, .faddr 5 (.t 3), none⟩,
  ⟨some 29, .load false 1 (.t 28) .any, none⟩,
  ⟨some 30, .faddr 1 (.t 2), none⟩,
  ⟨some 31, .load false 1 (.t 30) .any, none⟩,
  ⟨some 32, .bin .lss (.t 29) (.t 31), none⟩]
abbrev cache_Put_r7 : List AI := [
  ⟨some 33, .load true 3 (.t 2) .any, none⟩,
  ⟨none, .store 3 (.t 4) (.t 33) .any, none⟩,
  ⟨some 5, .mv true (.c .nilS), none⟩,
  ⟨some 6, .mv true (.c (.int .i64 18)), none⟩]
abbrev cache_Put_r8 : List AI := [
  ⟨some 35, .load true 3 (.t 2) .any, none⟩,
  ⟨some 36, .faddr 0 (.t 3), none⟩,
  ⟨some 37, .load false 1 (.t 36) .any, none⟩,
  ⟨some 38, .faddr 1 (.t 3), none⟩,
  ⟨some 39, .load false 1 (.t 38) .any, none⟩,
  ⟨some 40, .call (.c (.fn f_cache_find)) [(.t 35), (.t 37), (.t 39)] 0, none⟩,
  ⟨some 34, .mv false (.t 40), none⟩,
  ⟨some 41, .ext (.t 34) 0, none⟩,
  ⟨some 42, .ext (.t 34) 1, none⟩,
  ⟨some 8, .mv true (.t 41), none⟩,
  ⟨some 9, .mv true (.t 42), none⟩]
abbrev cache_Put_r9 : List AI := [
  ⟨some 43, .mv false (.t 9), none⟩]
abbrev cache_Put_r10 : List AI := [
  ⟨some 44, .faddr 2 (.t 2), none⟩,
  ⟨some 45, .load false 1 (.t 44) .any, none⟩,
  ⟨some 46, .mv false (.t 8), none⟩,
  ⟨some 47, .iaddr 7 (.t 45) (.t 46), none⟩,
  ⟨some 48, .load true 7 (.t 47) .any, none⟩,
  ⟨some 10, .alloc [(.int .i64 0), (.int .i64 0), (.int .i64 0), (.str []), (.int .i64 0), (.int .i64 0), (.int .i64 0)], none⟩,
  ⟨none, .store 7 (.t 10) (.t 48) .any, none⟩]
abbrev cache_Put_r11 : List AI := [
  ⟨some 49, .faddr 2 (.t 10), none⟩,
  ⟨some 50, .load false 1 (.t 49) .any, none⟩,
  ⟨some 51, .faddr 2 (.t 3), none⟩,
  ⟨some 52, .load false 1 (.t 51) .any, none⟩,
  ⟨some 53, .bin .gtr (.t 50) (.t 52), none⟩,
  ⟨some 54, .mv false (.t 53), none⟩,
  ⟨some 55, .faddr 2 (.t 10), some (54, false)⟩,
  ⟨some 56, .load false 1 (.t 55) .any, some (54, false)⟩,
  ⟨some 57, .faddr 2 (.t 3), some (54, false)⟩,
  ⟨some 58, .load false 1 (.t 57) .any, some (54, false)⟩,
  ⟨some 59, .bin .eql (.t 56) (.t 58), some (54, false)⟩,
  ⟨some 60, .mv false (.t 59), some (54, false)⟩,
  ⟨some 61, .faddr 4 (.t 10), some (60, true)⟩,
  ⟨some 62, .load false 1 (.t 61) .any, some (60, true)⟩,
  ⟨some 63, .faddr 4 (.t 3), some (60, true)⟩,
  ⟨some 64, .load false 1 (.t 63) .any, some (60, true)⟩,
  ⟨some 65, .bin .gtr (.t 62) (.t 64), some (60, true)⟩,
  ⟨some 66, .pick (.t 60) (.t 65) (.c (.bool false)), some (54, false)⟩,
  ⟨some 67, .pick (.t 54) (.c (.bool true)) (.t 66), none⟩]
abbrev cache_Put_r12 : List AI := [
  ⟨some 68, .load true 3 (.t 2) .any, none⟩,
  ⟨none, .store 3 (.t 4) (.t 68) .any, none⟩,
  ⟨some 5, .mv true (.c .nilS), none⟩,
  ⟨some 6, .mv true (.c (.int .i64 15)), none⟩]
abbrev cache_Put_b0 : ACode := .seq (.reg false cache_Put_r10) (.seq (.reg false cache_Put_r11) (.cond (.t 67) (.seq (.reg false cache_Put_r12) (.ret)) (.skip)))
abbrev cache_Put_r13 : List AI := [
  ⟨some 69, .faddr 3 (.t 3), none⟩,
  ⟨some 70, .load false 1 (.t 69) .any, none⟩,
  ⟨some 71, .len true (.t 70), none⟩,
  ⟨some 72, .faddr 0 (.t 2), none⟩,
  ⟨some 73, .load false 1 (.t 72) .any, none⟩,
  ⟨some 74, .bin .gtr (.t 71) (.t 73), none⟩]
abbrev cache_Put_r14 : List AI := [
  ⟨some 75, .load true 3 (.t 2) .any, none⟩,
  ⟨none, .store 3 (.t 4) (.t 75) .any, none⟩,
  ⟨some 5, .mv true (.c .nilS), none⟩,
  ⟨some 6, .mv true (.c (.int .i64 13)), none⟩]
abbrev cache_Put_r15 : List AI := [
  ⟨some 76, .faddr 1 (.t 2), none⟩,
  ⟨some 77, .load false 1 (.t 76) .any, none⟩,
  ⟨some 78, .faddr 6 (.t 3), none⟩,
  ⟨none, .store 1 (.t 78) (.t 77) .any, none⟩]
abbrev cache_Put_r16 : List AI := [
  ⟨some 79, .faddr 2 (.t 2), none⟩,
  ⟨some 80, .load false 1 (.t 79) .any, none⟩,
  ⟨some 81, .call (.c (.fn f_slices_Clone_api_Kept_api_Kept)) [(.t 80)] 0, none⟩,
  ⟨some 11, .mv true (.t 81), none⟩]
abbrev cache_Put_r17 : List AI := [
  ⟨some 82, .mv false (.t 9), none⟩]
abbrev cache_Put_r18 : List AI := [
  ⟨some 83, .mv false (.t 11), none⟩,
  ⟨some 84, .mv false (.t 8), none⟩,
  ⟨some 85, .load true 7 (.t 3) .any, none⟩,
  ⟨some 86, .iaddr 7 (.t 83) (.t 84), none⟩,
  ⟨none, .store 7 (.t 86) (.t 85) .any, none⟩]
abbrev cache_Put_r19 : List AI := [
  ⟨some 87, .mv false (.t 11), none⟩,
  ⟨some 88, .mv false (.t 8), none⟩,
  ⟨some 89, .load true 7 (.t 3) .any, none⟩,
  ⟨some 90, .mkslice 7 1 (.agg [(.int .i64 0), (.int .i64 0), (.int .i64 0), (.str []), (.int .i64 0), (.int .i64 0), (.int .i64 0)]) [(0, (.t 89))], none⟩,
  ⟨some 91, .call (.c (.fn f_slices_Insert_api_Kept_api_Kept)) [(.t 87), (.t 88), (.t 90)] 0, none⟩,
  ⟨some 11, .mv true (.t 91), none⟩]
abbrev cache_Put_r20 : List AI := [
  ⟨some 12, .mv true (.c .nilS), none⟩]
abbrev cache_Put_r21 : List AI := [
  ⟨some 92, .mv false (.t 11), none⟩,
  ⟨some 94, .faddr 0 (.t 2), none⟩,
  ⟨some 95, .load false 1 (.t 94) (.site 2), none⟩,
  ⟨some 93, .call (.c (.fn f_cache_total)) [(.t 92)] 2, none⟩,
  ⟨some 96, .bin .gtr (.t 93) (.t 95), none⟩]
abbrev cache_Put_r22 : List AI := [
  ⟨some 13, .mv true (.c (.int .i64 (-1))), none⟩]
abbrev cache_Put_r23 : List AI := [
  ⟨some 97, .mv false (.t 11), none⟩,
  ⟨some 98, .len false (.t 97), none⟩,
  ⟨some 99, .mv false (.c (.int .i64 0)), none⟩]
abbrev cache_Put_r24 : List AI := [
  ⟨some 100, .bin .lss (.t 99) (.t 98), none⟩]
abbrev cache_Put_r25 : List AI := [
  ⟨some 101, .mv false (.t 99), none⟩,
  ⟨some 102, .iaddr 7 (.t 97) (.t 99), none⟩,
  ⟨some 103, .load true 7 (.t 102) .any, none⟩,
  ⟨some 15, .alloc [(.int .i64 0), (.int .i64 0), (.int .i64 0), (.str []), (.int .i64 0), (.int .i64 0), (.int .i64 0)], none⟩,
  ⟨some 14, .mv true (.t 101), none⟩,
  ⟨none, .store 7 (.t 15) (.t 103) .any, none⟩]
abbrev cache_Put_r26 : List AI := [
  ⟨some 104, .load true 7 (.t 15) (.site 15), none⟩,
  ⟨some 105, .load true 7 (.t 3) (.site 3), none⟩,
  ⟨some 106, .call (.c (.fn f_cache_compare)) [(.t 104), (.t 105)] 1, none⟩,
  ⟨some 107, .bin .neq (.t 106) (.c (.int .i64 0)), none⟩,
  ⟨some 108, .mv false (.t 107), none⟩,
  ⟨some 109, .mv false (.t 13), some (108, true)⟩,
  ⟨some 110, .bin .lss (.t 109) (.c (.int .i64 0)), some (108, true)⟩,
  ⟨some 111, .mv false (.t 110), some (108, true)⟩,
  ⟨some 112, .faddr 6 (.t 15), some (111, false)⟩,
  ⟨some 113, .load false 1 (.t 112) (.site 15), some (111, false)⟩,
  ⟨some 114, .mv false (.t 11), some (111, false)⟩,
  ⟨some 115, .mv false (.t 13), some (111, false)⟩,
  ⟨some 116, .iaddr 7 (.t 114) (.t 115), some (111, false)⟩,
  ⟨some 117, .faddr 6 (.t 116), some (111, false)⟩,
  ⟨some 118, .load false 1 (.t 117) .foreign, some (111, false)⟩,
  ⟨some 119, .bin .lss (.t 113) (.t 118), some (111, false)⟩,
  ⟨some 120, .pick (.t 111) (.c (.bool true)) (.t 119), some (108, true)⟩,
  ⟨some 121, .pick (.t 108) (.t 120) (.c (.bool false)), none⟩]
abbrev cache_Put_r27 : List AI := [
  ⟨some 122, .mv false (.t 14), none⟩,
  ⟨some 13, .mv true (.t 122), none⟩]
abbrev cache_Put_r28 : List AI := [
  ⟨some 123, .bin .add (.t 99) (.c (.int .i64 1)), none⟩,
  ⟨some 99, .mv false (.t 123), none⟩]
abbrev cache_Put_l0 : ACode := .seq (.reg false cache_Put_r24) (.seq (.cond (.t 100) (.skip) (.exit 2)) (.seq (.block 3 (.seq (.reg false cache_Put_r25) (.seq (.reg true cache_Put_r26) (.cond (.t 121) (.reg false cache_Put_r27) (.skip))))) (.reg false cache_Put_r28)))
abbrev cache_Put_r29 : List AI := [
  ⟨some 124, .mv true (.t 12), none⟩,
  ⟨some 125, .mv false (.t 11), none⟩,
  ⟨some 126, .mv false (.t 13), none⟩,
  ⟨some 127, .iaddr 7 (.t 125) (.t 126), none⟩,
  ⟨some 128, .load true 7 (.t 127) .any, none⟩,
  ⟨some 129, .mkslice 7 1 (.agg [(.int .i64 0), (.int .i64 0), (.int .i64 0), (.str []), (.int .i64 0), (.int .i64 0), (.int .i64 0)]) [(0, (.t 128))], none⟩,
  ⟨some 130, .append 7 64 (.t 124) (.t 129), none⟩,
  ⟨some 12, .mv true (.t 130), none⟩]
abbrev cache_Put_r30 : List AI := [
  ⟨some 131, .mv false (.t 11), none⟩,
  ⟨some 132, .mv false (.t 13), none⟩,
  ⟨some 133, .mv false (.t 13), none⟩,
  ⟨some 134, .sl3 7 (.t 131) none (.t 132) (.t 133), none⟩,
  ⟨some 135, .mv false (.t 11), none⟩,
  ⟨some 136, .mv false (.t 13), none⟩,
  ⟨some 137, .bin .add (.t 136) (.c (.int .i64 1)), none⟩,
  ⟨some 138, .sl 7 (.t 135) (some (.t 137)) none, none⟩,
  ⟨some 139, .appG 7 64 [(.int .i64 0), (.int .i64 0), (.int .i64 0), (.str []), (.int .i64 0), (.int .i64 0), (.int .i64 0)] (.t 134) (.t 138), none⟩,
  ⟨some 11, .mv true (.t 139), none⟩]
abbrev cache_Put_l1 : ACode := .seq (.seq (.reg true cache_Put_r21) (.cond (.t 96) (.skip) (.exit 0))) (.block 1 (.seq (.reg false cache_Put_r22) (.seq (.seq (.reg false cache_Put_r23) (.block 2 (.loop cache_Put_l0))) (.seq (.reg false cache_Put_r29) (.reg true cache_Put_r30)))))
abbrev cache_Put_r31 : List AI := [
  ⟨some 140, .faddr 0 (.t 2), none⟩,
  ⟨some 141, .load false 1 (.t 140) .any, none⟩,
  ⟨some 142, .faddr 1 (.t 2), none⟩,
  ⟨some 143, .load false 1 (.t 142) .any, none⟩,
  ⟨some 144, .mv false (.t 11), none⟩,
  ⟨some 145, .build [(.int .i64 0), (.int .i64 0), .nilS] [(0, 1, (.t 141)), (1, 1, (.t 143)), (2, 1, (.t 144))], none⟩,
  ⟨some 146, .mv false (.t 12), none⟩,
  ⟨none, .store 3 (.t 4) (.t 145) .any, none⟩,
  ⟨some 5, .mv true (.t 146), none⟩,
  ⟨some 6, .mv true (.c (.int .i64 0)), none⟩]
abbrev cache_Put_c : ACode := .seq (.reg false cache_Put_r0) (.seq (.seq (.reg false cache_Put_r1) (.seq (.reg false cache_Put_r2) (.cond (.t 19) (.seq (.reg false cache_Put_r3) (.ret)) (.skip)))) (.seq (.seq (.reg false cache_Put_r4) (.cond (.t 26) (.seq (.reg false cache_Put_r5) (.ret)) (.skip))) (.seq (.seq (.reg false cache_Put_r6) (.cond (.t 32) (.seq (.reg false cache_Put_r7) (.ret)) (.skip))) (.seq (.reg false cache_Put_r8) (.seq (.seq (.reg false cache_Put_r9) (.cond (.t 43) (cache_Put_b0) (.skip))) (.seq (.seq (.reg false cache_Put_r13) (.cond (.t 74) (.seq (.reg false cache_Put_r14) (.ret)) (.skip))) (.seq (.reg false cache_Put_r15) (.seq (.reg false cache_Put_r16) (.seq (.seq (.reg false cache_Put_r17) (.cond (.t 82) (.reg false cache_Put_r18) (.reg false cache_Put_r19))) (.seq (.reg false cache_Put_r20) (.seq (.block 0 (.loop cache_Put_l1)) (.seq (.reg false cache_Put_r31) (.ret)))))))))))))
def cache_Put_F : AFunc := ⟨147, [.cell 4 true 3, .tmp 5, .tmp 6], cache_Put_c⟩

theorem cache_Put_cp : compile Try.prog [139] f_cache_Put = some cache_Put_F := by kernel_rfl

abbrev quietuslaw42_item_r0 : List AI := [
  ⟨some 10, .alloc [(.int .i64 0), (.int .i64 0), (.int .i64 0), (.str []), (.int .i64 0), (.int .i64 0), (.int .i64 0)], none⟩]
abbrev quietuslaw42_item_r1 : List AI := [
  ⟨some 11, .mv false (.t 0), none⟩,
  ⟨some 12, .mv false (.t 1), none⟩,
  ⟨some 13, .mv false (.t 2), none⟩,
  ⟨some 14, .mv false (.t 3), none⟩,
  ⟨some 15, .mv false (.t 4), none⟩,
  ⟨some 16, .build [(.int .i64 0), (.int .i64 0), (.int .i64 0), (.str []), (.int .i64 0), (.int .i64 0), (.int .i64 0)] [(0, 1, (.t 11)), (1, 1, (.t 12)), (2, 1, (.c (.int .i64 1))), (3, 1, (.t 13)), (4, 1, (.t 14)), (5, 1, (.t 15))], none⟩,
  ⟨none, .store 7 (.t 10) (.t 16) .any, none⟩]
abbrev quietuslaw42_item_c : ACode := .seq (.reg false quietuslaw42_item_r0) (.seq (.reg false quietuslaw42_item_r1) (.ret))
def quietuslaw42_item_F : AFunc := ⟨17, [.cell 10 true 7], quietuslaw42_item_c⟩

theorem quietuslaw42_item_cp : compile Try.prog [] f_quietuslaw42_item = some quietuslaw42_item_F := by kernel_rfl

abbrev cache_Tick_r0 : List AI := [
  ⟨some 2, .box 3 (.t 0), none⟩,
  ⟨some 3, .box 1 (.t 1), none⟩,
  ⟨some 4, .alloc [(.int .i64 0), (.int .i64 0), .nilS], none⟩,
  ⟨some 5, .mv true (.c (.int .i64 0)), none⟩]
abbrev cache_Tick_r1 : List AI := [
  ⟨some 7, .load true 3 (.t 2) .any, none⟩,
  ⟨some 8, .call (.c (.fn f_cache_Check)) [(.t 7)] 0, none⟩,
  ⟨some 6, .mv true (.t 8), none⟩]
abbrev cache_Tick_r2 : List AI := [
  ⟨some 9, .mv false (.t 6), none⟩,
  ⟨some 10, .bin .neq (.t 9) (.c (.int .i64 0)), none⟩]
abbrev cache_Tick_r3 : List AI := [
  ⟨some 11, .load true 3 (.t 2) .any, none⟩,
  ⟨some 12, .mv false (.t 6), none⟩,
  ⟨none, .store 3 (.t 4) (.t 11) .any, none⟩,
  ⟨some 5, .mv true (.t 12), none⟩]
abbrev cache_Tick_r4 : List AI := [
  ⟨some 13, .load false 1 (.t 3) .any, none⟩,
  ⟨some 14, .faddr 1 (.t 2), none⟩,
  ⟨some 15, .load false 1 (.t 14) .any, none⟩,
  ⟨some 16, .bin .lss (.t 13) (.t 15), none⟩]
abbrev cache_Tick_r5 : List AI := [
  ⟨some 17, .load true 3 (.t 2) .any, none⟩,
  ⟨none, .store 3 (.t 4) (.t 17) .any, none⟩,
  ⟨some 5, .mv true (.c (.int .i64 15)), none⟩]
abbrev cache_Tick_r6 : List AI := [
  ⟨some 18, .load false 1 (.t 3) .any, none⟩,
  ⟨some 19, .bin .gtr (.t 18) (.c (.int .i64 1000000)), none⟩]
abbrev cache_Tick_r7 : List AI := [
  ⟨some 20, .load true 3 (.t 2) .any, none⟩,
  ⟨none, .store 3 (.t 4) (.t 20) .any, none⟩,
  ⟨some 5, .mv true (.c (.int .i64 3)), none⟩]
abbrev cache_Tick_r8 : List AI := [
  ⟨some 21, .faddr 0 (.t 2), none⟩,
  ⟨some 22, .load false 1 (.t 21) (.site 2), none⟩,
  ⟨some 23, .load false 1 (.t 3) (.site 3), none⟩,
  ⟨some 24, .faddr 2 (.t 2), none⟩,
  ⟨some 25, .load false 1 (.t 24) (.site 2), none⟩,
  ⟨some 26, .mkfunc f_cache_Tick_1 [(.t 3)], none⟩,
  ⟨some 27, .call (.c (.fn f_cache_keep_api_Kept)) [(.t 25), (.t 26)] 4, none⟩,
  ⟨some 28, .build [(.int .i64 0), (.int .i64 0), .nilS] [(0, 1, (.t 22)), (1, 1, (.t 23)), (2, 1, (.t 27))], none⟩,
  ⟨none, .store 3 (.t 4) (.t 28) (.site 4), none⟩,
  ⟨some 5, .mv true (.c (.int .i64 0)), none⟩]
abbrev cache_Tick_c : ACode := .seq (.reg false cache_Tick_r0) (.seq (.seq (.reg false cache_Tick_r1) (.seq (.reg false cache_Tick_r2) (.cond (.t 10) (.seq (.reg false cache_Tick_r3) (.ret)) (.skip)))) (.seq (.seq (.reg false cache_Tick_r4) (.cond (.t 16) (.seq (.reg false cache_Tick_r5) (.ret)) (.skip))) (.seq (.seq (.reg false cache_Tick_r6) (.cond (.t 19) (.seq (.reg false cache_Tick_r7) (.ret)) (.skip))) (.seq (.reg true cache_Tick_r8) (.ret)))))
def cache_Tick_F : AFunc := ⟨29, [.cell 4 true 3, .tmp 5], cache_Tick_c⟩

theorem cache_Tick_cp : compile Try.prog [] f_cache_Tick = some cache_Tick_F := by kernel_rfl

abbrev cache_Get_r0 : List AI := [
  ⟨some 4, .box 3 (.t 0), none⟩,
  ⟨some 8, .mv true (.c (.str [])), none⟩,
  ⟨some 9, .alloc [(.int .i64 0), (.int .i64 0), .nilS], none⟩,
  ⟨some 10, .mv true (.c (.int .i64 0)), none⟩]
abbrev cache_Get_r1 : List AI := [
  ⟨some 15, .load true 3 (.t 4) .any, none⟩,
  ⟨some 16, .call (.c (.fn f_cache_Check)) [(.t 15)] 0, none⟩,
  ⟨some 11, .mv true (.t 16), none⟩]
abbrev cache_Get_r2 : List AI := [
  ⟨some 17, .mv false (.t 11), none⟩,
  ⟨some 18, .bin .neq (.t 17) (.c (.int .i64 0)), none⟩]
abbrev cache_Get_r3 : List AI := [
  ⟨some 19, .load true 3 (.t 4) (.site 4), none⟩,
  ⟨some 20, .mv false (.t 11), none⟩,
  ⟨some 8, .mv true (.c (.str [])), none⟩,
  ⟨none, .store 3 (.t 9) (.t 19) (.site 9), none⟩,
  ⟨some 10, .mv true (.t 20), none⟩]
abbrev cache_Get_r4 : List AI := [
  ⟨some 22, .load true 3 (.t 4) .any, none⟩,
  ⟨some 23, .mv false (.t 1), none⟩,
  ⟨some 24, .mv false (.t 2), none⟩,
  ⟨some 25, .call (.c (.fn f_cache_find)) [(.t 22), (.t 23), (.t 24)] 0, none⟩,
  ⟨some 21, .mv false (.t 25), none⟩,
  ⟨some 26, .ext (.t 21) 0, none⟩,
  ⟨some 27, .ext (.t 21) 1, none⟩,
  ⟨some 12, .mv true (.t 26), none⟩,
  ⟨some 13, .mv true (.t 27), none⟩]
abbrev cache_Get_r5 : List AI := [
  ⟨some 28, .mv false (.t 13), none⟩,
  ⟨some 29, .not (.t 28), none⟩]
abbrev cache_Get_r6 : List AI := [
  ⟨some 30, .load true 3 (.t 4) (.site 4), none⟩,
  ⟨some 8, .mv true (.c (.str [])), none⟩,
  ⟨none, .store 3 (.t 9) (.t 30) (.site 9), none⟩,
  ⟨some 10, .mv true (.c (.int .i64 8)), none⟩]
abbrev cache_Get_r7 : List AI := [
  ⟨some 31, .faddr 1 (.t 4), none⟩,
  ⟨some 32, .load false 1 (.t 31) (.site 4), none⟩,
  ⟨some 33, .faddr 2 (.t 4), none⟩,
  ⟨some 34, .load false 1 (.t 33) (.site 4), none⟩,
  ⟨some 35, .mv false (.t 12), none⟩,
  ⟨some 36, .iaddr 7 (.t 34) (.t 35), none⟩,
  ⟨some 37, .faddr 4 (.t 36), none⟩,
  ⟨some 38, .load false 1 (.t 37) .foreign, none⟩,
  ⟨some 39, .bin .sub (.t 32) (.t 38), none⟩,
  ⟨some 40, .mv false (.t 3), none⟩,
  ⟨some 41, .bin .gtr (.t 39) (.t 40), none⟩]
abbrev cache_Get_r8 : List AI := [
  ⟨some 42, .load true 3 (.t 4) (.site 4), none⟩,
  ⟨some 8, .mv true (.c (.str [])), none⟩,
  ⟨none, .store 3 (.t 9) (.t 42) (.site 9), none⟩,
  ⟨some 10, .mv true (.c (.int .i64 15)), none⟩]
abbrev cache_Get_r9 : List AI := [
  ⟨some 43, .faddr 0 (.t 4), none⟩,
  ⟨some 44, .load false 1 (.t 43) (.site 4), none⟩,
  ⟨some 45, .faddr 1 (.t 4), none⟩,
  ⟨some 46, .load false 1 (.t 45) (.site 4), none⟩,
  ⟨some 47, .faddr 2 (.t 4), none⟩,
  ⟨some 48, .load false 1 (.t 47) (.site 4), none⟩,
  ⟨some 14, .alloc [(.int .i64 0), (.int .i64 0), .nilS], none⟩,
  ⟨some 49, .call (.c (.fn f_slices_Clone_api_Kept_api_Kept)) [(.t 48)] 2, none⟩,
  ⟨some 50, .build [(.int .i64 0), (.int .i64 0), .nilS] [(0, 1, (.t 44)), (1, 1, (.t 46)), (2, 1, (.t 49))], none⟩,
  ⟨none, .store 3 (.t 14) (.t 50) (.site 14), none⟩]
abbrev cache_Get_r10 : List AI := [
  ⟨some 51, .faddr 2 (.t 14), none⟩,
  ⟨some 52, .load false 1 (.t 51) .any, none⟩,
  ⟨some 53, .mv false (.t 12), none⟩,
  ⟨some 54, .faddr 1 (.t 4), none⟩,
  ⟨some 55, .load false 1 (.t 54) .any, none⟩,
  ⟨some 56, .iaddr 7 (.t 52) (.t 53), none⟩,
  ⟨some 57, .faddr 6 (.t 56), none⟩,
  ⟨none, .store 1 (.t 57) (.t 55) .any, none⟩]
abbrev cache_Get_r11 : List AI := [
  ⟨some 58, .faddr 2 (.t 14), none⟩,
  ⟨some 59, .load false 1 (.t 58) (.site 14), none⟩,
  ⟨some 60, .mv false (.t 12), none⟩,
  ⟨some 61, .iaddr 7 (.t 59) (.t 60), none⟩,
  ⟨some 62, .faddr 3 (.t 61), none⟩,
  ⟨some 63, .load false 1 (.t 62) .foreign, none⟩,
  ⟨some 64, .load true 3 (.t 14) (.site 14), none⟩,
  ⟨some 8, .mv true (.t 63), none⟩,
  ⟨none, .store 3 (.t 9) (.t 64) (.site 9), none⟩,
  ⟨some 10, .mv true (.c (.int .i64 0)), none⟩]
abbrev cache_Get_c : ACode := .seq (.reg false cache_Get_r0) (.seq (.seq (.reg false cache_Get_r1) (.seq (.reg false cache_Get_r2) (.cond (.t 18) (.seq (.reg true cache_Get_r3) (.ret)) (.skip)))) (.seq (.reg false cache_Get_r4) (.seq (.seq (.reg false cache_Get_r5) (.cond (.t 29) (.seq (.reg true cache_Get_r6) (.ret)) (.skip))) (.seq (.seq (.reg true cache_Get_r7) (.cond (.t 41) (.seq (.reg true cache_Get_r8) (.ret)) (.skip))) (.seq (.reg true cache_Get_r9) (.seq (.reg false cache_Get_r10) (.seq (.reg true cache_Get_r11) (.ret))))))))
def cache_Get_F : AFunc := ⟨65, [.tmp 8, .cell 9 true 3, .tmp 10], cache_Get_c⟩

theorem cache_Get_cp : compile Try.prog [] f_cache_Get = some cache_Get_F := by kernel_rfl

abbrev cache_Forget_r0 : List AI := [
  ⟨some 2, .box 3 (.t 0), none⟩,
  ⟨some 3, .box 1 (.t 1), none⟩,
  ⟨some 4, .alloc [(.int .i64 0), (.int .i64 0), .nilS], none⟩,
  ⟨some 5, .mv true (.c (.int .i64 0)), none⟩,
  ⟨some 6, .mv true (.c (.int .i64 0)), none⟩]
abbrev cache_Forget_r1 : List AI := [
  ⟨some 9, .load true 3 (.t 2) .any, none⟩,
  ⟨some 10, .call (.c (.fn f_cache_Check)) [(.t 9)] 0, none⟩,
  ⟨some 7, .mv true (.t 10), none⟩]
abbrev cache_Forget_r2 : List AI := [
  ⟨some 11, .mv false (.t 7), none⟩,
  ⟨some 12, .bin .neq (.t 11) (.c (.int .i64 0)), none⟩]
abbrev cache_Forget_r3 : List AI := [
  ⟨some 13, .load true 3 (.t 2) .any, none⟩,
  ⟨some 14, .mv false (.t 7), none⟩,
  ⟨none, .store 3 (.t 4) (.t 13) .any, none⟩,
  ⟨some 5, .mv true (.c (.int .i64 0)), none⟩,
  ⟨some 6, .mv true (.t 14), none⟩]
abbrev cache_Forget_r4 : List AI := [
  ⟨some 15, .faddr 2 (.t 2), none⟩,
  ⟨some 16, .load false 1 (.t 15) .any, none⟩,
  ⟨some 17, .mkfunc f_cache_Forget_1 [(.t 3)], none⟩,
  ⟨some 18, .call (.c (.fn f_cache_keep_api_Kept)) [(.t 16), (.t 17)] 0, none⟩,
  ⟨some 8, .mv true (.t 18), none⟩]
abbrev cache_Forget_r5 : List AI := [
  ⟨some 19, .faddr 0 (.t 2), none⟩,
  ⟨some 20, .load false 1 (.t 19) (.site 2), none⟩,
  ⟨some 21, .faddr 1 (.t 2), none⟩,
  ⟨some 22, .load false 1 (.t 21) (.site 2), none⟩,
  ⟨some 23, .mv false (.t 8), none⟩,
  ⟨some 24, .build [(.int .i64 0), (.int .i64 0), .nilS] [(0, 1, (.t 20)), (1, 1, (.t 22)), (2, 1, (.t 23))], none⟩,
  ⟨some 25, .faddr 2 (.t 2), none⟩,
  ⟨some 26, .load false 1 (.t 25) (.site 2), none⟩,
  ⟨some 27, .len false (.t 26), none⟩,
  ⟨some 28, .mv false (.t 8), none⟩,
  ⟨some 29, .len false (.t 28), none⟩,
  ⟨some 30, .bin .sub (.t 27) (.t 29), none⟩,
  ⟨none, .store 3 (.t 4) (.t 24) (.site 4), none⟩,
  ⟨some 5, .mv true (.t 30), none⟩,
  ⟨some 6, .mv true (.c (.int .i64 0)), none⟩]
abbrev cache_Forget_c : ACode := .seq (.reg false cache_Forget_r0) (.seq (.seq (.reg false cache_Forget_r1) (.seq (.reg false cache_Forget_r2) (.cond (.t 12) (.seq (.reg false cache_Forget_r3) (.ret)) (.skip)))) (.seq (.reg false cache_Forget_r4) (.seq (.reg true cache_Forget_r5) (.ret))))
def cache_Forget_F : AFunc := ⟨31, [.cell 4 true 3, .tmp 5, .tmp 6], cache_Forget_c⟩

theorem cache_Forget_cp : compile Try.prog [] f_cache_Forget = some cache_Forget_F := by kernel_rfl

abbrev cache_right_r0 : List AI := [
  ⟨some 2, .box 7 (.t 0), none⟩,
  ⟨some 4, .mv true (.c (.bool false)), none⟩]
abbrev cache_right_r1 : List AI := [
  ⟨some 5, .mv true (.c (.fn f_cache_right_1)), none⟩]
abbrev cache_right_r2 : List AI := [
  ⟨some 6, .mv false (.t 5), none⟩,
  ⟨some 7, .faddr 0 (.t 2), none⟩,
  ⟨some 8, .load false 1 (.t 7) .any, none⟩,
  ⟨some 9, .call (.t 6) [(.t 8)] 0, none⟩,
  ⟨some 10, .mv false (.t 9), none⟩,
  ⟨some 11, .mv false (.t 5), some (10, true)⟩,
  ⟨some 12, .faddr 1 (.t 2), some (10, true)⟩,
  ⟨some 13, .load false 1 (.t 12) .any, some (10, true)⟩,
  ⟨some 14, .call (.t 11) [(.t 13)] 0, some (10, true)⟩,
  ⟨some 15, .pick (.t 10) (.t 14) (.c (.bool false)), none⟩,
  ⟨some 16, .mv false (.t 15), none⟩,
  ⟨some 17, .mv false (.t 5), some (16, true)⟩,
  ⟨some 18, .faddr 2 (.t 2), some (16, true)⟩,
  ⟨some 19, .load false 1 (.t 18) .any, some (16, true)⟩,
  ⟨some 20, .call (.t 17) [(.t 19)] 0, some (16, true)⟩,
  ⟨some 21, .pick (.t 16) (.t 20) (.c (.bool false)), none⟩,
  ⟨some 22, .mv false (.t 21), none⟩,
  ⟨some 23, .faddr 3 (.t 2), some (22, true)⟩,
  ⟨some 24, .load false 1 (.t 23) .any, some (22, true)⟩,
  ⟨some 25, .len true (.t 24), some (22, true)⟩,
  ⟨some 26, .bin .leq (.t 25) (.c (.int .i64 4096)), some (22, true)⟩,
  ⟨some 27, .pick (.t 22) (.t 26) (.c (.bool false)), none⟩,
  ⟨some 28, .mv false (.t 27), none⟩,
  ⟨some 29, .faddr 4 (.t 2), some (28, true)⟩,
  ⟨some 30, .load false 1 (.t 29) .any, some (28, true)⟩,
  ⟨some 31, .bin .geq (.t 30) (.c (.int .i64 0)), some (28, true)⟩,
  ⟨some 32, .pick (.t 28) (.t 31) (.c (.bool false)), none⟩,
  ⟨some 33, .mv false (.t 32), none⟩,
  ⟨some 34, .faddr 4 (.t 2), some (33, true)⟩,
  ⟨some 35, .load false 1 (.t 34) .any, some (33, true)⟩,
  ⟨some 36, .mv false (.t 1), some (33, true)⟩,
  ⟨some 37, .bin .leq (.t 35) (.t 36), some (33, true)⟩,
  ⟨some 38, .pick (.t 33) (.t 37) (.c (.bool false)), none⟩,
  ⟨some 39, .mv false (.t 38), none⟩,
  ⟨some 40, .faddr 5 (.t 2), some (39, true)⟩,
  ⟨some 41, .load false 1 (.t 40) .any, some (39, true)⟩,
  ⟨some 42, .faddr 4 (.t 2), some (39, true)⟩,
  ⟨some 43, .load false 1 (.t 42) .any, some (39, true)⟩,
  ⟨some 44, .bin .geq (.t 41) (.t 43), some (39, true)⟩,
  ⟨some 45, .pick (.t 39) (.t 44) (.c (.bool false)), none⟩,
  ⟨some 46, .mv false (.t 45), none⟩,
  ⟨some 47, .faddr 5 (.t 2), some (46, true)⟩,
  ⟨some 48, .load false 1 (.t 47) .any, some (46, true)⟩,
  ⟨some 49, .bin .leq (.t 48) (.c (.int .i64 1000000)), some (46, true)⟩,
  ⟨some 50, .pick (.t 46) (.t 49) (.c (.bool false)), none⟩,
  ⟨some 4, .mv true (.t 50), none⟩]
abbrev cache_right_c : ACode := .seq (.reg false cache_right_r0) (.seq (.reg false cache_right_r1) (.seq (.reg false cache_right_r2) (.ret)))
def cache_right_F : AFunc := ⟨51, [.tmp 4], cache_right_c⟩

theorem cache_right_cp : compile Try.prog [] f_cache_right = some cache_right_F := by kernel_rfl

abbrev cache_compare_r0 : List AI := [
  ⟨some 2, .box 7 (.t 0), none⟩,
  ⟨some 3, .box 7 (.t 1), none⟩,
  ⟨some 4, .mv true (.c (.int .i64 0)), none⟩]
abbrev cache_compare_r1 : List AI := [
  ⟨some 5, .faddr 0 (.t 2), none⟩,
  ⟨some 6, .load false 1 (.t 5) .any, none⟩,
  ⟨some 7, .faddr 0 (.t 3), none⟩,
  ⟨some 8, .load false 1 (.t 7) .any, none⟩,
  ⟨some 9, .bin .neq (.t 6) (.t 8), none⟩]
abbrev cache_compare_r2 : List AI := [
  ⟨some 10, .faddr 0 (.t 2), none⟩,
  ⟨some 11, .load false 1 (.t 10) .any, none⟩,
  ⟨some 12, .faddr 0 (.t 3), none⟩,
  ⟨some 13, .load false 1 (.t 12) .any, none⟩,
  ⟨some 14, .bin .sub (.t 11) (.t 13), none⟩,
  ⟨some 4, .mv true (.t 14), none⟩]
abbrev cache_compare_r3 : List AI := [
  ⟨some 15, .faddr 1 (.t 2), none⟩,
  ⟨some 16, .load false 1 (.t 15) .any, none⟩,
  ⟨some 17, .faddr 1 (.t 3), none⟩,
  ⟨some 18, .load false 1 (.t 17) .any, none⟩,
  ⟨some 19, .bin .sub (.t 16) (.t 18), none⟩,
  ⟨some 4, .mv true (.t 19), none⟩]
abbrev cache_compare_c : ACode := .seq (.reg false cache_compare_r0) (.seq (.seq (.reg false cache_compare_r1) (.cond (.t 9) (.seq (.reg false cache_compare_r2) (.ret)) (.skip))) (.seq (.reg false cache_compare_r3) (.ret)))
def cache_compare_F : AFunc := ⟨20, [.tmp 4], cache_compare_c⟩

theorem cache_compare_cp : compile Try.prog [] f_cache_compare = some cache_compare_F := by kernel_rfl

abbrev cache_total_r0 : List AI := [
  ⟨some 2, .mv true (.c (.int .i64 0)), none⟩]
abbrev cache_total_r1 : List AI := [
  ⟨some 3, .mv true (.c (.int .i64 0)), none⟩]
abbrev cache_total_r2 : List AI := [
  ⟨some 6, .mv false (.t 0), none⟩,
  ⟨some 7, .len false (.t 6), none⟩,
  ⟨some 8, .mv false (.c (.int .i64 0)), none⟩]
abbrev cache_total_r3 : List AI := [
  ⟨some 9, .bin .lss (.t 8) (.t 7), none⟩]
abbrev cache_total_r4 : List AI := [
  ⟨some 10, .iaddr 7 (.t 6) (.t 8), none⟩,
  ⟨some 11, .load true 7 (.t 10) .any, none⟩,
  ⟨some 5, .alloc [(.int .i64 0), (.int .i64 0), (.int .i64 0), (.str []), (.int .i64 0), (.int .i64 0), (.int .i64 0)], none⟩,
  ⟨none, .store 7 (.t 5) (.t 11) .any, none⟩]
abbrev cache_total_r5 : List AI := [
  ⟨some 12, .mv false (.t 3), none⟩,
  ⟨some 13, .faddr 3 (.t 5), none⟩,
  ⟨some 14, .load false 1 (.t 13) .any, none⟩,
  ⟨some 15, .len true (.t 14), none⟩,
  ⟨some 16, .bin .add (.t 12) (.t 15), none⟩,
  ⟨some 3, .mv true (.t 16), none⟩]
abbrev cache_total_r6 : List AI := [
  ⟨some 17, .bin .add (.t 8) (.c (.int .i64 1)), none⟩,
  ⟨some 8, .mv false (.t 17), none⟩]
abbrev cache_total_l0 : ACode := .seq (.reg false cache_total_r3) (.seq (.cond (.t 9) (.skip) (.exit 0)) (.seq (.block 1 (.seq (.reg false cache_total_r4) (.reg false cache_total_r5))) (.reg false cache_total_r6)))
abbrev cache_total_r7 : List AI := [
  ⟨some 18, .mv false (.t 3), none⟩,
  ⟨some 2, .mv true (.t 18), none⟩]
abbrev cache_total_c : ACode := .seq (.reg false cache_total_r0) (.seq (.reg false cache_total_r1) (.seq (.seq (.reg false cache_total_r2) (.block 0 (.loop cache_total_l0))) (.seq (.reg false cache_total_r7) (.ret))))
def cache_total_F : AFunc := ⟨19, [.tmp 2], cache_total_c⟩

theorem cache_total_cp : compile Try.prog [] f_cache_total = some cache_total_F := by kernel_rfl

abbrev quietusref42_Right_r0 : List AI := [
  ⟨some 2, .box 7 (.t 0), none⟩,
  ⟨some 4, .mv true (.c (.bool false)), none⟩]
abbrev quietusref42_Right_r1 : List AI := [
  ⟨some 5, .faddr 0 (.t 2), none⟩,
  ⟨some 6, .load false 1 (.t 5) .any, none⟩,
  ⟨some 7, .bin .lss (.t 6) (.c (.int .i64 0)), none⟩,
  ⟨some 8, .mv false (.t 7), none⟩,
  ⟨some 9, .faddr 0 (.t 2), some (8, false)⟩,
  ⟨some 10, .load false 1 (.t 9) .any, some (8, false)⟩,
  ⟨some 11, .bin .gtr (.t 10) (.c (.int .i64 1099511627776)), some (8, false)⟩,
  ⟨some 12, .pick (.t 8) (.c (.bool true)) (.t 11), none⟩,
  ⟨some 13, .mv false (.t 12), none⟩,
  ⟨some 14, .faddr 1 (.t 2), some (13, false)⟩,
  ⟨some 15, .load false 1 (.t 14) .any, some (13, false)⟩,
  ⟨some 16, .bin .lss (.t 15) (.c (.int .i64 0)), some (13, false)⟩,
  ⟨some 17, .pick (.t 13) (.c (.bool true)) (.t 16), none⟩,
  ⟨some 18, .mv false (.t 17), none⟩,
  ⟨some 19, .faddr 1 (.t 2), some (18, false)⟩,
  ⟨some 20, .load false 1 (.t 19) .any, some (18, false)⟩,
  ⟨some 21, .bin .gtr (.t 20) (.c (.int .i64 1099511627776)), some (18, false)⟩,
  ⟨some 22, .pick (.t 18) (.c (.bool true)) (.t 21), none⟩,
  ⟨some 23, .mv false (.t 22), none⟩,
  ⟨some 24, .faddr 2 (.t 2), some (23, false)⟩,
  ⟨some 25, .load false 1 (.t 24) .any, some (23, false)⟩,
  ⟨some 26, .bin .lss (.t 25) (.c (.int .i64 0)), some (23, false)⟩,
  ⟨some 27, .pick (.t 23) (.c (.bool true)) (.t 26), none⟩,
  ⟨some 28, .mv false (.t 27), none⟩,
  ⟨some 29, .faddr 2 (.t 2), some (28, false)⟩,
  ⟨some 30, .load false 1 (.t 29) .any, some (28, false)⟩,
  ⟨some 31, .bin .gtr (.t 30) (.c (.int .i64 1099511627776)), some (28, false)⟩,
  ⟨some 32, .pick (.t 28) (.c (.bool true)) (.t 31), none⟩,
  ⟨some 33, .mv false (.t 32), none⟩,
  ⟨some 34, .faddr 3 (.t 2), some (33, false)⟩,
  ⟨some 35, .load false 1 (.t 34) .any, some (33, false)⟩,
  ⟨some 36, .len true (.t 35), some (33, false)⟩,
  ⟨some 37, .bin .gtr (.t 36) (.c (.int .i64 4096)), some (33, false)⟩,
  ⟨some 38, .pick (.t 33) (.c (.bool true)) (.t 37), none⟩]
abbrev quietusref42_Right_r2 : List AI := [
  ⟨some 4, .mv true (.c (.bool false)), none⟩]
abbrev quietusref42_Right_r3 : List AI := [
  ⟨some 39, .faddr 4 (.t 2), none⟩,
  ⟨some 40, .load false 1 (.t 39) .any, none⟩,
  ⟨some 41, .bin .geq (.t 40) (.c (.int .i64 0)), none⟩,
  ⟨some 42, .mv false (.t 41), none⟩,
  ⟨some 43, .faddr 4 (.t 2), some (42, true)⟩,
  ⟨some 44, .load false 1 (.t 43) .any, some (42, true)⟩,
  ⟨some 45, .mv false (.t 1), some (42, true)⟩,
  ⟨some 46, .bin .leq (.t 44) (.t 45), some (42, true)⟩,
  ⟨some 47, .pick (.t 42) (.t 46) (.c (.bool false)), none⟩,
  ⟨some 48, .mv false (.t 47), none⟩,
  ⟨some 49, .faddr 5 (.t 2), some (48, true)⟩,
  ⟨some 50, .load false 1 (.t 49) .any, some (48, true)⟩,
  ⟨some 51, .faddr 4 (.t 2), some (48, true)⟩,
  ⟨some 52, .load false 1 (.t 51) .any, some (48, true)⟩,
  ⟨some 53, .bin .geq (.t 50) (.t 52), some (48, true)⟩,
  ⟨some 54, .pick (.t 48) (.t 53) (.c (.bool false)), none⟩,
  ⟨some 55, .mv false (.t 54), none⟩,
  ⟨some 56, .faddr 5 (.t 2), some (55, true)⟩,
  ⟨some 57, .load false 1 (.t 56) .any, some (55, true)⟩,
  ⟨some 58, .bin .leq (.t 57) (.c (.int .i64 1000000)), some (55, true)⟩,
  ⟨some 59, .pick (.t 55) (.t 58) (.c (.bool false)), none⟩,
  ⟨some 4, .mv true (.t 59), none⟩]
abbrev quietusref42_Right_c : ACode := .seq (.reg false quietusref42_Right_r0) (.seq (.seq (.reg false quietusref42_Right_r1) (.cond (.t 38) (.seq (.reg false quietusref42_Right_r2) (.ret)) (.skip))) (.seq (.reg false quietusref42_Right_r3) (.ret)))
def quietusref42_Right_F : AFunc := ⟨60, [.tmp 4], quietusref42_Right_c⟩

theorem quietusref42_Right_cp : compile Try.prog [] f_quietusref42_Right = some quietusref42_Right_F := by kernel_rfl

abbrev quietusref42_before_r0 : List AI := [
  ⟨some 2, .box 7 (.t 0), none⟩,
  ⟨some 3, .box 7 (.t 1), none⟩,
  ⟨some 4, .mv true (.c (.bool false)), none⟩]
abbrev quietusref42_before_r1 : List AI := [
  ⟨some 5, .faddr 0 (.t 2), none⟩,
  ⟨some 6, .load false 1 (.t 5) .any, none⟩,
  ⟨some 7, .faddr 0 (.t 3), none⟩,
  ⟨some 8, .load false 1 (.t 7) .any, none⟩,
  ⟨some 9, .bin .lss (.t 6) (.t 8), none⟩,
  ⟨some 10, .mv false (.t 9), none⟩,
  ⟨some 11, .faddr 0 (.t 2), some (10, false)⟩,
  ⟨some 12, .load false 1 (.t 11) .any, some (10, false)⟩,
  ⟨some 13, .faddr 0 (.t 3), some (10, false)⟩,
  ⟨some 14, .load false 1 (.t 13) .any, some (10, false)⟩,
  ⟨some 15, .bin .eql (.t 12) (.t 14), some (10, false)⟩,
  ⟨some 16, .mv false (.t 15), some (10, false)⟩,
  ⟨some 17, .faddr 1 (.t 2), some (16, true)⟩,
  ⟨some 18, .load false 1 (.t 17) .any, some (16, true)⟩,
  ⟨some 19, .faddr 1 (.t 3), some (16, true)⟩,
  ⟨some 20, .load false 1 (.t 19) .any, some (16, true)⟩,
  ⟨some 21, .bin .lss (.t 18) (.t 20), some (16, true)⟩,
  ⟨some 22, .pick (.t 16) (.t 21) (.c (.bool false)), some (10, false)⟩,
  ⟨some 23, .pick (.t 10) (.c (.bool true)) (.t 22), none⟩,
  ⟨some 4, .mv true (.t 23), none⟩]
abbrev quietusref42_before_c : ACode := .seq (.reg false quietusref42_before_r0) (.seq (.reg false quietusref42_before_r1) (.ret))
def quietusref42_before_F : AFunc := ⟨24, [.tmp 4], quietusref42_before_c⟩

theorem quietusref42_before_cp : compile Try.prog [] f_quietusref42_before = some quietusref42_before_F := by kernel_rfl

abbrev quietusref42_Bytes_r0 : List AI := [
  ⟨some 2, .mv true (.c (.int .i64 0)), none⟩]
abbrev quietusref42_Bytes_r1 : List AI := [
  ⟨some 3, .mv true (.c (.int .i64 0)), none⟩]
abbrev quietusref42_Bytes_r2 : List AI := [
  ⟨some 4, .mv true (.c (.int .i64 0)), none⟩]
abbrev quietusref42_Bytes_r3 : List AI := [
  ⟨some 5, .mv false (.t 4), none⟩,
  ⟨some 6, .mv false (.t 0), none⟩,
  ⟨some 7, .len false (.t 6), none⟩,
  ⟨some 8, .bin .lss (.t 5) (.t 7), none⟩]
abbrev quietusref42_Bytes_r4 : List AI := [
  ⟨some 11, .mv false (.t 3), none⟩,
  ⟨some 12, .mv false (.t 0), none⟩,
  ⟨some 13, .mv false (.t 4), none⟩,
  ⟨some 14, .iaddr 7 (.t 12) (.t 13), none⟩,
  ⟨some 15, .faddr 3 (.t 14), none⟩,
  ⟨some 16, .load false 1 (.t 15) .any, none⟩,
  ⟨some 17, .len true (.t 16), none⟩,
  ⟨some 18, .bin .add (.t 11) (.t 17), none⟩,
  ⟨some 3, .mv true (.t 18), none⟩]
abbrev quietusref42_Bytes_r5 : List AI := [
  ⟨some 9, .mv false (.t 4), none⟩,
  ⟨some 10, .bin .add (.t 9) (.c (.int .i64 1)), none⟩,
  ⟨some 4, .mv true (.t 10), none⟩]
abbrev quietusref42_Bytes_l0 : ACode := .seq (.seq (.reg false quietusref42_Bytes_r3) (.cond (.t 8) (.skip) (.exit 0))) (.seq (.block 1 (.reg false quietusref42_Bytes_r4)) (.reg false quietusref42_Bytes_r5))
abbrev quietusref42_Bytes_r6 : List AI := [
  ⟨some 19, .mv false (.t 3), none⟩,
  ⟨some 2, .mv true (.t 19), none⟩]
abbrev quietusref42_Bytes_c : ACode := .seq (.reg false quietusref42_Bytes_r0) (.seq (.reg false quietusref42_Bytes_r1) (.seq (.seq (.reg false quietusref42_Bytes_r2) (.block 0 (.loop quietusref42_Bytes_l0))) (.seq (.reg false quietusref42_Bytes_r6) (.ret))))
def quietusref42_Bytes_F : AFunc := ⟨20, [.tmp 2], quietusref42_Bytes_c⟩

theorem quietusref42_Bytes_cp : compile Try.prog [] f_quietusref42_Bytes = some quietusref42_Bytes_F := by kernel_rfl

abbrev quietusref42_SameItems_r0 : List AI := [
  ⟨some 4, .mv true (.c (.bool false)), none⟩]
abbrev quietusref42_SameItems_r1 : List AI := [
  ⟨some 6, .mv false (.t 0), none⟩,
  ⟨some 7, .len false (.t 6), none⟩,
  ⟨some 8, .mv false (.t 1), none⟩,
  ⟨some 9, .len false (.t 8), none⟩,
  ⟨some 10, .bin .neq (.t 7) (.t 9), none⟩]
abbrev quietusref42_SameItems_r2 : List AI := [
  ⟨some 4, .mv true (.c (.bool false)), none⟩]
abbrev quietusref42_SameItems_r3 : List AI := [
  ⟨some 5, .mv true (.c (.int .i64 0)), none⟩]
abbrev quietusref42_SameItems_r4 : List AI := [
  ⟨some 11, .mv false (.t 5), none⟩,
  ⟨some 12, .mv false (.t 0), none⟩,
  ⟨some 13, .len false (.t 12), none⟩,
  ⟨some 14, .bin .lss (.t 11) (.t 13), none⟩]
abbrev quietusref42_SameItems_r5 : List AI := [
  ⟨some 17, .mv false (.t 0), none⟩,
  ⟨some 18, .mv false (.t 5), none⟩,
  ⟨some 19, .iaddr 7 (.t 17) (.t 18), none⟩,
  ⟨some 20, .load true 7 (.t 19) .foreign, none⟩,
  ⟨some 21, .mv false (.t 1), none⟩,
  ⟨some 22, .mv false (.t 5), none⟩,
  ⟨some 23, .iaddr 7 (.t 21) (.t 22), none⟩,
  ⟨some 24, .load true 7 (.t 23) .foreign, none⟩,
  ⟨some 25, .eqs true [.i, .i, .i, .s, .i, .i, .i] (.t 20) (.t 24), none⟩]
abbrev quietusref42_SameItems_r6 : List AI := [
  ⟨some 4, .mv true (.c (.bool false)), none⟩]
abbrev quietusref42_SameItems_r7 : List AI := [
  ⟨some 15, .mv false (.t 5), none⟩,
  ⟨some 16, .bin .add (.t 15) (.c (.int .i64 1)), none⟩,
  ⟨some 5, .mv true (.t 16), none⟩]
abbrev quietusref42_SameItems_l0 : ACode := .seq (.seq (.reg false quietusref42_SameItems_r4) (.cond (.t 14) (.skip) (.exit 0))) (.seq (.block 1 (.seq (.reg true quietusref42_SameItems_r5) (.cond (.t 25) (.seq (.reg false quietusref42_SameItems_r6) (.ret)) (.skip)))) (.reg false quietusref42_SameItems_r7))
abbrev quietusref42_SameItems_r8 : List AI := [
  ⟨some 4, .mv true (.c (.bool true)), none⟩]
abbrev quietusref42_SameItems_c : ACode := .seq (.reg false quietusref42_SameItems_r0) (.seq (.seq (.reg false quietusref42_SameItems_r1) (.cond (.t 10) (.seq (.reg false quietusref42_SameItems_r2) (.ret)) (.skip))) (.seq (.seq (.reg false quietusref42_SameItems_r3) (.block 0 (.loop quietusref42_SameItems_l0))) (.seq (.reg false quietusref42_SameItems_r8) (.ret))))
def quietusref42_SameItems_F : AFunc := ⟨26, [.tmp 4], quietusref42_SameItems_c⟩

theorem quietusref42_SameItems_cp : compile Try.prog [] f_quietusref42_SameItems = some quietusref42_SameItems_F := by kernel_rfl

abbrev quietusref42_Tick_r0 : List AI := [
  ⟨some 2, .box 3 (.t 0), none⟩,
  ⟨some 4, .alloc [(.int .i64 0), (.int .i64 0), .nilS, .nilS, (.str []), (.int .i64 0), (.int .i64 0)], none⟩]
abbrev quietusref42_Tick_r1 : List AI := [
  ⟨some 8, .load true 3 (.t 2) .any, none⟩,
  ⟨some 9, .call (.c (.fn f_quietusref42_Check)) [(.t 8)] 0, none⟩,
  ⟨some 5, .mv true (.t 9), none⟩]
abbrev quietusref42_Tick_r2 : List AI := [
  ⟨some 10, .mv false (.t 5), none⟩,
  ⟨some 11, .bin .neq (.t 10) (.c (.int .i64 0)), none⟩]
abbrev quietusref42_Tick_r3 : List AI := [
  ⟨some 12, .load true 3 (.t 2) .any, none⟩,
  ⟨some 13, .mv false (.t 5), none⟩,
  ⟨some 14, .build [(.int .i64 0), (.int .i64 0), .nilS, .nilS, (.str []), (.int .i64 0), (.int .i64 0)] [(0, 3, (.t 12)), (6, 1, (.t 13))], none⟩,
  ⟨none, .store 7 (.t 4) (.t 14) .any, none⟩]
abbrev quietusref42_Tick_r4 : List AI := [
  ⟨some 15, .mv false (.t 1), none⟩,
  ⟨some 16, .faddr 1 (.t 2), none⟩,
  ⟨some 17, .load false 1 (.t 16) .any, none⟩,
  ⟨some 18, .bin .lss (.t 15) (.t 17), none⟩]
abbrev quietusref42_Tick_r5 : List AI := [
  ⟨some 19, .load true 3 (.t 2) .any, none⟩,
  ⟨some 20, .build [(.int .i64 0), (.int .i64 0), .nilS, .nilS, (.str []), (.int .i64 0), (.int .i64 0)] [(0, 3, (.t 19)), (6, 1, (.c (.int .i64 15)))], none⟩,
  ⟨none, .store 7 (.t 4) (.t 20) .any, none⟩]
abbrev quietusref42_Tick_r6 : List AI := [
  ⟨some 21, .mv false (.t 1), none⟩,
  ⟨some 22, .bin .gtr (.t 21) (.c (.int .i64 1000000)), none⟩]
abbrev quietusref42_Tick_r7 : List AI := [
  ⟨some 23, .load true 3 (.t 2) .any, none⟩,
  ⟨some 24, .build [(.int .i64 0), (.int .i64 0), .nilS, .nilS, (.str []), (.int .i64 0), (.int .i64 0)] [(0, 3, (.t 23)), (6, 1, (.c (.int .i64 3)))], none⟩,
  ⟨none, .store 7 (.t 4) (.t 24) .any, none⟩]
abbrev quietusref42_Tick_r8 : List AI := [
  ⟨some 25, .faddr 0 (.t 2), none⟩,
  ⟨some 26, .load false 1 (.t 25) .any, none⟩,
  ⟨some 27, .mv false (.t 1), none⟩,
  ⟨some 28, .build [(.int .i64 0), (.int .i64 0), .nilS] [(0, 1, (.t 26)), (1, 1, (.t 27))], none⟩,
  ⟨some 6, .alloc [(.int .i64 0), (.int .i64 0), .nilS], none⟩,
  ⟨none, .store 3 (.t 6) (.t 28) .any, none⟩]
abbrev quietusref42_Tick_r9 : List AI := [
  ⟨some 7, .mv true (.c (.int .i64 0)), none⟩]
abbrev quietusref42_Tick_r10 : List AI := [
  ⟨some 29, .mv false (.t 7), none⟩,
  ⟨some 30, .faddr 2 (.t 2), none⟩,
  ⟨some 31, .load false 1 (.t 30) .any, none⟩,
  ⟨some 32, .len false (.t 31), none⟩,
  ⟨some 33, .bin .lss (.t 29) (.t 32), none⟩]
abbrev quietusref42_Tick_r11 : List AI := [
  ⟨some 36, .faddr 2 (.t 2), none⟩,
  ⟨some 37, .load false 1 (.t 36) .any, none⟩,
  ⟨some 38, .mv false (.t 7), none⟩,
  ⟨some 39, .iaddr 7 (.t 37) (.t 38), none⟩,
  ⟨some 40, .faddr 5 (.t 39), none⟩,
  ⟨some 41, .load false 1 (.t 40) .any, none⟩,
  ⟨some 42, .mv false (.t 1), none⟩,
  ⟨some 43, .bin .geq (.t 41) (.t 42), none⟩]
abbrev quietusref42_Tick_r12 : List AI := [
  ⟨some 44, .faddr 2 (.t 6), none⟩,
  ⟨some 45, .load false 1 (.t 44) (.site 6), none⟩,
  ⟨some 46, .faddr 2 (.t 2), none⟩,
  ⟨some 47, .load false 1 (.t 46) (.site 2), none⟩,
  ⟨some 48, .mv false (.t 7), none⟩,
  ⟨some 49, .iaddr 7 (.t 47) (.t 48), none⟩,
  ⟨some 50, .load true 7 (.t 49) .foreign, none⟩,
  ⟨some 51, .mkslice 7 1 (.agg [(.int .i64 0), (.int .i64 0), (.int .i64 0), (.str []), (.int .i64 0), (.int .i64 0), (.int .i64 0)]) [(0, (.t 50))], none⟩,
  ⟨some 52, .appG 7 64 [(.int .i64 0), (.int .i64 0), (.int .i64 0), (.str []), (.int .i64 0), (.int .i64 0), (.int .i64 0)] (.t 45) (.t 51), none⟩,
  ⟨some 53, .faddr 2 (.t 6), none⟩,
  ⟨none, .store 1 (.t 53) (.t 52) (.site 6), none⟩]
abbrev quietusref42_Tick_r13 : List AI := [
  ⟨some 34, .mv false (.t 7), none⟩,
  ⟨some 35, .bin .add (.t 34) (.c (.int .i64 1)), none⟩,
  ⟨some 7, .mv true (.t 35), none⟩]
abbrev quietusref42_Tick_l0 : ACode := .seq (.seq (.reg false quietusref42_Tick_r10) (.cond (.t 33) (.skip) (.exit 0))) (.seq (.block 1 (.seq (.reg false quietusref42_Tick_r11) (.cond (.t 43) (.reg true quietusref42_Tick_r12) (.skip)))) (.reg false quietusref42_Tick_r13))
abbrev quietusref42_Tick_r14 : List AI := [
  ⟨some 54, .load true 3 (.t 6) .any, none⟩,
  ⟨some 55, .build [(.int .i64 0), (.int .i64 0), .nilS, .nilS, (.str []), (.int .i64 0), (.int .i64 0)] [(0, 3, (.t 54))], none⟩,
  ⟨none, .store 7 (.t 4) (.t 55) .any, none⟩]
abbrev quietusref42_Tick_c : ACode := .seq (.reg false quietusref42_Tick_r0) (.seq (.reg false quietusref42_Tick_r1) (.seq (.seq (.reg false quietusref42_Tick_r2) (.cond (.t 11) (.seq (.reg false quietusref42_Tick_r3) (.ret)) (.skip))) (.seq (.seq (.reg false quietusref42_Tick_r4) (.cond (.t 18) (.seq (.reg false quietusref42_Tick_r5) (.ret)) (.skip))) (.seq (.seq (.reg false quietusref42_Tick_r6) (.cond (.t 22) (.seq (.reg false quietusref42_Tick_r7) (.ret)) (.skip))) (.seq (.reg false quietusref42_Tick_r8) (.seq (.seq (.reg false quietusref42_Tick_r9) (.block 0 (.loop quietusref42_Tick_l0))) (.seq (.reg false quietusref42_Tick_r14) (.ret))))))))
def quietusref42_Tick_F : AFunc := ⟨56, [.cell 4 true 7], quietusref42_Tick_c⟩

theorem quietusref42_Tick_cp : compile Try.prog [52] f_quietusref42_Tick = some quietusref42_Tick_F := by kernel_rfl

abbrev quietusref42_Put_r0 : List AI := [
  ⟨some 2, .box 3 (.t 0), none⟩,
  ⟨some 3, .box 7 (.t 1), none⟩,
  ⟨some 4, .alloc [(.int .i64 0), (.int .i64 0), .nilS, .nilS, (.str []), (.int .i64 0), (.int .i64 0)], none⟩]
abbrev quietusref42_Put_r1 : List AI := [
  ⟨some 16, .load true 3 (.t 2) .any, none⟩,
  ⟨some 17, .call (.c (.fn f_quietusref42_Check)) [(.t 16)] 0, none⟩,
  ⟨some 5, .mv true (.t 17), none⟩]
abbrev quietusref42_Put_r2 : List AI := [
  ⟨some 18, .mv false (.t 5), none⟩,
  ⟨some 19, .bin .neq (.t 18) (.c (.int .i64 0)), none⟩]
abbrev quietusref42_Put_r3 : List AI := [
  ⟨some 20, .load true 3 (.t 2) .any, none⟩,
  ⟨some 21, .mv false (.t 5), none⟩,
  ⟨some 22, .build [(.int .i64 0), (.int .i64 0), .nilS, .nilS, (.str []), (.int .i64 0), (.int .i64 0)] [(0, 3, (.t 20)), (6, 1, (.t 21))], none⟩,
  ⟨none, .store 7 (.t 4) (.t 22) .any, none⟩]
abbrev quietusref42_Put_r4 : List AI := [
  ⟨some 23, .load true 7 (.t 3) .any, none⟩,
  ⟨some 24, .faddr 1 (.t 2), none⟩,
  ⟨some 25, .load false 1 (.t 24) .any, none⟩,
  ⟨some 26, .call (.c (.fn f_quietusref42_Right)) [(.t 23), (.t 25)] 0, none⟩,
  ⟨some 6, .mv true (.t 26), none⟩]
abbrev quietusref42_Put_r5 : List AI := [
  ⟨some 27, .mv false (.t 6), none⟩,
  ⟨some 28, .not (.t 27), none⟩]
abbrev quietusref42_Put_r6 : List AI := [
  ⟨some 29, .load true 3 (.t 2) .any, none⟩,
  ⟨some 30, .build [(.int .i64 0), (.int .i64 0), .nilS, .nilS, (.str []), (.int .i64 0), (.int .i64 0)] [(0, 3, (.t 29)), (6, 1, (.c (.int .i64 1)))], none⟩,
  ⟨none, .store 7 (.t 4) (.t 30) .any, none⟩]
abbrev quietusref42_Put_r7 : List AI := [
  ⟨some 31, .faddr 5 (.t 3), none⟩,
  ⟨some 32, .load false 1 (.t 31) .any, none⟩,
  ⟨some 33, .faddr 1 (.t 2), none⟩,
  ⟨some 34, .load false 1 (.t 33) .any, none⟩,
  ⟨some 35, .bin .lss (.t 32) (.t 34), none⟩]
abbrev quietusref42_Put_r8 : List AI := [
  ⟨some 36, .load true 3 (.t 2) .any, none⟩,
  ⟨some 37, .build [(.int .i64 0), (.int .i64 0), .nilS, .nilS, (.str []), (.int .i64 0), (.int .i64 0)] [(0, 3, (.t 36)), (6, 1, (.c (.int .i64 18)))], none⟩,
  ⟨none, .store 7 (.t 4) (.t 37) .any, none⟩]
abbrev quietusref42_Put_r9 : List AI := [
  ⟨some 38, .faddr 2 (.t 2), none⟩,
  ⟨some 39, .load false 1 (.t 38) .any, none⟩,
  ⟨some 40, .faddr 0 (.t 3), none⟩,
  ⟨some 41, .load false 1 (.t 40) .any, none⟩,
  ⟨some 42, .faddr 1 (.t 3), none⟩,
  ⟨some 43, .load false 1 (.t 42) .any, none⟩,
  ⟨some 44, .call (.c (.fn f_quietusref42_Find)) [(.t 39), (.t 41), (.t 43)] 0, none⟩,
  ⟨some 7, .mv true (.t 44), none⟩]
abbrev quietusref42_Put_r10 : List AI := [
  ⟨some 45, .mv false (.t 7), none⟩,
  ⟨some 46, .bin .geq (.t 45) (.c (.int .i64 0)), none⟩,
  ⟨some 47, .mv false (.t 46), none⟩,
  ⟨some 48, .faddr 2 (.t 2), some (47, true)⟩,
  ⟨some 49, .load false 1 (.t 48) (.site 2), some (47, true)⟩,
  ⟨some 50, .mv false (.t 7), some (47, true)⟩,
  ⟨some 51, .iaddr 7 (.t 49) (.t 50), some (47, true)⟩,
  ⟨some 52, .faddr 2 (.t 51), some (47, true)⟩,
  ⟨some 53, .load false 1 (.t 52) .foreign, some (47, true)⟩,
  ⟨some 54, .faddr 2 (.t 3), some (47, true)⟩,
  ⟨some 55, .load false 1 (.t 54) (.site 3), some (47, true)⟩,
  ⟨some 56, .bin .gtr (.t 53) (.t 55), some (47, true)⟩,
  ⟨some 57, .mv false (.t 56), some (47, true)⟩,
  ⟨some 58, .faddr 2 (.t 2), some (57, false)⟩,
  ⟨some 59, .load false 1 (.t 58) (.site 2), some (57, false)⟩,
  ⟨some 60, .mv false (.t 7), some (57, false)⟩,
  ⟨some 61, .iaddr 7 (.t 59) (.t 60), some (57, false)⟩,
  ⟨some 62, .faddr 2 (.t 61), some (57, false)⟩,
  ⟨some 63, .load false 1 (.t 62) .foreign, some (57, false)⟩,
  ⟨some 64, .faddr 2 (.t 3), some (57, false)⟩,
  ⟨some 65, .load false 1 (.t 64) (.site 3), some (57, false)⟩,
  ⟨some 66, .bin .eql (.t 63) (.t 65), some (57, false)⟩,
  ⟨some 67, .mv false (.t 66), some (57, false)⟩,
  ⟨some 68, .faddr 2 (.t 2), some (67, true)⟩,
  ⟨some 69, .load false 1 (.t 68) (.site 2), some (67, true)⟩,
  ⟨some 70, .mv false (.t 7), some (67, true)⟩,
  ⟨some 71, .iaddr 7 (.t 69) (.t 70), some (67, true)⟩,
  ⟨some 72, .faddr 4 (.t 71), some (67, true)⟩,
  ⟨some 73, .load false 1 (.t 72) .foreign, some (67, true)⟩,
  ⟨some 74, .faddr 4 (.t 3), some (67, true)⟩,
  ⟨some 75, .load false 1 (.t 74) (.site 3), some (67, true)⟩,
  ⟨some 76, .bin .gtr (.t 73) (.t 75), some (67, true)⟩,
  ⟨some 77, .pick (.t 67) (.t 76) (.c (.bool false)), some (57, false)⟩,
  ⟨some 78, .pick (.t 57) (.c (.bool true)) (.t 77), some (47, true)⟩,
  ⟨some 79, .pick (.t 47) (.t 78) (.c (.bool false)), none⟩]
abbrev quietusref42_Put_r11 : List AI := [
  ⟨some 80, .load true 3 (.t 2) .any, none⟩,
  ⟨some 81, .build [(.int .i64 0), (.int .i64 0), .nilS, .nilS, (.str []), (.int .i64 0), (.int .i64 0)] [(0, 3, (.t 80)), (6, 1, (.c (.int .i64 15)))], none⟩,
  ⟨none, .store 7 (.t 4) (.t 81) .any, none⟩]
abbrev quietusref42_Put_r12 : List AI := [
  ⟨some 82, .faddr 3 (.t 3), none⟩,
  ⟨some 83, .load false 1 (.t 82) .any, none⟩,
  ⟨some 84, .len true (.t 83), none⟩,
  ⟨some 85, .faddr 0 (.t 2), none⟩,
  ⟨some 86, .load false 1 (.t 85) .any, none⟩,
  ⟨some 87, .bin .gtr (.t 84) (.t 86), none⟩]
abbrev quietusref42_Put_r13 : List AI := [
  ⟨some 88, .load true 3 (.t 2) .any, none⟩,
  ⟨some 89, .build [(.int .i64 0), (.int .i64 0), .nilS, .nilS, (.str []), (.int .i64 0), (.int .i64 0)] [(0, 3, (.t 88)), (6, 1, (.c (.int .i64 13)))], none⟩,
  ⟨none, .store 7 (.t 4) (.t 89) .any, none⟩]
abbrev quietusref42_Put_r14 : List AI := [
  ⟨some 90, .faddr 1 (.t 2), none⟩,
  ⟨some 91, .load false 1 (.t 90) .any, none⟩,
  ⟨some 92, .faddr 6 (.t 3), none⟩,
  ⟨none, .store 1 (.t 92) (.t 91) .any, none⟩]
abbrev quietusref42_Put_r15 : List AI := [
  ⟨some 8, .mv true (.c .nilS), none⟩]
abbrev quietusref42_Put_r16 : List AI := [
  ⟨some 9, .mv true (.c (.bool false)), none⟩]
abbrev quietusref42_Put_r17 : List AI := [
  ⟨some 10, .mv true (.c (.int .i64 0)), none⟩]
abbrev quietusref42_Put_r18 : List AI := [
  ⟨some 93, .mv false (.t 10), none⟩,
  ⟨some 94, .faddr 2 (.t 2), none⟩,
  ⟨some 95, .load false 1 (.t 94) .any, none⟩,
  ⟨some 96, .len false (.t 95), none⟩,
  ⟨some 97, .bin .lss (.t 93) (.t 96), none⟩]
abbrev quietusref42_Put_r19 : List AI := [
  ⟨some 100, .load true 7 (.t 3) (.site 3), none⟩,
  ⟨some 101, .faddr 2 (.t 2), none⟩,
  ⟨some 102, .load false 1 (.t 101) (.site 2), none⟩,
  ⟨some 103, .mv false (.t 10), none⟩,
  ⟨some 104, .iaddr 7 (.t 102) (.t 103), none⟩,
  ⟨some 105, .load true 7 (.t 104) .foreign, none⟩,
  ⟨some 106, .call (.c (.fn f_quietusref42_before)) [(.t 100), (.t 105)] 1, none⟩,
  ⟨some 11, .mv true (.t 106), none⟩]
abbrev quietusref42_Put_r20 : List AI := [
  ⟨some 107, .mv false (.t 9), none⟩,
  ⟨some 108, .not (.t 107), none⟩,
  ⟨some 109, .mv false (.t 108), none⟩,
  ⟨some 110, .mv false (.t 10), some (109, true)⟩,
  ⟨some 111, .mv false (.t 7), some (109, true)⟩,
  ⟨some 112, .bin .eql (.t 110) (.t 111), some (109, true)⟩,
  ⟨some 113, .mv false (.t 112), some (109, true)⟩,
  ⟨some 114, .mv false (.t 11), some (113, false)⟩,
  ⟨some 115, .pick (.t 113) (.c (.bool true)) (.t 114), some (109, true)⟩,
  ⟨some 116, .pick (.t 109) (.t 115) (.c (.bool false)), none⟩]
abbrev quietusref42_Put_r21 : List AI := [
  ⟨some 117, .mv true (.t 8), none⟩,
  ⟨some 118, .load true 7 (.t 3) .any, none⟩,
  ⟨some 119, .mkslice 7 1 (.agg [(.int .i64 0), (.int .i64 0), (.int .i64 0), (.str []), (.int .i64 0), (.int .i64 0), (.int .i64 0)]) [(0, (.t 118))], none⟩,
  ⟨some 120, .append 7 64 (.t 117) (.t 119), none⟩,
  ⟨some 8, .mv true (.t 120), none⟩]
abbrev quietusref42_Put_r22 : List AI := [
  ⟨some 9, .mv true (.c (.bool true)), none⟩]
abbrev quietusref42_Put_r23 : List AI := [
  ⟨some 121, .mv false (.t 10), none⟩,
  ⟨some 122, .mv false (.t 7), none⟩,
  ⟨some 123, .bin .neq (.t 121) (.t 122), none⟩]
abbrev quietusref42_Put_r24 : List AI := [
  ⟨some 124, .mv true (.t 8), none⟩,
  ⟨some 125, .faddr 2 (.t 2), none⟩,
  ⟨some 126, .load false 1 (.t 125) .any, none⟩,
  ⟨some 127, .mv false (.t 10), none⟩,
  ⟨some 128, .iaddr 7 (.t 126) (.t 127), none⟩,
  ⟨some 129, .load true 7 (.t 128) .any, none⟩,
  ⟨some 130, .mkslice 7 1 (.agg [(.int .i64 0), (.int .i64 0), (.int .i64 0), (.str []), (.int .i64 0), (.int .i64 0), (.int .i64 0)]) [(0, (.t 129))], none⟩,
  ⟨some 131, .append 7 64 (.t 124) (.t 130), none⟩,
  ⟨some 8, .mv true (.t 131), none⟩]
abbrev quietusref42_Put_r25 : List AI := [
  ⟨some 98, .mv false (.t 10), none⟩,
  ⟨some 99, .bin .add (.t 98) (.c (.int .i64 1)), none⟩,
  ⟨some 10, .mv true (.t 99), none⟩]
abbrev quietusref42_Put_l0 : ACode := .seq (.seq (.reg false quietusref42_Put_r18) (.cond (.t 97) (.skip) (.exit 0))) (.seq (.block 1 (.seq (.reg true quietusref42_Put_r19) (.seq (.seq (.reg false quietusref42_Put_r20) (.cond (.t 116) (.seq (.reg false quietusref42_Put_r21) (.reg false quietusref42_Put_r22)) (.skip))) (.seq (.reg false quietusref42_Put_r23) (.cond (.t 123) (.reg false quietusref42_Put_r24) (.skip)))))) (.reg false quietusref42_Put_r25))
abbrev quietusref42_Put_r26 : List AI := [
  ⟨some 132, .mv false (.t 9), none⟩,
  ⟨some 133, .not (.t 132), none⟩]
abbrev quietusref42_Put_r27 : List AI := [
  ⟨some 134, .mv true (.t 8), none⟩,
  ⟨some 135, .load true 7 (.t 3) .any, none⟩,
  ⟨some 136, .mkslice 7 1 (.agg [(.int .i64 0), (.int .i64 0), (.int .i64 0), (.str []), (.int .i64 0), (.int .i64 0), (.int .i64 0)]) [(0, (.t 135))], none⟩,
  ⟨some 137, .append 7 64 (.t 134) (.t 136), none⟩,
  ⟨some 8, .mv true (.t 137), none⟩]
abbrev quietusref42_Put_r28 : List AI := [
  ⟨some 12, .mv true (.c .nilS), none⟩]
abbrev quietusref42_Put_r29 : List AI := [
  ⟨some 138, .mv false (.t 8), none⟩,
  ⟨some 140, .faddr 0 (.t 2), none⟩,
  ⟨some 141, .load false 1 (.t 140) (.site 2), none⟩,
  ⟨some 139, .call (.c (.fn f_quietusref42_Bytes)) [(.t 138)] 2, none⟩,
  ⟨some 142, .bin .gtr (.t 139) (.t 141), none⟩]
abbrev quietusref42_Put_r30 : List AI := [
  ⟨some 13, .mv true (.c (.int .i64 (-1))), none⟩]
abbrev quietusref42_Put_r31 : List AI := [
  ⟨some 14, .mv true (.c (.int .i64 0)), none⟩]
abbrev quietusref42_Put_r32 : List AI := [
  ⟨some 143, .mv false (.t 14), none⟩,
  ⟨some 144, .mv false (.t 8), none⟩,
  ⟨some 145, .len false (.t 144), none⟩,
  ⟨some 146, .bin .lss (.t 143) (.t 145), none⟩]
abbrev quietusref42_Put_r33 : List AI := [
  ⟨some 149, .mv false (.t 8), none⟩,
  ⟨some 150, .mv false (.t 14), none⟩,
  ⟨some 151, .iaddr 7 (.t 149) (.t 150), none⟩,
  ⟨some 152, .faddr 0 (.t 151), none⟩,
  ⟨some 153, .load false 1 (.t 152) .foreign, none⟩,
  ⟨some 154, .faddr 0 (.t 3), none⟩,
  ⟨some 155, .load false 1 (.t 154) (.site 3), none⟩,
  ⟨some 156, .bin .eql (.t 153) (.t 155), none⟩,
  ⟨some 157, .mv false (.t 156), none⟩,
  ⟨some 158, .mv false (.t 8), some (157, true)⟩,
  ⟨some 159, .mv false (.t 14), some (157, true)⟩,
  ⟨some 160, .iaddr 7 (.t 158) (.t 159), some (157, true)⟩,
  ⟨some 161, .faddr 1 (.t 160), some (157, true)⟩,
  ⟨some 162, .load false 1 (.t 161) .foreign, some (157, true)⟩,
  ⟨some 163, .faddr 1 (.t 3), some (157, true)⟩,
  ⟨some 164, .load false 1 (.t 163) (.site 3), some (157, true)⟩,
  ⟨some 165, .bin .eql (.t 162) (.t 164), some (157, true)⟩,
  ⟨some 166, .pick (.t 157) (.t 165) (.c (.bool false)), none⟩,
  ⟨some 15, .mv true (.t 166), none⟩]
abbrev quietusref42_Put_r34 : List AI := [
  ⟨some 167, .mv false (.t 15), none⟩,
  ⟨some 168, .not (.t 167), none⟩,
  ⟨some 169, .mv false (.t 168), none⟩,
  ⟨some 170, .mv false (.t 13), some (169, true)⟩,
  ⟨some 171, .bin .lss (.t 170) (.c (.int .i64 0)), some (169, true)⟩,
  ⟨some 172, .mv false (.t 171), some (169, true)⟩,
  ⟨some 173, .mv false (.t 8), some (172, false)⟩,
  ⟨some 174, .mv false (.t 14), some (172, false)⟩,
  ⟨some 175, .iaddr 7 (.t 173) (.t 174), some (172, false)⟩,
  ⟨some 176, .faddr 6 (.t 175), some (172, false)⟩,
  ⟨some 177, .load false 1 (.t 176) .foreign, some (172, false)⟩,
  ⟨some 178, .mv false (.t 8), some (172, false)⟩,
  ⟨some 179, .mv false (.t 13), some (172, false)⟩,
  ⟨some 180, .iaddr 7 (.t 178) (.t 179), some (172, false)⟩,
  ⟨some 181, .faddr 6 (.t 180), some (172, false)⟩,
  ⟨some 182, .load false 1 (.t 181) .foreign, some (172, false)⟩,
  ⟨some 183, .bin .lss (.t 177) (.t 182), some (172, false)⟩,
  ⟨some 184, .pick (.t 172) (.c (.bool true)) (.t 183), some (169, true)⟩,
  ⟨some 185, .pick (.t 169) (.t 184) (.c (.bool false)), none⟩]
abbrev quietusref42_Put_r35 : List AI := [
  ⟨some 186, .mv false (.t 14), none⟩,
  ⟨some 13, .mv true (.t 186), none⟩]
abbrev quietusref42_Put_r36 : List AI := [
  ⟨some 147, .mv false (.t 14), none⟩,
  ⟨some 148, .bin .add (.t 147) (.c (.int .i64 1)), none⟩,
  ⟨some 14, .mv true (.t 148), none⟩]
abbrev quietusref42_Put_l1 : ACode := .seq (.seq (.reg false quietusref42_Put_r32) (.cond (.t 146) (.skip) (.exit 4))) (.seq (.block 5 (.seq (.reg true quietusref42_Put_r33) (.seq (.reg true quietusref42_Put_r34) (.cond (.t 185) (.reg false quietusref42_Put_r35) (.skip))))) (.reg false quietusref42_Put_r36))
abbrev quietusref42_Put_r37 : List AI := [
  ⟨some 187, .mv true (.t 12), none⟩,
  ⟨some 188, .mv false (.t 8), none⟩,
  ⟨some 189, .mv false (.t 13), none⟩,
  ⟨some 190, .iaddr 7 (.t 188) (.t 189), none⟩,
  ⟨some 191, .load true 7 (.t 190) .any, none⟩,
  ⟨some 192, .mkslice 7 1 (.agg [(.int .i64 0), (.int .i64 0), (.int .i64 0), (.str []), (.int .i64 0), (.int .i64 0), (.int .i64 0)]) [(0, (.t 191))], none⟩,
  ⟨some 193, .append 7 64 (.t 187) (.t 192), none⟩,
  ⟨some 12, .mv true (.t 193), none⟩]
abbrev quietusref42_Put_r38 : List AI := [
  ⟨some 194, .mkslice 7 0 (.agg [(.int .i64 0), (.int .i64 0), (.int .i64 0), (.str []), (.int .i64 0), (.int .i64 0), (.int .i64 0)]) [], none⟩,
  ⟨some 195, .mv false (.t 8), none⟩,
  ⟨some 196, .mv false (.t 13), none⟩,
  ⟨some 197, .sl 7 (.t 195) none (some (.t 196)), none⟩,
  ⟨some 198, .append 7 64 (.t 194) (.t 197), none⟩,
  ⟨some 199, .mv false (.t 8), none⟩,
  ⟨some 200, .mv false (.t 13), none⟩,
  ⟨some 201, .bin .add (.t 200) (.c (.int .i64 1)), none⟩,
  ⟨some 202, .sl 7 (.t 199) (some (.t 201)) none, none⟩,
  ⟨some 203, .append 7 64 (.t 198) (.t 202), none⟩,
  ⟨some 8, .mv true (.t 203), none⟩]
abbrev quietusref42_Put_l2 : ACode := .seq (.seq (.reg true quietusref42_Put_r29) (.cond (.t 142) (.skip) (.exit 2))) (.block 3 (.seq (.reg false quietusref42_Put_r30) (.seq (.seq (.reg false quietusref42_Put_r31) (.block 4 (.loop quietusref42_Put_l1))) (.seq (.reg false quietusref42_Put_r37) (.reg true quietusref42_Put_r38)))))
abbrev quietusref42_Put_r39 : List AI := [
  ⟨some 204, .faddr 0 (.t 2), none⟩,
  ⟨some 205, .load false 1 (.t 204) .any, none⟩,
  ⟨some 206, .faddr 1 (.t 2), none⟩,
  ⟨some 207, .load false 1 (.t 206) .any, none⟩,
  ⟨some 208, .mv false (.t 8), none⟩,
  ⟨some 209, .build [(.int .i64 0), (.int .i64 0), .nilS] [(0, 1, (.t 205)), (1, 1, (.t 207)), (2, 1, (.t 208))], none⟩,
  ⟨some 210, .mv false (.t 12), none⟩,
  ⟨some 211, .build [(.int .i64 0), (.int .i64 0), .nilS, .nilS, (.str []), (.int .i64 0), (.int .i64 0)] [(0, 3, (.t 209)), (3, 1, (.t 210))], none⟩,
  ⟨none, .store 7 (.t 4) (.t 211) .any, none⟩]
abbrev quietusref42_Put_c : ACode := .seq (.reg false quietusref42_Put_r0) (.seq (.reg false quietusref42_Put_r1) (.seq (.seq (.reg false quietusref42_Put_r2) (.cond (.t 19) (.seq (.reg false quietusref42_Put_r3) (.ret)) (.skip))) (.seq (.reg false quietusref42_Put_r4) (.seq (.seq (.reg false quietusref42_Put_r5) (.cond (.t 28) (.seq (.reg false quietusref42_Put_r6) (.ret)) (.skip))) (.seq (.seq (.reg false quietusref42_Put_r7) (.cond (.t 35) (.seq (.reg false quietusref42_Put_r8) (.ret)) (.skip))) (.seq (.reg false quietusref42_Put_r9) (.seq (.seq (.reg true quietusref42_Put_r10) (.cond (.t 79) (.seq (.reg false quietusref42_Put_r11) (.ret)) (.skip))) (.seq (.seq (.reg false quietusref42_Put_r12) (.cond (.t 87) (.seq (.reg false quietusref42_Put_r13) (.ret)) (.skip))) (.seq (.reg false quietusref42_Put_r14) (.seq (.reg false quietusref42_Put_r15) (.seq (.reg false quietusref42_Put_r16) (.seq (.seq (.reg false quietusref42_Put_r17) (.block 0 (.loop quietusref42_Put_l0))) (.seq (.seq (.reg false quietusref42_Put_r26) (.cond (.t 133) (.reg false quietusref42_Put_r27) (.skip))) (.seq (.reg false quietusref42_Put_r28) (.seq (.block 2 (.loop quietusref42_Put_l2)) (.seq (.reg false quietusref42_Put_r39) (.ret)))))))))))))))))
def quietusref42_Put_F : AFunc := ⟨212, [.cell 4 true 7], quietusref42_Put_c⟩

theorem quietusref42_Put_cp : compile Try.prog [] f_quietusref42_Put = some quietusref42_Put_F := by kernel_rfl

abbrev quietusref42_Get_r0 : List AI := [
  ⟨some 4, .box 3 (.t 0), none⟩,
  ⟨some 8, .alloc [(.int .i64 0), (.int .i64 0), .nilS, .nilS, (.str []), (.int .i64 0), (.int .i64 0)], none⟩]
abbrev quietusref42_Get_r1 : List AI := [
  ⟨some 12, .load true 3 (.t 4) .any, none⟩,
  ⟨some 13, .call (.c (.fn f_quietusref42_Check)) [(.t 12)] 0, none⟩,
  ⟨some 9, .mv true (.t 13), none⟩]
abbrev quietusref42_Get_r2 : List AI := [
  ⟨some 14, .mv false (.t 9), none⟩,
  ⟨some 15, .bin .neq (.t 14) (.c (.int .i64 0)), none⟩]
abbrev quietusref42_Get_r3 : List AI := [
  ⟨some 16, .load true 3 (.t 4) .any, none⟩,
  ⟨some 17, .mv false (.t 9), none⟩,
  ⟨some 18, .build [(.int .i64 0), (.int .i64 0), .nilS, .nilS, (.str []), (.int .i64 0), (.int .i64 0)] [(0, 3, (.t 16)), (6, 1, (.t 17))], none⟩,
  ⟨none, .store 7 (.t 8) (.t 18) .any, none⟩]
abbrev quietusref42_Get_r4 : List AI := [
  ⟨some 19, .faddr 2 (.t 4), none⟩,
  ⟨some 20, .load false 1 (.t 19) .any, none⟩,
  ⟨some 21, .mv false (.t 1), none⟩,
  ⟨some 22, .mv false (.t 2), none⟩,
  ⟨some 23, .call (.c (.fn f_quietusref42_Find)) [(.t 20), (.t 21), (.t 22)] 0, none⟩,
  ⟨some 10, .mv true (.t 23), none⟩]
abbrev quietusref42_Get_r5 : List AI := [
  ⟨some 24, .mv false (.t 10), none⟩,
  ⟨some 25, .bin .lss (.t 24) (.c (.int .i64 0)), none⟩]
abbrev quietusref42_Get_r6 : List AI := [
  ⟨some 26, .load true 3 (.t 4) .any, none⟩,
  ⟨some 27, .build [(.int .i64 0), (.int .i64 0), .nilS, .nilS, (.str []), (.int .i64 0), (.int .i64 0)] [(0, 3, (.t 26)), (6, 1, (.c (.int .i64 8)))], none⟩,
  ⟨none, .store 7 (.t 8) (.t 27) .any, none⟩]
abbrev quietusref42_Get_r7 : List AI := [
  ⟨some 28, .faddr 1 (.t 4), none⟩,
  ⟨some 29, .load false 1 (.t 28) (.site 4), none⟩,
  ⟨some 30, .faddr 2 (.t 4), none⟩,
  ⟨some 31, .load false 1 (.t 30) (.site 4), none⟩,
  ⟨some 32, .mv false (.t 10), none⟩,
  ⟨some 33, .iaddr 7 (.t 31) (.t 32), none⟩,
  ⟨some 34, .faddr 4 (.t 33), none⟩,
  ⟨some 35, .load false 1 (.t 34) .foreign, none⟩,
  ⟨some 36, .bin .sub (.t 29) (.t 35), none⟩,
  ⟨some 37, .mv false (.t 3), none⟩,
  ⟨some 38, .bin .gtr (.t 36) (.t 37), none⟩]
abbrev quietusref42_Get_r8 : List AI := [
  ⟨some 39, .load true 3 (.t 4) .any, none⟩,
  ⟨some 40, .build [(.int .i64 0), (.int .i64 0), .nilS, .nilS, (.str []), (.int .i64 0), (.int .i64 0)] [(0, 3, (.t 39)), (6, 1, (.c (.int .i64 15)))], none⟩,
  ⟨none, .store 7 (.t 8) (.t 40) .any, none⟩]
abbrev quietusref42_Get_r9 : List AI := [
  ⟨some 41, .faddr 0 (.t 4), none⟩,
  ⟨some 42, .load false 1 (.t 41) (.site 4), none⟩,
  ⟨some 43, .faddr 1 (.t 4), none⟩,
  ⟨some 44, .load false 1 (.t 43) (.site 4), none⟩,
  ⟨some 46, .faddr 2 (.t 4), none⟩,
  ⟨some 47, .load false 1 (.t 46) (.site 4), none⟩,
  ⟨some 11, .alloc [(.int .i64 0), (.int .i64 0), .nilS], none⟩,
  ⟨some 45, .mkG 7 0 (.agg [(.int .i64 0), (.int .i64 0), (.int .i64 0), (.str []), (.int .i64 0), (.int .i64 0), (.int .i64 0)]) [], none⟩,
  ⟨some 48, .appG 7 64 [(.int .i64 0), (.int .i64 0), (.int .i64 0), (.str []), (.int .i64 0), (.int .i64 0), (.int .i64 0)] (.t 45) (.t 47), none⟩,
  ⟨some 49, .build [(.int .i64 0), (.int .i64 0), .nilS] [(0, 1, (.t 42)), (1, 1, (.t 44)), (2, 1, (.t 48))], none⟩,
  ⟨none, .store 3 (.t 11) (.t 49) (.site 11), none⟩]
abbrev quietusref42_Get_r10 : List AI := [
  ⟨some 50, .faddr 2 (.t 11), none⟩,
  ⟨some 51, .load false 1 (.t 50) .any, none⟩,
  ⟨some 52, .mv false (.t 10), none⟩,
  ⟨some 53, .faddr 1 (.t 4), none⟩,
  ⟨some 54, .load false 1 (.t 53) .any, none⟩,
  ⟨some 55, .iaddr 7 (.t 51) (.t 52), none⟩,
  ⟨some 56, .faddr 6 (.t 55), none⟩,
  ⟨none, .store 1 (.t 56) (.t 54) .any, none⟩]
abbrev quietusref42_Get_r11 : List AI := [
  ⟨some 57, .load true 3 (.t 11) (.site 11), none⟩,
  ⟨some 58, .faddr 2 (.t 4), none⟩,
  ⟨some 59, .load false 1 (.t 58) (.site 4), none⟩,
  ⟨some 60, .mv false (.t 10), none⟩,
  ⟨some 61, .iaddr 7 (.t 59) (.t 60), none⟩,
  ⟨some 62, .faddr 3 (.t 61), none⟩,
  ⟨some 63, .load false 1 (.t 62) .foreign, none⟩,
  ⟨some 64, .build [(.int .i64 0), (.int .i64 0), .nilS, .nilS, (.str []), (.int .i64 0), (.int .i64 0)] [(0, 3, (.t 57)), (4, 1, (.t 63))], none⟩,
  ⟨none, .store 7 (.t 8) (.t 64) (.site 8), none⟩]
abbrev quietusref42_Get_c : ACode := .seq (.reg false quietusref42_Get_r0) (.seq (.reg false quietusref42_Get_r1) (.seq (.seq (.reg false quietusref42_Get_r2) (.cond (.t 15) (.seq (.reg false quietusref42_Get_r3) (.ret)) (.skip))) (.seq (.reg false quietusref42_Get_r4) (.seq (.seq (.reg false quietusref42_Get_r5) (.cond (.t 25) (.seq (.reg false quietusref42_Get_r6) (.ret)) (.skip))) (.seq (.seq (.reg true quietusref42_Get_r7) (.cond (.t 38) (.seq (.reg false quietusref42_Get_r8) (.ret)) (.skip))) (.seq (.reg true quietusref42_Get_r9) (.seq (.reg false quietusref42_Get_r10) (.seq (.reg true quietusref42_Get_r11) (.ret)))))))))
def quietusref42_Get_F : AFunc := ⟨65, [.cell 8 true 7], quietusref42_Get_c⟩

theorem quietusref42_Get_cp : compile Try.prog [45, 48] f_quietusref42_Get = some quietusref42_Get_F := by kernel_rfl

abbrev quietusref42_Forget_r0 : List AI := [
  ⟨some 2, .box 3 (.t 0), none⟩,
  ⟨some 4, .alloc [(.int .i64 0), (.int .i64 0), .nilS, .nilS, (.str []), (.int .i64 0), (.int .i64 0)], none⟩]
abbrev quietusref42_Forget_r1 : List AI := [
  ⟨some 9, .load true 3 (.t 2) .any, none⟩,
  ⟨some 10, .call (.c (.fn f_quietusref42_Check)) [(.t 9)] 0, none⟩,
  ⟨some 5, .mv true (.t 10), none⟩]
abbrev quietusref42_Forget_r2 : List AI := [
  ⟨some 11, .mv false (.t 5), none⟩,
  ⟨some 12, .bin .neq (.t 11) (.c (.int .i64 0)), none⟩]
abbrev quietusref42_Forget_r3 : List AI := [
  ⟨some 13, .load true 3 (.t 2) .any, none⟩,
  ⟨some 14, .mv false (.t 5), none⟩,
  ⟨some 15, .build [(.int .i64 0), (.int .i64 0), .nilS, .nilS, (.str []), (.int .i64 0), (.int .i64 0)] [(0, 3, (.t 13)), (6, 1, (.t 14))], none⟩,
  ⟨none, .store 7 (.t 4) (.t 15) .any, none⟩]
abbrev quietusref42_Forget_r4 : List AI := [
  ⟨some 16, .faddr 0 (.t 2), none⟩,
  ⟨some 17, .load false 1 (.t 16) .any, none⟩,
  ⟨some 18, .faddr 1 (.t 2), none⟩,
  ⟨some 19, .load false 1 (.t 18) .any, none⟩,
  ⟨some 20, .build [(.int .i64 0), (.int .i64 0), .nilS] [(0, 1, (.t 17)), (1, 1, (.t 19))], none⟩,
  ⟨some 6, .alloc [(.int .i64 0), (.int .i64 0), .nilS], none⟩,
  ⟨none, .store 3 (.t 6) (.t 20) .any, none⟩]
abbrev quietusref42_Forget_r5 : List AI := [
  ⟨some 7, .mv true (.c (.int .i64 0)), none⟩]
abbrev quietusref42_Forget_r6 : List AI := [
  ⟨some 8, .mv true (.c (.int .i64 0)), none⟩]
abbrev quietusref42_Forget_r7 : List AI := [
  ⟨some 21, .mv false (.t 8), none⟩,
  ⟨some 22, .faddr 2 (.t 2), none⟩,
  ⟨some 23, .load false 1 (.t 22) .any, none⟩,
  ⟨some 24, .len false (.t 23), none⟩,
  ⟨some 25, .bin .lss (.t 21) (.t 24), none⟩]
abbrev quietusref42_Forget_r8 : List AI := [
  ⟨some 28, .faddr 2 (.t 2), none⟩,
  ⟨some 29, .load false 1 (.t 28) .any, none⟩,
  ⟨some 30, .mv false (.t 8), none⟩,
  ⟨some 31, .iaddr 7 (.t 29) (.t 30), none⟩,
  ⟨some 32, .faddr 0 (.t 31), none⟩,
  ⟨some 33, .load false 1 (.t 32) .any, none⟩,
  ⟨some 34, .mv false (.t 1), none⟩,
  ⟨some 35, .bin .eql (.t 33) (.t 34), none⟩]
abbrev quietusref42_Forget_r9 : List AI := [
  ⟨some 36, .mv false (.t 7), none⟩,
  ⟨some 37, .bin .add (.t 36) (.c (.int .i64 1)), none⟩,
  ⟨some 7, .mv true (.t 37), none⟩]
abbrev quietusref42_Forget_r10 : List AI := [
  ⟨some 38, .faddr 2 (.t 6), none⟩,
  ⟨some 39, .load false 1 (.t 38) (.site 6), none⟩,
  ⟨some 40, .faddr 2 (.t 2), none⟩,
  ⟨some 41, .load false 1 (.t 40) (.site 2), none⟩,
  ⟨some 42, .mv false (.t 8), none⟩,
  ⟨some 43, .iaddr 7 (.t 41) (.t 42), none⟩,
  ⟨some 44, .load true 7 (.t 43) .foreign, none⟩,
  ⟨some 45, .mkslice 7 1 (.agg [(.int .i64 0), (.int .i64 0), (.int .i64 0), (.str []), (.int .i64 0), (.int .i64 0), (.int .i64 0)]) [(0, (.t 44))], none⟩,
  ⟨some 46, .appG 7 64 [(.int .i64 0), (.int .i64 0), (.int .i64 0), (.str []), (.int .i64 0), (.int .i64 0), (.int .i64 0)] (.t 39) (.t 45), none⟩,
  ⟨some 47, .faddr 2 (.t 6), none⟩,
  ⟨none, .store 1 (.t 47) (.t 46) (.site 6), none⟩]
abbrev quietusref42_Forget_r11 : List AI := [
  ⟨some 26, .mv false (.t 8), none⟩,
  ⟨some 27, .bin .add (.t 26) (.c (.int .i64 1)), none⟩,
  ⟨some 8, .mv true (.t 27), none⟩]
abbrev quietusref42_Forget_l0 : ACode := .seq (.seq (.reg false quietusref42_Forget_r7) (.cond (.t 25) (.skip) (.exit 0))) (.seq (.block 1 (.seq (.reg false quietusref42_Forget_r8) (.cond (.t 35) (.reg false quietusref42_Forget_r9) (.reg true quietusref42_Forget_r10)))) (.reg false quietusref42_Forget_r11))
abbrev quietusref42_Forget_r12 : List AI := [
  ⟨some 48, .load true 3 (.t 6) .any, none⟩,
  ⟨some 49, .mv false (.t 7), none⟩,
  ⟨some 50, .build [(.int .i64 0), (.int .i64 0), .nilS, .nilS, (.str []), (.int .i64 0), (.int .i64 0)] [(0, 3, (.t 48)), (5, 1, (.t 49))], none⟩,
  ⟨none, .store 7 (.t 4) (.t 50) .any, none⟩]
abbrev quietusref42_Forget_c : ACode := .seq (.reg false quietusref42_Forget_r0) (.seq (.reg false quietusref42_Forget_r1) (.seq (.seq (.reg false quietusref42_Forget_r2) (.cond (.t 12) (.seq (.reg false quietusref42_Forget_r3) (.ret)) (.skip))) (.seq (.reg false quietusref42_Forget_r4) (.seq (.reg false quietusref42_Forget_r5) (.seq (.seq (.reg false quietusref42_Forget_r6) (.block 0 (.loop quietusref42_Forget_l0))) (.seq (.reg false quietusref42_Forget_r12) (.ret)))))))
def quietusref42_Forget_F : AFunc := ⟨51, [.cell 4 true 7], quietusref42_Forget_c⟩

theorem quietusref42_Forget_cp : compile Try.prog [46] f_quietusref42_Forget = some quietusref42_Forget_F := by kernel_rfl

abbrev cache_find_r0 : List AI := [
  ⟨some 3, .box 3 (.t 0), none⟩,
  ⟨some 6, .mv true (.c (.int .i64 0)), none⟩,
  ⟨some 7, .mv true (.c (.bool false)), none⟩]
abbrev cache_find_r1 : List AI := [
  ⟨some 8, .faddr 2 (.t 3), none⟩,
  ⟨some 9, .load false 1 (.t 8) .any, none⟩,
  ⟨some 10, .mv false (.t 1), none⟩,
  ⟨some 11, .mv false (.t 2), none⟩,
  ⟨some 12, .build [(.int .i64 0), (.int .i64 0), (.int .i64 0), (.str []), (.int .i64 0), (.int .i64 0), (.int .i64 0)] [(0, 1, (.t 10)), (1, 1, (.t 11))], none⟩,
  ⟨some 13, .call (.c (.fn f_slices_BinarySearchFunc_api_Kept_api_Kept_api_Kept)) [(.t 9), (.t 12), (.c (.fn f_cache_compare))] 0, none⟩,
  ⟨some 14, .ext (.t 13) 0, none⟩,
  ⟨some 15, .ext (.t 13) 1, none⟩,
  ⟨some 6, .mv true (.t 14), none⟩,
  ⟨some 7, .mv true (.t 15), none⟩]
abbrev cache_find_c : ACode := .seq (.reg false cache_find_r0) (.seq (.reg false cache_find_r1) (.ret))
def cache_find_F : AFunc := ⟨16, [.tmp 6, .tmp 7], cache_find_c⟩

theorem cache_find_cp : compile Try.prog [] f_cache_find = some cache_find_F := by kernel_rfl

abbrev slices_Clone_api_Kept_api_Kept_r0 : List AI := [
  ⟨some 2, .mv true (.c .nilS), none⟩]
abbrev slices_Clone_api_Kept_api_Kept_r1 : List AI := [
  ⟨some 3, .mv false (.t 0), none⟩,
  ⟨some 4, .isnil false (.t 3), none⟩]
abbrev slices_Clone_api_Kept_api_Kept_r2 : List AI := [
  ⟨some 2, .mv true (.c .nilS), none⟩]
abbrev slices_Clone_api_Kept_api_Kept_r3 : List AI := [
  ⟨some 5, .mkG 7 0 (.agg [(.int .i64 0), (.int .i64 0), (.int .i64 0), (.str []), (.int .i64 0), (.int .i64 0), (.int .i64 0)]) [], none⟩,
  ⟨some 6, .mv false (.t 0), none⟩,
  ⟨some 7, .appG 7 64 [(.int .i64 0), (.int .i64 0), (.int .i64 0), (.str []), (.int .i64 0), (.int .i64 0), (.int .i64 0)] (.t 5) (.t 6), none⟩,
  ⟨some 2, .mv true (.t 7), none⟩]
abbrev slices_Clone_api_Kept_api_Kept_c : ACode := .seq (.reg false slices_Clone_api_Kept_api_Kept_r0) (.seq (.seq (.reg false slices_Clone_api_Kept_api_Kept_r1) (.cond (.t 4) (.seq (.reg false slices_Clone_api_Kept_api_Kept_r2) (.ret)) (.skip))) (.seq (.reg false slices_Clone_api_Kept_api_Kept_r3) (.ret)))
def slices_Clone_api_Kept_api_Kept_F : AFunc := ⟨8, [.tmp 2], slices_Clone_api_Kept_api_Kept_c⟩

theorem slices_Clone_api_Kept_api_Kept_cp : compile Try.prog [5, 7] f_slices_Clone_api_Kept_api_Kept = some slices_Clone_api_Kept_api_Kept_F := by kernel_rfl

abbrev slices_Insert_api_Kept_api_Kept_r0 : List AI := [
  ⟨some 6, .mv true (.c .nilS), none⟩]
abbrev slices_Insert_api_Kept_api_Kept_r1 : List AI := [
  ⟨some 10, .mv false (.t 0), none⟩,
  ⟨some 11, .mv false (.t 1), none⟩,
  ⟨some 12, .sl 7 (.t 10) (some (.t 11)) none, none⟩]
abbrev slices_Insert_api_Kept_api_Kept_r2 : List AI := [
  ⟨some 13, .mv false (.t 2), none⟩,
  ⟨some 14, .len false (.t 13), none⟩,
  ⟨some 7, .mv true (.t 14), none⟩]
abbrev slices_Insert_api_Kept_api_Kept_r3 : List AI := [
  ⟨some 15, .mv false (.t 7), none⟩,
  ⟨some 16, .bin .eql (.t 15) (.c (.int .i64 0)), none⟩]
abbrev slices_Insert_api_Kept_api_Kept_r4 : List AI := [
  ⟨some 17, .mv false (.t 0), none⟩,
  ⟨some 6, .mv true (.t 17), none⟩]
abbrev slices_Insert_api_Kept_api_Kept_r5 : List AI := [
  ⟨some 18, .mv false (.t 0), none⟩,
  ⟨some 19, .len false (.t 18), none⟩,
  ⟨some 8, .mv true (.t 19), none⟩]
abbrev slices_Insert_api_Kept_api_Kept_r6 : List AI := [
  ⟨some 20, .mv false (.t 1), none⟩,
  ⟨some 21, .mv false (.t 8), none⟩,
  ⟨some 22, .bin .eql (.t 20) (.t 21), none⟩]
abbrev slices_Insert_api_Kept_api_Kept_r7 : List AI := [
  ⟨some 23, .mv true (.t 0), none⟩,
  ⟨some 24, .mv false (.t 2), none⟩,
  ⟨some 25, .appG 7 64 [(.int .i64 0), (.int .i64 0), (.int .i64 0), (.str []), (.int .i64 0), (.int .i64 0), (.int .i64 0)] (.t 23) (.t 24), none⟩,
  ⟨some 6, .mv true (.t 25), none⟩]
abbrev slices_Insert_api_Kept_api_Kept_r8 : List AI := [
  ⟨some 26, .mv false (.t 8), none⟩,
  ⟨some 27, .mv false (.t 7), none⟩,
  ⟨some 28, .bin .add (.t 26) (.t 27), none⟩,
  ⟨some 29, .mv false (.t 0), none⟩,
  ⟨some 30, .cap (.t 29), none⟩,
  ⟨some 31, .bin .gtr (.t 28) (.t 30), none⟩]
abbrev slices_Insert_api_Kept_api_Kept_r9 : List AI := [
  ⟨some 32, .mv false (.t 0), none⟩,
  ⟨some 33, .mv false (.t 1), none⟩,
  ⟨some 34, .sl 7 (.t 32) none (some (.t 33)), none⟩,
  ⟨some 35, .mv false (.t 8), none⟩,
  ⟨some 36, .mv false (.t 7), none⟩,
  ⟨some 37, .bin .add (.t 35) (.t 36), none⟩,
  ⟨some 38, .mv false (.t 1), none⟩,
  ⟨some 39, .bin .sub (.t 37) (.t 38), none⟩,
  ⟨some 40, .appZ 7 64 [(.int .i64 0), (.int .i64 0), (.int .i64 0), (.str []), (.int .i64 0), (.int .i64 0), (.int .i64 0)] (.t 34) (.t 39), none⟩,
  ⟨some 9, .mv true (.t 40), none⟩]
abbrev slices_Insert_api_Kept_api_Kept_r10 : List AI := [
  ⟨some 41, .mv false (.t 9), none⟩,
  ⟨some 42, .mv false (.t 1), none⟩,
  ⟨some 43, .sl 7 (.t 41) (some (.t 42)) none, none⟩,
  ⟨some 44, .mv false (.t 2), none⟩,
  ⟨some 45, .copy 7 (.t 43) (.t 44), none⟩]
abbrev slices_Insert_api_Kept_api_Kept_r11 : List AI := [
  ⟨some 46, .mv false (.t 9), none⟩,
  ⟨some 47, .mv false (.t 1), none⟩,
  ⟨some 48, .mv false (.t 7), none⟩,
  ⟨some 49, .bin .add (.t 47) (.t 48), none⟩,
  ⟨some 50, .sl 7 (.t 46) (some (.t 49)) none, none⟩,
  ⟨some 51, .mv false (.t 0), none⟩,
  ⟨some 52, .mv false (.t 1), none⟩,
  ⟨some 53, .sl 7 (.t 51) (some (.t 52)) none, none⟩,
  ⟨some 54, .copy 7 (.t 50) (.t 53), none⟩]
abbrev slices_Insert_api_Kept_api_Kept_r12 : List AI := [
  ⟨some 55, .mv false (.t 9), none⟩,
  ⟨some 6, .mv true (.t 55), none⟩]
abbrev slices_Insert_api_Kept_api_Kept_b0 : ACode := .seq (.reg false slices_Insert_api_Kept_api_Kept_r9) (.seq (.reg false slices_Insert_api_Kept_api_Kept_r10) (.seq (.reg true slices_Insert_api_Kept_api_Kept_r11) (.seq (.reg false slices_Insert_api_Kept_api_Kept_r12) (.ret))))
abbrev slices_Insert_api_Kept_api_Kept_r13 : List AI := [
  ⟨some 56, .mv false (.t 0), none⟩,
  ⟨some 57, .mv false (.t 8), none⟩,
  ⟨some 58, .mv false (.t 7), none⟩,
  ⟨some 59, .bin .add (.t 57) (.t 58), none⟩,
  ⟨some 60, .sl 7 (.t 56) none (some (.t 59)), none⟩,
  ⟨some 0, .mv true (.t 60), none⟩]
abbrev slices_Insert_api_Kept_api_Kept_r14 : List AI := [
  ⟨some 61, .mv false (.t 2), none⟩,
  ⟨some 62, .mv false (.t 0), none⟩,
  ⟨some 63, .mv false (.t 1), none⟩,
  ⟨some 64, .mv false (.t 7), none⟩,
  ⟨some 65, .bin .add (.t 63) (.t 64), none⟩,
  ⟨some 66, .sl 7 (.t 62) (some (.t 65)) none, none⟩,
  ⟨some 67, .call (.c (.fn f_slices_overlaps_api_Kept)) [(.t 61), (.t 66)] 0, none⟩,
  ⟨some 68, .not (.t 67), none⟩]
abbrev slices_Insert_api_Kept_api_Kept_r15 : List AI := [
  ⟨some 69, .mv false (.t 0), none⟩,
  ⟨some 70, .mv false (.t 1), none⟩,
  ⟨some 71, .mv false (.t 7), none⟩,
  ⟨some 72, .bin .add (.t 70) (.t 71), none⟩,
  ⟨some 73, .sl 7 (.t 69) (some (.t 72)) none, none⟩,
  ⟨some 74, .mv false (.t 0), none⟩,
  ⟨some 75, .mv false (.t 1), none⟩,
  ⟨some 76, .sl 7 (.t 74) (some (.t 75)) none, none⟩,
  ⟨some 77, .copy 7 (.t 73) (.t 76), none⟩]
abbrev slices_Insert_api_Kept_api_Kept_r16 : List AI := [
  ⟨some 78, .mv false (.t 0), none⟩,
  ⟨some 79, .mv false (.t 1), none⟩,
  ⟨some 80, .sl 7 (.t 78) (some (.t 79)) none, none⟩,
  ⟨some 81, .mv false (.t 2), none⟩,
  ⟨some 82, .copy 7 (.t 80) (.t 81), none⟩]
abbrev slices_Insert_api_Kept_api_Kept_r17 : List AI := [
  ⟨some 83, .mv false (.t 0), none⟩,
  ⟨some 6, .mv true (.t 83), none⟩]
abbrev slices_Insert_api_Kept_api_Kept_b1 : ACode := .seq (.reg true slices_Insert_api_Kept_api_Kept_r15) (.seq (.reg false slices_Insert_api_Kept_api_Kept_r16) (.seq (.reg false slices_Insert_api_Kept_api_Kept_r17) (.ret)))
abbrev slices_Insert_api_Kept_api_Kept_r18 : List AI := [
  ⟨some 84, .mv false (.t 0), none⟩,
  ⟨some 85, .mv false (.t 8), none⟩,
  ⟨some 86, .sl 7 (.t 84) (some (.t 85)) none, none⟩,
  ⟨some 87, .mv false (.t 2), none⟩,
  ⟨some 88, .copy 7 (.t 86) (.t 87), none⟩]
abbrev slices_Insert_api_Kept_api_Kept_r19 : List AI := [
  ⟨some 89, .mv false (.t 0), none⟩,
  ⟨some 90, .mv false (.t 1), none⟩,
  ⟨some 91, .sl 7 (.t 89) (some (.t 90)) none, none⟩,
  ⟨some 92, .mv false (.t 7), none⟩,
  ⟨some 93, .call (.c (.fn f_slices_rotateRight_api_Kept)) [(.t 91), (.t 92)] 0, none⟩]
abbrev slices_Insert_api_Kept_api_Kept_r20 : List AI := [
  ⟨some 94, .mv false (.t 0), none⟩,
  ⟨some 6, .mv true (.t 94), none⟩]
abbrev slices_Insert_api_Kept_api_Kept_c : ACode := .seq (.reg false slices_Insert_api_Kept_api_Kept_r0) (.seq (.reg false slices_Insert_api_Kept_api_Kept_r1) (.seq (.reg false slices_Insert_api_Kept_api_Kept_r2) (.seq (.seq (.reg false slices_Insert_api_Kept_api_Kept_r3) (.cond (.t 16) (.seq (.reg false slices_Insert_api_Kept_api_Kept_r4) (.ret)) (.skip))) (.seq (.reg false slices_Insert_api_Kept_api_Kept_r5) (.seq (.seq (.reg false slices_Insert_api_Kept_api_Kept_r6) (.cond (.t 22) (.seq (.reg false slices_Insert_api_Kept_api_Kept_r7) (.ret)) (.skip))) (.seq (.seq (.reg false slices_Insert_api_Kept_api_Kept_r8) (.cond (.t 31) (slices_Insert_api_Kept_api_Kept_b0) (.skip))) (.seq (.reg false slices_Insert_api_Kept_api_Kept_r13) (.seq (.seq (.reg false slices_Insert_api_Kept_api_Kept_r14) (.cond (.t 68) (slices_Insert_api_Kept_api_Kept_b1) (.skip))) (.seq (.reg false slices_Insert_api_Kept_api_Kept_r18) (.seq (.reg false slices_Insert_api_Kept_api_Kept_r19) (.seq (.reg false slices_Insert_api_Kept_api_Kept_r20) (.ret))))))))))))
def slices_Insert_api_Kept_api_Kept_F : AFunc := ⟨95, [.tmp 6], slices_Insert_api_Kept_api_Kept_c⟩

theorem slices_Insert_api_Kept_api_Kept_cp : compile Try.prog [25] f_slices_Insert_api_Kept_api_Kept = some slices_Insert_api_Kept_api_Kept_F := by kernel_rfl

abbrev cache_keep_api_Kept_r0 : List AI := [
  ⟨some 4, .mv true (.c .nilS), none⟩]
abbrev cache_keep_api_Kept_r1 : List AI := [
  ⟨some 5, .mv true (.c .nilS), none⟩]
abbrev cache_keep_api_Kept_r2 : List AI := [
  ⟨some 8, .mv false (.t 0), none⟩,
  ⟨some 9, .len false (.t 8), none⟩,
  ⟨some 10, .mv false (.c (.int .i64 0)), none⟩]
abbrev cache_keep_api_Kept_r3 : List AI := [
  ⟨some 11, .bin .lss (.t 10) (.t 9), none⟩]
abbrev cache_keep_api_Kept_r4 : List AI := [
  ⟨some 12, .iaddr 7 (.t 8) (.t 10), none⟩,
  ⟨some 13, .load true 7 (.t 12) .any, none⟩,
  ⟨some 7, .alloc [(.int .i64 0), (.int .i64 0), (.int .i64 0), (.str []), (.int .i64 0), (.int .i64 0), (.int .i64 0)], none⟩,
  ⟨none, .store 7 (.t 7) (.t 13) .any, none⟩]
abbrev cache_keep_api_Kept_r5 : List AI := [
  ⟨some 14, .mv false (.t 1), none⟩,
  ⟨some 15, .load true 7 (.t 7) .any, none⟩,
  ⟨some 16, .call (.t 14) [(.t 15)] 0, none⟩]
abbrev cache_keep_api_Kept_r6 : List AI := [
  ⟨some 17, .mv true (.t 5), none⟩,
  ⟨some 18, .load true 7 (.t 7) .any, none⟩,
  ⟨some 19, .mkslice 7 1 (.agg [(.int .i64 0), (.int .i64 0), (.int .i64 0), (.str []), (.int .i64 0), (.int .i64 0), (.int .i64 0)]) [(0, (.t 18))], none⟩,
  ⟨some 20, .append 7 64 (.t 17) (.t 19), none⟩,
  ⟨some 5, .mv true (.t 20), none⟩]
abbrev cache_keep_api_Kept_r7 : List AI := [
  ⟨some 21, .bin .add (.t 10) (.c (.int .i64 1)), none⟩,
  ⟨some 10, .mv false (.t 21), none⟩]
abbrev cache_keep_api_Kept_l0 : ACode := .seq (.reg false cache_keep_api_Kept_r3) (.seq (.cond (.t 11) (.skip) (.exit 0)) (.seq (.block 1 (.seq (.reg false cache_keep_api_Kept_r4) (.seq (.reg false cache_keep_api_Kept_r5) (.cond (.t 16) (.reg false cache_keep_api_Kept_r6) (.skip))))) (.reg false cache_keep_api_Kept_r7)))
abbrev cache_keep_api_Kept_r8 : List AI := [
  ⟨some 22, .mv false (.t 5), none⟩,
  ⟨some 4, .mv true (.t 22), none⟩]
abbrev cache_keep_api_Kept_c : ACode := .seq (.reg false cache_keep_api_Kept_r0) (.seq (.reg false cache_keep_api_Kept_r1) (.seq (.seq (.reg false cache_keep_api_Kept_r2) (.block 0 (.loop cache_keep_api_Kept_l0))) (.seq (.reg false cache_keep_api_Kept_r8) (.ret))))
def cache_keep_api_Kept_F : AFunc := ⟨23, [.tmp 4], cache_keep_api_Kept_c⟩

theorem cache_keep_api_Kept_cp : compile Try.prog [] f_cache_keep_api_Kept = some cache_keep_api_Kept_F := by kernel_rfl

abbrev cache_Tick_1_r0 : List AI := [
  ⟨some 2, .box 7 (.t 0), none⟩,
  ⟨some 3, .mv true (.c (.bool false)), none⟩]
abbrev cache_Tick_1_r1 : List AI := [
  ⟨some 4, .faddr 5 (.t 2), none⟩,
  ⟨some 5, .load false 1 (.t 4) .any, none⟩,
  ⟨some 6, .load false 1 (.t 1) .any, none⟩,
  ⟨some 7, .bin .geq (.t 5) (.t 6), none⟩,
  ⟨some 3, .mv true (.t 7), none⟩]
abbrev cache_Tick_1_c : ACode := .seq (.reg false cache_Tick_1_r0) (.seq (.reg false cache_Tick_1_r1) (.ret))
def cache_Tick_1_F : AFunc := ⟨8, [.tmp 3], cache_Tick_1_c⟩

theorem cache_Tick_1_cp : compile Try.prog [] f_cache_Tick_1 = some cache_Tick_1_F := by kernel_rfl

abbrev cache_Forget_1_r0 : List AI := [
  ⟨some 2, .box 7 (.t 0), none⟩,
  ⟨some 3, .mv true (.c (.bool false)), none⟩]
abbrev cache_Forget_1_r1 : List AI := [
  ⟨some 4, .faddr 0 (.t 2), none⟩,
  ⟨some 5, .load false 1 (.t 4) .any, none⟩,
  ⟨some 6, .load false 1 (.t 1) .any, none⟩,
  ⟨some 7, .bin .neq (.t 5) (.t 6), none⟩,
  ⟨some 3, .mv true (.t 7), none⟩]
abbrev cache_Forget_1_c : ACode := .seq (.reg false cache_Forget_1_r0) (.seq (.reg false cache_Forget_1_r1) (.ret))
def cache_Forget_1_F : AFunc := ⟨8, [.tmp 3], cache_Forget_1_c⟩

theorem cache_Forget_1_cp : compile Try.prog [] f_cache_Forget_1 = some cache_Forget_1_F := by kernel_rfl

abbrev cache_right_1_r0 : List AI := [
  ⟨some 2, .mv true (.c (.bool false)), none⟩]
abbrev cache_right_1_r1 : List AI := [
  ⟨some 3, .mv false (.t 0), none⟩,
  ⟨some 4, .bin .geq (.t 3) (.c (.int .i64 0)), none⟩,
  ⟨some 5, .mv false (.t 4), none⟩,
  ⟨some 6, .mv false (.t 0), some (5, true)⟩,
  ⟨some 7, .bin .leq (.t 6) (.c (.int .i64 1099511627776)), some (5, true)⟩,
  ⟨some 8, .pick (.t 5) (.t 7) (.c (.bool false)), none⟩,
  ⟨some 2, .mv true (.t 8), none⟩]
abbrev cache_right_1_c : ACode := .seq (.reg false cache_right_1_r0) (.seq (.reg false cache_right_1_r1) (.ret))
def cache_right_1_F : AFunc := ⟨9, [.tmp 2], cache_right_1_c⟩

theorem cache_right_1_cp : compile Try.prog [] f_cache_right_1 = some cache_right_1_F := by kernel_rfl

abbrev slices_BinarySearchFunc_api_Kept_api_Kept_api_Kept_r0 : List AI := [
  ⟨some 4, .box 7 (.t 1), none⟩,
  ⟨some 6, .mv true (.c (.int .i64 0)), none⟩,
  ⟨some 7, .mv true (.c (.bool false)), none⟩]
abbrev slices_BinarySearchFunc_api_Kept_api_Kept_api_Kept_r1 : List AI := [
  ⟨some 12, .mv false (.t 0), none⟩,
  ⟨some 13, .len false (.t 12), none⟩,
  ⟨some 8, .mv true (.t 13), none⟩]
abbrev slices_BinarySearchFunc_api_Kept_api_Kept_api_Kept_r2 : List AI := [
  ⟨some 14, .mv false (.t 8), none⟩,
  ⟨some 9, .mv true (.c (.int .i64 0)), none⟩,
  ⟨some 10, .mv true (.t 14), none⟩]
abbrev slices_BinarySearchFunc_api_Kept_api_Kept_api_Kept_r3 : List AI := [
  ⟨some 15, .mv false (.t 9), none⟩,
  ⟨some 16, .mv false (.t 10), none⟩,
  ⟨some 17, .bin .lss (.t 15) (.t 16), none⟩]
abbrev slices_BinarySearchFunc_api_Kept_api_Kept_api_Kept_r4 : List AI := [
  ⟨some 18, .mv false (.t 9), none⟩,
  ⟨some 19, .mv false (.t 10), none⟩,
  ⟨some 20, .bin .add (.t 18) (.t 19), none⟩,
  ⟨some 21, .conv .u64 (.t 20), none⟩,
  ⟨some 22, .bin .shr (.t 21) (.c (.int .u64 1)), none⟩,
  ⟨some 23, .conv .i64 (.t 22), none⟩,
  ⟨some 11, .mv true (.t 23), none⟩]
abbrev slices_BinarySearchFunc_api_Kept_api_Kept_api_Kept_r5 : List AI := [
  ⟨some 24, .mv false (.t 2), none⟩,
  ⟨some 25, .mv false (.t 0), none⟩,
  ⟨some 26, .mv false (.t 11), none⟩,
  ⟨some 27, .iaddr 7 (.t 25) (.t 26), none⟩,
  ⟨some 28, .load true 7 (.t 27) .foreign, none⟩,
  ⟨some 29, .load true 7 (.t 4) (.site 4), none⟩,
  ⟨some 30, .call (.t 24) [(.t 28), (.t 29)] 3, none⟩,
  ⟨some 31, .bin .lss (.t 30) (.c (.int .i64 0)), none⟩]
abbrev slices_BinarySearchFunc_api_Kept_api_Kept_api_Kept_r6 : List AI := [
  ⟨some 32, .mv false (.t 11), none⟩,
  ⟨some 33, .bin .add (.t 32) (.c (.int .i64 1)), none⟩,
  ⟨some 9, .mv true (.t 33), none⟩]
abbrev slices_BinarySearchFunc_api_Kept_api_Kept_api_Kept_r7 : List AI := [
  ⟨some 34, .mv false (.t 11), none⟩,
  ⟨some 10, .mv true (.t 34), none⟩]
abbrev slices_BinarySearchFunc_api_Kept_api_Kept_api_Kept_l0 : ACode := .seq (.seq (.reg false slices_BinarySearchFunc_api_Kept_api_Kept_api_Kept_r3) (.cond (.t 17) (.skip) (.exit 0))) (.block 1 (.seq (.reg false slices_BinarySearchFunc_api_Kept_api_Kept_api_Kept_r4) (.seq (.reg true slices_BinarySearchFunc_api_Kept_api_Kept_api_Kept_r5) (.cond (.t 31) (.reg false slices_BinarySearchFunc_api_Kept_api_Kept_api_Kept_r6) (.reg false slices_BinarySearchFunc_api_Kept_api_Kept_api_Kept_r7)))))
abbrev slices_BinarySearchFunc_api_Kept_api_Kept_api_Kept_r8 : List AI := [
  ⟨some 35, .mv false (.t 9), none⟩,
  ⟨some 36, .mv false (.t 9), none⟩,
  ⟨some 37, .mv false (.t 8), none⟩,
  ⟨some 38, .bin .lss (.t 36) (.t 37), none⟩,
  ⟨some 39, .mv false (.t 38), none⟩,
  ⟨some 40, .mv false (.t 2), some (39, true)⟩,
  ⟨some 41, .mv false (.t 0), some (39, true)⟩,
  ⟨some 42, .mv false (.t 9), some (39, true)⟩,
  ⟨some 43, .iaddr 7 (.t 41) (.t 42), some (39, true)⟩,
  ⟨some 44, .load true 7 (.t 43) .foreign, some (39, true)⟩,
  ⟨some 45, .load true 7 (.t 4) (.site 4), some (39, true)⟩,
  ⟨some 46, .call (.t 40) [(.t 44), (.t 45)] 3, some (39, true)⟩,
  ⟨some 47, .bin .eql (.t 46) (.c (.int .i64 0)), some (39, true)⟩,
  ⟨some 48, .pick (.t 39) (.t 47) (.c (.bool false)), none⟩,
  ⟨some 6, .mv true (.t 35), none⟩,
  ⟨some 7, .mv true (.t 48), none⟩]
abbrev slices_BinarySearchFunc_api_Kept_api_Kept_api_Kept_c : ACode := .seq (.reg false slices_BinarySearchFunc_api_Kept_api_Kept_api_Kept_r0) (.seq (.reg false slices_BinarySearchFunc_api_Kept_api_Kept_api_Kept_r1) (.seq (.reg false slices_BinarySearchFunc_api_Kept_api_Kept_api_Kept_r2) (.seq (.block 0 (.loop slices_BinarySearchFunc_api_Kept_api_Kept_api_Kept_l0)) (.seq (.reg true slices_BinarySearchFunc_api_Kept_api_Kept_api_Kept_r8) (.ret)))))
def slices_BinarySearchFunc_api_Kept_api_Kept_api_Kept_F : AFunc := ⟨49, [.tmp 6, .tmp 7], slices_BinarySearchFunc_api_Kept_api_Kept_api_Kept_c⟩

theorem slices_BinarySearchFunc_api_Kept_api_Kept_api_Kept_cp : compile Try.prog [] f_slices_BinarySearchFunc_api_Kept_api_Kept_api_Kept = some slices_BinarySearchFunc_api_Kept_api_Kept_api_Kept_F := by kernel_rfl

theorem fol : Try.prog.follows .mixedOrders = true := by kernel_rfl
end
end Go.Proofs.Ytpooocblijlabaa
