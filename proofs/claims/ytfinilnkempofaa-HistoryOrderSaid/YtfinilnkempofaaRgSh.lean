/- A part of the proof: RgSh. Its conditions: none. -/
import Derived.Test.YtfinilnkempofaaAm18
import Derived.Test.YtfinilnkempofaaChecked
set_option linter.all false
set_option linter.unusedVariables false
set_option linter.unusedSimpArgs false
set_option linter.unnecessarySimpa false
namespace Go.Proofs.Ytfinilnkempofaa
open Go Go.Am
set_option linter.unusedVariables false
noncomputable abbrev PP : Program := Try.prog
abbrev n_main_main : FuncId := 0
abbrev n_gosem_cut : FuncId := 1
abbrev n_gosem_cut_init : FuncId := 2
abbrev n_twainlaw36_HistoryTells : FuncId := 3
abbrev n_twainlaw36_HistoryOrder : FuncId := 4
abbrev n_twainlaw37_RegisterFits : FuncId := 5
abbrev n_twainlaw37_RegisterOrders : FuncId := 6
abbrev n_twainlaw49_GhostTells : FuncId := 7
abbrev n_twainlaw49_GhostOrder : FuncId := 8
abbrev n_twainlaw36_Few : FuncId := 9
abbrev n_twainlaw36_lives : FuncId := 10
abbrev n_twainlaw36_Raw : FuncId := 11
abbrev n_twainref36_Same : FuncId := 12
abbrev n_twainlaw36_Ops : FuncId := 13
abbrev n_history_Ops : FuncId := 14
abbrev n_twainref36_Ops : FuncId := 15
abbrev n_twainref01_Ints : FuncId := 16
abbrev n_history_Open : FuncId := 17
abbrev n_twainref36_Open : FuncId := 18
abbrev n_history_Odd : FuncId := 19
abbrev n_twainref36_Odd : FuncId := 20
abbrev n_twainlaw37_lives : FuncId := 21
abbrev n_register_Fits : FuncId := 22
abbrev n_twainlaw37_Raw : FuncId := 23
abbrev n_twainref37_Fits : FuncId := 24
abbrev n_register_Right : FuncId := 25
abbrev n_register_Order : FuncId := 26
abbrev n_twainlaw49_lives : FuncId := 27
abbrev n_ghost_Holds : FuncId := 28
abbrev n_twainref49_Holds : FuncId := 29
abbrev n_ghost_Values : FuncId := 30
abbrev n_twainref49_Values : FuncId := 31
abbrev n_twainlaw49_alike : FuncId := 32
abbrev n_twainref49_Image : FuncId := 33
abbrev n_ghost_Image : FuncId := 34
abbrev n_ghost_Order : FuncId := 35
abbrev n_twainref37_Order : FuncId := 36
abbrev n_history_paired : FuncId := 37
abbrev n_span_Overlap : FuncId := 38
abbrev n_history_pairs_to : FuncId := 39
abbrev n_history_cut : FuncId := 40
abbrev n_twainref04_Overlap : FuncId := 41
abbrev n_twainref36_ended : FuncId := 42
abbrev n_twainref36_sector : FuncId := 43
abbrev n_twainref36_asked : FuncId := 44
abbrev n_twainref37_place : FuncId := 45
abbrev n_twainref37_ahead : FuncId := 46
abbrev n_twainref37_must : FuncId := 47
abbrev n_register_begin : FuncId := 48
abbrev n_P_register_hunt_find : FuncId := 49
abbrev n_ghost_tells : FuncId := 50
abbrev n_twainref49_last : FuncId := 51
abbrev n_twainref37_search : FuncId := 52
abbrev n_history_of : FuncId := 53
abbrev n_span_Meet : FuncId := 54
abbrev n_twainref04_Meet : FuncId := 55
abbrev n_P_register_hunt_find_1 : FuncId := 56
abbrev n_P_register_hunt_find_1_1 : FuncId := 57
abbrev n_P_register_hunt_read : FuncId := 58
abbrev n_P_register_hunt_may : FuncId := 59
abbrev n_ghost_end : FuncId := 60
abbrev n_twainref37_whole : FuncId := 61
abbrev n_twainref37_next : FuncId := 62
abbrev n_span_Plain : FuncId := 63
abbrev n_span_side_from : FuncId := 64
abbrev n_span_side_to : FuncId := 65
abbrev n_span_End : FuncId := 66
abbrev n_twainref04_Plain : FuncId := 67
abbrev n_span_within : FuncId := 68
abbrev n_runtime_boundsError_Error : FuncId := 69
abbrev n_runtime_boundsError_RuntimeError : FuncId := 70
abbrev n_runtime_errorString_Error : FuncId := 71
abbrev n_runtime_errorString_RuntimeError : FuncId := 72
abbrev n_runtime_plainError_Error : FuncId := 73
abbrev n_runtime_plainError_RuntimeError : FuncId := 74
abbrev n_runtime_errorAddressString_Error : FuncId := 75
abbrev n_runtime_errorAddressString_RuntimeError : FuncId := 76
abbrev n_P_runtime_TypeAssertionError_Error : FuncId := 77
abbrev n_P_runtime_TypeAssertionError_RuntimeError : FuncId := 78
abbrev n_P_runtime_PanicNilError_Error : FuncId := 79
abbrev n_P_runtime_PanicNilError_RuntimeError : FuncId := 80
abbrev n_P_internal_abi_Type_Align : FuncId := 81
abbrev n_internal_runtime_maps_unhashableTypeE_d411d0 : FuncId := 82
abbrev n_internal_runtime_maps_unhashableTypeE_88efe4 : FuncId := 83
abbrev n_api_Errno_Error : FuncId := 84
abbrev n_internal_abi_Kind_String : FuncId := 85
abbrev t_unit : TypeId := 0
abbrev t_F023062 : TypeId := 1
abbrev t_int64 : TypeId := 2
abbrev t_int : TypeId := 3
abbrev t_bool : TypeId := 4
abbrev t_uint8 : TypeId := 5
abbrev t_abi_BoundsErrorCode : TypeId := 6
abbrev t_S81e5bf : TypeId := 7
abbrev t_runtime_boundsError : TypeId := 8
abbrev t_string : TypeId := 9
abbrev t_runtime_errorString : TypeId := 10
abbrev t_runtime_plainError : TypeId := 11
abbrev t_uintptr : TypeId := 12
abbrev t_S9bc4a9 : TypeId := 13
abbrev t_runtime_errorAddressString : TypeId := 14
abbrev t_P_runtime_TypeAssertionError : TypeId := 15
abbrev t_P_runtime_PanicNilError : TypeId := 16
abbrev t_P_abi_Type : TypeId := 17
abbrev t_S6875f2 : TypeId := 18
abbrev t_maps_unhashableTypeError : TypeId := 19
abbrev t_interface : TypeId := 20
abbrev t_int32 : TypeId := 21
abbrev t_L_twainref34_Event : TypeId := 22
abbrev t_F6f3dd6 : TypeId := 23
abbrev t_Fa86e39 : TypeId := 24
abbrev t_L_world_Event : TypeId := 25
abbrev t_F8299a7 : TypeId := 26
abbrev t_Fb6cfd4 : TypeId := 27
abbrev t_L_twainref36_Op : TypeId := 28
abbrev t_F021c58 : TypeId := 29
abbrev t_L_history_Op : TypeId := 30
abbrev t_F5b51bf : TypeId := 31
abbrev t_Fc0544d : TypeId := 32
abbrev t_F081862 : TypeId := 33
abbrev t_L_int : TypeId := 34
abbrev t_F09bab6 : TypeId := 35
abbrev t_Fb7e6b8 : TypeId := 36
abbrev t_F545503 : TypeId := 37
abbrev t_F016414 : TypeId := 38
abbrev t_A16_uint8 : TypeId := 39
abbrev t_api_Sector : TypeId := 40
abbrev t_S14c6fa : TypeId := 41
abbrev t_history_Op : TypeId := 42
abbrev t_S6c464c : TypeId := 43
abbrev t_api_Span : TypeId := 44
abbrev t_L_uint8 : TypeId := 45
abbrev t_S21fe5b : TypeId := 46
abbrev t_api_Request : TypeId := 47
abbrev t_S71e5a8 : TypeId := 48
abbrev t_twainref34_Event : TypeId := 49
abbrev t_F333c25 : TypeId := 50
abbrev t_F743d2f : TypeId := 51
abbrev t_F604643 : TypeId := 52
abbrev t_L_api_Sector : TypeId := 53
abbrev t_L_bool : TypeId := 54
abbrev t_twainref36_Op : TypeId := 55
abbrev t_api_Errno : TypeId := 56
abbrev t_bool_api_Errno : TypeId := 57
abbrev t_F4c64e2 : TypeId := 58
abbrev t_L_int_bool : TypeId := 59
abbrev t_F9ec66d : TypeId := 60
abbrev t_Ff9c105 : TypeId := 61
abbrev t_S7ed1c8 : TypeId := 62
abbrev t_twainlaw49_End : TypeId := 63
abbrev t_F1f9e6c : TypeId := 64
abbrev t_bool_int_bool : TypeId := 65
abbrev t_F506c4b : TypeId := 66
abbrev t_F3fd729 : TypeId := 67
abbrev t_L_api_Sector_bool : TypeId := 68
abbrev t_Fa707ec : TypeId := 69
abbrev t_F6f346b : TypeId := 70
abbrev t_bool_bool : TypeId := 71
abbrev t_Ff2cfc4 : TypeId := 72
abbrev t_F4f0245 : TypeId := 73
abbrev t_F55abdf : TypeId := 74
abbrev t_Fe25e8c : TypeId := 75
abbrev t_L_int_bool_bool : TypeId := 76
abbrev t_F9a0fc5 : TypeId := 77
abbrev t_world_Event : TypeId := 78
abbrev t_M_history_key_int : TypeId := 79
abbrev t_M_int_int : TypeId := 80
abbrev t_Sa52f72 : TypeId := 81
abbrev t_history_pairs : TypeId := 82
abbrev t_F2dcf0b : TypeId := 83
abbrev t_Fac7918 : TypeId := 84
abbrev t_F200dff : TypeId := 85
abbrev t_F957d7b : TypeId := 86
abbrev t_F98340e : TypeId := 87
abbrev t_int_bool : TypeId := 88
abbrev t_F7e62a4 : TypeId := 89
abbrev t_Fbe81f1 : TypeId := 90
abbrev t_F7b8c69 : TypeId := 91
abbrev t_P_register_hunt : TypeId := 92
abbrev t_F23a7d2 : TypeId := 93
abbrev t_F09bf95 : TypeId := 94
abbrev t_Ffe08e2 : TypeId := 95
abbrev t_F8a1ef3 : TypeId := 96
abbrev t_M_api_Sector_bool : TypeId := 97
abbrev t_F0b17ba : TypeId := 98
abbrev t_P_int : TypeId := 99
abbrev t_Sf72a03 : TypeId := 100
abbrev t_history_key : TypeId := 101
abbrev t_F64aacc : TypeId := 102
abbrev t_api_Span_bool : TypeId := 103
abbrev t_Fa95473 : TypeId := 104
abbrev t_M_register_state_bool : TypeId := 105
abbrev t_uint64 : TypeId := 106
abbrev t_L_uint64 : TypeId := 107
abbrev t_S01a35e : TypeId := 108
abbrev t_register_hunt : TypeId := 109
abbrev t_Fd15f66 : TypeId := 110
abbrev t_S27ceea : TypeId := 111
abbrev t_register_state : TypeId := 112
abbrev t_Fe2cb18 : TypeId := 113
abbrev t_Fdc1ba3 : TypeId := 114
abbrev t_F831f84 : TypeId := 115
abbrev t_Ff970bf : TypeId := 116
abbrev t_Fa8424a : TypeId := 117
abbrev t_Fdb95b1 : TypeId := 118
abbrev t_F42507d : TypeId := 119
abbrev t_S018a90 : TypeId := 120
abbrev t_span_side : TypeId := 121
abbrev t_F3f7f15 : TypeId := 122
abbrev t_F403d54 : TypeId := 123
abbrev t_F6c6759 : TypeId := 124
abbrev t_S6911b8 : TypeId := 125
abbrev t_runtime_TypeAssertionError : TypeId := 126
abbrev t_A0_P_runtime_PanicNilError : TypeId := 127
abbrev t_S674f3b : TypeId := 128
abbrev t_runtime_PanicNilError : TypeId := 129
abbrev t_F92c41c : TypeId := 130
abbrev t_uint32 : TypeId := 131
abbrev t_abi_TFlag : TypeId := 132
abbrev t_abi_Kind : TypeId := 133
abbrev t_F0a8967 : TypeId := 134
abbrev t_P_uint8 : TypeId := 135
abbrev t_abi_NameOff : TypeId := 136
abbrev t_abi_TypeOff : TypeId := 137
abbrev t_Scd6355 : TypeId := 138
abbrev t_abi_Type : TypeId := 139
abbrev t_unsafe_Pointer : TypeId := 140
namespace twainlaw36_HistoryTells
noncomputable def sh (C : Am.Callee) (L : Loops) (n0 : Nat) (t0 t1 : Value) (s : AS) : Option (Value × List Blk × Option Nat) :=
(C n_twainlaw36_Few [t0] s.H).bind fun r1 =>
(aUn PP .not r1.1).bind fun x2 =>
bcase x2 (
(C n_twainlaw36_lives [] (AS.mk r1.2.1 (joinEsc s.esc r1.2.2)).H).bind fun r3 =>
fin PP false n0 [r3.1] (AS.mk r3.2.1 (joinEsc (AS.mk r1.2.1 (joinEsc s.esc r1.2.2)).esc r3.2.2))) (
(C n_twainlaw36_Raw [t0] (AS.mk r1.2.1 (joinEsc s.esc r1.2.2)).H).bind fun r4 =>
(C n_history_Ops [r4.1, t1] (AS.mk r4.2.1 (joinEsc (AS.mk r1.2.1 (joinEsc s.esc r1.2.2)).esc r4.2.2)).H).bind fun r5 =>
(C n_twainlaw36_Ops [r5.1] (AS.mk r5.2.1 (joinEsc (AS.mk r4.2.1 (joinEsc (AS.mk r1.2.1 (joinEsc s.esc r1.2.2)).esc r4.2.2)).esc r5.2.2)).H).bind fun r6 =>
(C n_twainref36_Ops [t0, t1] (AS.mk r6.2.1 (joinEsc (AS.mk r5.2.1 (joinEsc (AS.mk r4.2.1 (joinEsc (AS.mk r1.2.1 (joinEsc s.esc r1.2.2)).esc r4.2.2)).esc r5.2.2)).esc r6.2.2)).H).bind fun r7 =>
(C n_twainref36_Same [r6.1, r7.1] (AS.mk r7.2.1 (joinEsc (AS.mk r6.2.1 (joinEsc (AS.mk r5.2.1 (joinEsc (AS.mk r4.2.1 (joinEsc (AS.mk r1.2.1 (joinEsc s.esc r1.2.2)).esc r4.2.2)).esc r5.2.2)).esc r6.2.2)).esc r7.2.2)).H).bind fun r8 =>
bcase r8.1 (
(C n_history_Open [r4.1] (AS.mk r8.2.1 (joinEsc (AS.mk r7.2.1 (joinEsc (AS.mk r6.2.1 (joinEsc (AS.mk r5.2.1 (joinEsc (AS.mk r4.2.1 (joinEsc (AS.mk r1.2.1 (joinEsc s.esc r1.2.2)).esc r4.2.2)).esc r5.2.2)).esc r6.2.2)).esc r7.2.2)).esc r8.2.2)).H).bind fun r9 =>
(C n_twainref36_Open [t0] (AS.mk r9.2.1 (joinEsc (AS.mk r8.2.1 (joinEsc (AS.mk r7.2.1 (joinEsc (AS.mk r6.2.1 (joinEsc (AS.mk r5.2.1 (joinEsc (AS.mk r4.2.1 (joinEsc (AS.mk r1.2.1 (joinEsc s.esc r1.2.2)).esc r4.2.2)).esc r5.2.2)).esc r6.2.2)).esc r7.2.2)).esc r8.2.2)).esc r9.2.2)).H).bind fun r10 =>
(C n_twainref01_Ints [r9.1, r10.1] (AS.mk r10.2.1 (joinEsc (AS.mk r9.2.1 (joinEsc (AS.mk r8.2.1 (joinEsc (AS.mk r7.2.1 (joinEsc (AS.mk r6.2.1 (joinEsc (AS.mk r5.2.1 (joinEsc (AS.mk r4.2.1 (joinEsc (AS.mk r1.2.1 (joinEsc s.esc r1.2.2)).esc r4.2.2)).esc r5.2.2)).esc r6.2.2)).esc r7.2.2)).esc r8.2.2)).esc r9.2.2)).esc r10.2.2)).H).bind fun r11 =>
bcase r11.1 (
(C n_history_Odd [r4.1] (AS.mk r11.2.1 (joinEsc (AS.mk r10.2.1 (joinEsc (AS.mk r9.2.1 (joinEsc (AS.mk r8.2.1 (joinEsc (AS.mk r7.2.1 (joinEsc (AS.mk r6.2.1 (joinEsc (AS.mk r5.2.1 (joinEsc (AS.mk r4.2.1 (joinEsc (AS.mk r1.2.1 (joinEsc s.esc r1.2.2)).esc r4.2.2)).esc r5.2.2)).esc r6.2.2)).esc r7.2.2)).esc r8.2.2)).esc r9.2.2)).esc r10.2.2)).esc r11.2.2)).H).bind fun r12 =>
(C n_twainref36_Odd [t0] (AS.mk r12.2.1 (joinEsc (AS.mk r11.2.1 (joinEsc (AS.mk r10.2.1 (joinEsc (AS.mk r9.2.1 (joinEsc (AS.mk r8.2.1 (joinEsc (AS.mk r7.2.1 (joinEsc (AS.mk r6.2.1 (joinEsc (AS.mk r5.2.1 (joinEsc (AS.mk r4.2.1 (joinEsc (AS.mk r1.2.1 (joinEsc s.esc r1.2.2)).esc r4.2.2)).esc r5.2.2)).esc r6.2.2)).esc r7.2.2)).esc r8.2.2)).esc r9.2.2)).esc r10.2.2)).esc r11.2.2)).esc r12.2.2)).H).bind fun r13 =>
(aBin PP .eql t_bool (.tmp 29) (.tmp 31) r12.1 r13.1).bind fun x14 =>
bcase x14 (
(C n_twainlaw36_lives [] (AS.mk r13.2.1 (joinEsc (AS.mk r12.2.1 (joinEsc (AS.mk r11.2.1 (joinEsc (AS.mk r10.2.1 (joinEsc (AS.mk r9.2.1 (joinEsc (AS.mk r8.2.1 (joinEsc (AS.mk r7.2.1 (joinEsc (AS.mk r6.2.1 (joinEsc (AS.mk r5.2.1 (joinEsc (AS.mk r4.2.1 (joinEsc (AS.mk r1.2.1 (joinEsc s.esc r1.2.2)).esc r4.2.2)).esc r5.2.2)).esc r6.2.2)).esc r7.2.2)).esc r8.2.2)).esc r9.2.2)).esc r10.2.2)).esc r11.2.2)).esc r12.2.2)).esc r13.2.2)).H).bind fun r15 =>
fin PP false n0 [r15.1] (AS.mk r15.2.1 (joinEsc (AS.mk r13.2.1 (joinEsc (AS.mk r12.2.1 (joinEsc (AS.mk r11.2.1 (joinEsc (AS.mk r10.2.1 (joinEsc (AS.mk r9.2.1 (joinEsc (AS.mk r8.2.1 (joinEsc (AS.mk r7.2.1 (joinEsc (AS.mk r6.2.1 (joinEsc (AS.mk r5.2.1 (joinEsc (AS.mk r4.2.1 (joinEsc (AS.mk r1.2.1 (joinEsc s.esc r1.2.2)).esc r4.2.2)).esc r5.2.2)).esc r6.2.2)).esc r7.2.2)).esc r8.2.2)).esc r9.2.2)).esc r10.2.2)).esc r11.2.2)).esc r12.2.2)).esc r13.2.2)).esc r15.2.2))) (
fin PP false n0 [.bool false] (AS.mk r13.2.1 (joinEsc (AS.mk r12.2.1 (joinEsc (AS.mk r11.2.1 (joinEsc (AS.mk r10.2.1 (joinEsc (AS.mk r9.2.1 (joinEsc (AS.mk r8.2.1 (joinEsc (AS.mk r7.2.1 (joinEsc (AS.mk r6.2.1 (joinEsc (AS.mk r5.2.1 (joinEsc (AS.mk r4.2.1 (joinEsc (AS.mk r1.2.1 (joinEsc s.esc r1.2.2)).esc r4.2.2)).esc r5.2.2)).esc r6.2.2)).esc r7.2.2)).esc r8.2.2)).esc r9.2.2)).esc r10.2.2)).esc r11.2.2)).esc r12.2.2)).esc r13.2.2)))) (
fin PP false n0 [.bool false] (AS.mk r11.2.1 (joinEsc (AS.mk r10.2.1 (joinEsc (AS.mk r9.2.1 (joinEsc (AS.mk r8.2.1 (joinEsc (AS.mk r7.2.1 (joinEsc (AS.mk r6.2.1 (joinEsc (AS.mk r5.2.1 (joinEsc (AS.mk r4.2.1 (joinEsc (AS.mk r1.2.1 (joinEsc s.esc r1.2.2)).esc r4.2.2)).esc r5.2.2)).esc r6.2.2)).esc r7.2.2)).esc r8.2.2)).esc r9.2.2)).esc r10.2.2)).esc r11.2.2)))) (
fin PP false n0 [.bool false] (AS.mk r8.2.1 (joinEsc (AS.mk r7.2.1 (joinEsc (AS.mk r6.2.1 (joinEsc (AS.mk r5.2.1 (joinEsc (AS.mk r4.2.1 (joinEsc (AS.mk r1.2.1 (joinEsc s.esc r1.2.2)).esc r4.2.2)).esc r5.2.2)).esc r6.2.2)).esc r7.2.2)).esc r8.2.2))))
def T : Tab := ⟨fun i => none, fun i => none, false, fun i => none, fun _ => false, false⟩
end twainlaw36_HistoryTells
namespace twainlaw36_HistoryOrder
noncomputable def j1 (C : Am.Callee) (L : Loops) (n0 : Nat) (t0 t5 t6 t22 t23 t24 t100 : Value) (s : AS) : Option (AEx × List Value × AS) :=
bcase t100 (
some (AEx.ret, [t0, .bool false, t5, t6, t22, t23, t24], s)) (
some (AEx.normal, [t0, unk, t5, t6, t22, t23, t24], s))
noncomputable def j2 (C : Am.Callee) (L : Loops) (n0 : Nat) (t0 t5 t6 t22 t23 t24 : Value) (s : AS) : Option ((List Value × AS) ⊕ (AEx × List Value × AS)) :=
(aBin PP .add t_int (.tmp 24) (.const (.int .i64 1)) t24 (.int .i64 1)).bind fun x85 =>
some (.inl ([t0, t5, t6, t22, t23, x85], s))
noncomputable def loop6 (C : Am.Callee) (L : Loops) (n0 : Nat) (t0 t5 t6 t22 t23 t24 : Value) (s : AS) : Option ((List Value × AS) ⊕ (AEx × List Value × AS)) :=
(aBin PP .lss t_int (.tmp 24) (.tmp 23) t24 t23).bind fun x7 =>
bcase x7 (
((aIndexAddr PP t_L_history_Op t22 t24).bind fun x8 =>
(aLoad true 19 s x8).bind fun x9 =>
(aBox t_history_Op ((zeroP PP t_history_Op).getD unk) s).bind fun r10 =>
(aStore 19 r10.2 r10.1 x9).bind fun s11 =>
((aFieldAddr PP t_history_Op r10.1 2).bind fun x12 =>
(aLoad false 1 s11 x12).bind fun x13 =>
(aBin PP .lss t_int (.tmp 30) (.const (.int .i64 0)) x13 (.int .i64 0)).bind fun x14 =>
bcase x14 (
some (AEx.normal, [t0, t5, t6, t22, t23, t24, .bool true], s11)) (
(aFieldAddr PP t_history_Op r10.1 2).bind fun x15 =>
(aLoad false 1 s11 x15).bind fun x16 =>
(aLen PP t_L_twainref34_Event t0 s11).bind fun x17 =>
(aBin PP .geq t_int (.tmp 34) (.tmp 36) x16 x17).bind fun x18 =>
bcase x18 (
some (AEx.normal, [t0, t5, t6, t22, t23, t24, .bool true], s11)) (
(aFieldAddr PP t_history_Op r10.1 2).bind fun x19 =>
(aLoad false 1 s11 x19).bind fun x20 =>
(aIndexAddr PP t_L_twainref34_Event t0 x20).bind fun x21 =>
(aFieldAddr PP t_twainref34_Event x21 0).bind fun x22 =>
(aLoad false 1 s11 x22).bind fun x23 =>
(aBin PP .neq t_int (.tmp 45) (.const (.int .i64 0)) x23 (.int .i64 0)).bind fun x24 =>
bcase x24 (
some (AEx.normal, [t0, t5, t6, t22, t23, t24, .bool true], s11)) (
(aFieldAddr PP t_history_Op r10.1 3).bind fun x25 =>
(aLoad false 1 s11 x25).bind fun x26 =>
(aLen PP t_L_twainref34_Event t0 s11).bind fun x27 =>
(aBin PP .geq t_int (.tmp 50) (.tmp 52) x26 x27).bind fun x28 =>
bcase x28 (
some (AEx.normal, [t0, t5, t6, t22, t23, t24, .bool true], s11)) (
(aFieldAddr PP t_history_Op r10.1 3).bind fun x29 =>
(aLoad false 1 s11 x29).bind fun x30 =>
(aBin PP .geq t_int (.tmp 57) (.const (.int .i64 0)) x30 (.int .i64 0)).bind fun x31 =>
bcase x31 (
(aFieldAddr PP t_history_Op r10.1 3).bind fun x32 =>
(aLoad false 1 s11 x32).bind fun x33 =>
(aFieldAddr PP t_history_Op r10.1 2).bind fun x34 =>
(aLoad false 1 s11 x34).bind fun x35 =>
(aBin PP .leq t_int (.tmp 61) (.tmp 63) x33 x35).bind fun x36 =>
bcase x36 (
some (AEx.normal, [t0, t5, t6, t22, t23, t24, .bool true], s11)) (
(aFieldAddr PP t_history_Op r10.1 3).bind fun x37 =>
(aLoad false 1 s11 x37).bind fun x38 =>
(aIndexAddr PP t_L_twainref34_Event t0 x38).bind fun x39 =>
(aFieldAddr PP t_twainref34_Event x39 0).bind fun x40 =>
(aLoad false 1 s11 x40).bind fun x41 =>
(aBin PP .neq t_int (.tmp 71) (.const (.int .i64 1)) x41 (.int .i64 1)).bind fun x42 =>
bcase x42 (
some (AEx.normal, [t0, t5, t6, t22, t23, t24, .bool true], s11)) (
(aBin PP .gtr t_int (.tmp 77) (.const (.int .i64 0)) t24 (.int .i64 0)).bind fun x43 =>
bcase x43 (
(aBin PP .sub t_int (.tmp 81) (.const (.int .i64 1)) t24 (.int .i64 1)).bind fun x44 =>
(aIndexAddr PP t_L_history_Op t6 x44).bind fun x45 =>
(aFieldAddr PP t_history_Op x45 2).bind fun x46 =>
(aLoad false 1 s11 x46).bind fun x47 =>
(aFieldAddr PP t_history_Op r10.1 2).bind fun x48 =>
(aLoad false 1 s11 x48).bind fun x49 =>
(aBin PP .geq t_int (.tmp 85) (.tmp 87) x47 x49).bind fun x50 =>
bcase x50 (
some (AEx.normal, [t0, t5, t6, t22, t23, t24, .bool true], s11)) (
(aFieldAddr PP t_history_Op r10.1 0).bind fun x51 =>
(aLoad false 1 s11 x51).bind fun x52 =>
(aUn PP .not x52).bind fun x53 =>
bcase x53 (
(aFieldAddr PP t_history_Op r10.1 3).bind fun x54 =>
(aLoad false 1 s11 x54).bind fun x55 =>
(aBin PP .lss t_int (.tmp 97) (.const (.int .i64 0)) x55 (.int .i64 0)).bind fun x56 =>
some (AEx.normal, [t0, t5, t6, t22, t23, t24, x56], s11)) (
some (AEx.normal, [t0, t5, t6, t22, t23, t24, .bool false], s11)))) (
(aFieldAddr PP t_history_Op r10.1 0).bind fun x57 =>
(aLoad false 1 s11 x57).bind fun x58 =>
(aUn PP .not x58).bind fun x59 =>
bcase x59 (
(aFieldAddr PP t_history_Op r10.1 3).bind fun x60 =>
(aLoad false 1 s11 x60).bind fun x61 =>
(aBin PP .lss t_int (.tmp 97) (.const (.int .i64 0)) x61 (.int .i64 0)).bind fun x62 =>
some (AEx.normal, [t0, t5, t6, t22, t23, t24, x62], s11)) (
some (AEx.normal, [t0, t5, t6, t22, t23, t24, .bool false], s11)))))) (
(aBin PP .gtr t_int (.tmp 77) (.const (.int .i64 0)) t24 (.int .i64 0)).bind fun x63 =>
bcase x63 (
(aBin PP .sub t_int (.tmp 81) (.const (.int .i64 1)) t24 (.int .i64 1)).bind fun x64 =>
(aIndexAddr PP t_L_history_Op t6 x64).bind fun x65 =>
(aFieldAddr PP t_history_Op x65 2).bind fun x66 =>
(aLoad false 1 s11 x66).bind fun x67 =>
(aFieldAddr PP t_history_Op r10.1 2).bind fun x68 =>
(aLoad false 1 s11 x68).bind fun x69 =>
(aBin PP .geq t_int (.tmp 85) (.tmp 87) x67 x69).bind fun x70 =>
bcase x70 (
some (AEx.normal, [t0, t5, t6, t22, t23, t24, .bool true], s11)) (
(aFieldAddr PP t_history_Op r10.1 0).bind fun x71 =>
(aLoad false 1 s11 x71).bind fun x72 =>
(aUn PP .not x72).bind fun x73 =>
bcase x73 (
(aFieldAddr PP t_history_Op r10.1 3).bind fun x74 =>
(aLoad false 1 s11 x74).bind fun x75 =>
(aBin PP .lss t_int (.tmp 97) (.const (.int .i64 0)) x75 (.int .i64 0)).bind fun x76 =>
some (AEx.normal, [t0, t5, t6, t22, t23, t24, x76], s11)) (
some (AEx.normal, [t0, t5, t6, t22, t23, t24, .bool false], s11)))) (
(aFieldAddr PP t_history_Op r10.1 0).bind fun x77 =>
(aLoad false 1 s11 x77).bind fun x78 =>
(aUn PP .not x78).bind fun x79 =>
bcase x79 (
(aFieldAddr PP t_history_Op r10.1 3).bind fun x80 =>
(aLoad false 1 s11 x80).bind fun x81 =>
(aBin PP .lss t_int (.tmp 97) (.const (.int .i64 0)) x81 (.int .i64 0)).bind fun x82 =>
some (AEx.normal, [t0, t5, t6, t22, t23, t24, x82], s11)) (
some (AEx.normal, [t0, t5, t6, t22, t23, t24, .bool false], s11))))))))).bind fun r83 =>
match r83.1 with
| .normal => j1 C L n0 ((r83.2.1.getD 0 unk)) ((r83.2.1.getD 1 unk)) ((r83.2.1.getD 2 unk)) ((r83.2.1.getD 3 unk)) ((r83.2.1.getD 4 unk)) ((r83.2.1.getD 5 unk)) ((r83.2.1.getD 6 unk)) r83.2.2
| .exit i => if i = 1 then some (AEx.normal, [(r83.2.1.getD 0 unk), unk, (r83.2.1.getD 1 unk), (r83.2.1.getD 2 unk), (r83.2.1.getD 3 unk), (r83.2.1.getD 4 unk), (r83.2.1.getD 5 unk)], r83.2.2) else some (AEx.exit i, [(r83.2.1.getD 0 unk), unk, (r83.2.1.getD 1 unk), (r83.2.1.getD 2 unk), (r83.2.1.getD 3 unk), (r83.2.1.getD 4 unk), (r83.2.1.getD 5 unk)], r83.2.2)
| .ret => some (AEx.ret, [(r83.2.1.getD 0 unk), unk, (r83.2.1.getD 1 unk), (r83.2.1.getD 2 unk), (r83.2.1.getD 3 unk), (r83.2.1.getD 4 unk), (r83.2.1.getD 5 unk)], r83.2.2)).bind fun r84 =>
match r84.1 with
| .normal => j2 C L n0 ((r84.2.1.getD 0 unk)) ((r84.2.1.getD 2 unk)) ((r84.2.1.getD 3 unk)) ((r84.2.1.getD 4 unk)) ((r84.2.1.getD 5 unk)) ((r84.2.1.getD 6 unk)) r84.2.2
| .exit i => some (.inr (.exit i, [(r84.2.1.getD 0 unk), (r84.2.1.getD 1 unk), (r84.2.1.getD 2 unk)], r84.2.2))
| .ret => some (.inr (.ret, [(r84.2.1.getD 0 unk), (r84.2.1.getD 1 unk), (r84.2.1.getD 2 unk)], r84.2.2))) (
some (.inr (.exit 0, [t0, unk, t5], s)))
noncomputable def loop6s (C : Am.Callee) (L : Loops) (n0 : Nat) : List Value × AS → Option ((List Value × AS) ⊕ (AEx × List Value × AS)) := fun s => loop6 C L n0 (s.1.getD 0 unk) (s.1.getD 1 unk) (s.1.getD 2 unk) (s.1.getD 3 unk) (s.1.getD 4 unk) (s.1.getD 5 unk) s.2
noncomputable def j6 (C : Am.Callee) (L : Loops) (n0 : Nat) (t5 t9 t10 t12 t102 t103 t104 : Value) (s : AS) : Option (AEx × List Value × AS) :=
(aFieldAddr PP t_twainref34_Event t12 0).bind fun x99 =>
(aLoad false 1 s x99).bind fun x100 =>
(aBin PP .eql t_int (.tmp 114) (.const (.int .i64 1)) x100 (.int .i64 1)).bind fun x101 =>
bcase x101 (
(aBin PP .add t_int (.tmp 116) (.const (.int .i64 1)) t10 (.int .i64 1)).bind fun x102 =>
some (AEx.normal, [t5, t9, x102, t102, t103, t104], s)) (
some (AEx.normal, [t5, t9, t10, t102, t103, t104], s))
noncomputable def j7 (C : Am.Callee) (L : Loops) (n0 : Nat) (t5 t9 t10 t102 t103 t104 : Value) (s : AS) : Option ((List Value × AS) ⊕ (AEx × List Value × AS)) :=
(aBin PP .add t_int (.tmp 104) (.const (.int .i64 1)) t104 (.int .i64 1)).bind fun x104 =>
some (.inl ([t5, t9, t10, t102, t103, x104], s))
noncomputable def loop13 (C : Am.Callee) (L : Loops) (n0 : Nat) (t5 t9 t10 t102 t103 t104 : Value) (s : AS) : Option ((List Value × AS) ⊕ (AEx × List Value × AS)) :=
(aBin PP .lss t_int (.tmp 104) (.tmp 103) t104 t103).bind fun x89 =>
bcase x89 (
((aIndexAddr PP t_L_twainref34_Event t102 t104).bind fun x90 =>
(aLoad true 8 s x90).bind fun x91 =>
(aBox t_twainref34_Event ((zeroP PP t_twainref34_Event).getD unk) s).bind fun r92 =>
(aStore 8 r92.2 r92.1 x91).bind fun s93 =>
((aFieldAddr PP t_twainref34_Event r92.1 0).bind fun x94 =>
(aLoad false 1 s93 x94).bind fun x95 =>
(aBin PP .eql t_int (.tmp 109) (.const (.int .i64 0)) x95 (.int .i64 0)).bind fun x96 =>
bcase x96 (
(aBin PP .add t_int (.tmp 111) (.const (.int .i64 1)) t9 (.int .i64 1)).bind fun x97 =>
some (AEx.normal, [t5, x97, t10, r92.1, t102, t103, t104], s93)) (
some (AEx.normal, [t5, t9, t10, r92.1, t102, t103, t104], s93))).bind fun r98 =>
match r98.1 with
| .normal => j6 C L n0 ((r98.2.1.getD 0 unk)) ((r98.2.1.getD 1 unk)) ((r98.2.1.getD 2 unk)) ((r98.2.1.getD 3 unk)) ((r98.2.1.getD 4 unk)) ((r98.2.1.getD 5 unk)) ((r98.2.1.getD 6 unk)) r98.2.2
| .exit i => if i = 3 then some (AEx.normal, [(r98.2.1.getD 0 unk), (r98.2.1.getD 1 unk), (r98.2.1.getD 2 unk), (r98.2.1.getD 4 unk), (r98.2.1.getD 5 unk), (r98.2.1.getD 6 unk)], r98.2.2) else some (AEx.exit i, [(r98.2.1.getD 0 unk), (r98.2.1.getD 1 unk), (r98.2.1.getD 2 unk), (r98.2.1.getD 4 unk), (r98.2.1.getD 5 unk), (r98.2.1.getD 6 unk)], r98.2.2)
| .ret => some (AEx.ret, [(r98.2.1.getD 0 unk), (r98.2.1.getD 1 unk), (r98.2.1.getD 2 unk), (r98.2.1.getD 4 unk), (r98.2.1.getD 5 unk), (r98.2.1.getD 6 unk)], r98.2.2)).bind fun r103 =>
match r103.1 with
| .normal => j7 C L n0 ((r103.2.1.getD 0 unk)) ((r103.2.1.getD 1 unk)) ((r103.2.1.getD 2 unk)) ((r103.2.1.getD 3 unk)) ((r103.2.1.getD 4 unk)) ((r103.2.1.getD 5 unk)) r103.2.2
| .exit i => some (.inr (.exit i, [(r103.2.1.getD 0 unk), (r103.2.1.getD 1 unk), (r103.2.1.getD 2 unk)], r103.2.2))
| .ret => some (.inr (.ret, [(r103.2.1.getD 0 unk), (r103.2.1.getD 1 unk), (r103.2.1.getD 2 unk)], r103.2.2))) (
some (.inr (.exit 2, [t5, t9, t10], s)))
noncomputable def loop13s (C : Am.Callee) (L : Loops) (n0 : Nat) : List Value × AS → Option ((List Value × AS) ⊕ (AEx × List Value × AS)) := fun s => loop13 C L n0 (s.1.getD 0 unk) (s.1.getD 1 unk) (s.1.getD 2 unk) (s.1.getD 3 unk) (s.1.getD 4 unk) (s.1.getD 5 unk) s.2
noncomputable def j9 (C : Am.Callee) (L : Loops) (n0 : Nat) (t5 t9 t10 : Value) (s : AS) : Option (Value × List Blk × Option Nat) :=
(C n_history_Odd [t5] s.H).bind fun r107 =>
bcase r107.1 (
(C n_twainlaw36_lives [] (AS.mk r107.2.1 (joinEsc s.esc r107.2.2)).H).bind fun r108 =>
fin PP false n0 [r108.1] (AS.mk r108.2.1 (joinEsc (AS.mk r107.2.1 (joinEsc s.esc r107.2.2)).esc r108.2.2))) (
(aBin PP .sub t_int (.tmp 122) (.tmp 123) t9 t10).bind fun x109 =>
(C n_history_Open [t5] (AS.mk r107.2.1 (joinEsc s.esc r107.2.2)).H).bind fun r110 =>
(aLen PP t_L_int r110.1 (AS.mk r110.2.1 (joinEsc (AS.mk r107.2.1 (joinEsc s.esc r107.2.2)).esc r110.2.2))).bind fun x111 =>
(aBin PP .eql t_int (.tmp 124) (.tmp 127) x109 x111).bind fun x112 =>
bcase x112 (
(C n_twainlaw36_lives [] (AS.mk r110.2.1 (joinEsc (AS.mk r107.2.1 (joinEsc s.esc r107.2.2)).esc r110.2.2)).H).bind fun r113 =>
fin PP false n0 [r113.1] (AS.mk r113.2.1 (joinEsc (AS.mk r110.2.1 (joinEsc (AS.mk r107.2.1 (joinEsc s.esc r107.2.2)).esc r110.2.2)).esc r113.2.2))) (
fin PP false n0 [.bool false] (AS.mk r110.2.1 (joinEsc (AS.mk r107.2.1 (joinEsc s.esc r107.2.2)).esc r110.2.2))))
noncomputable def j4 (C : Am.Callee) (L : Loops) (n0 : Nat) (t0 t5 : Value) (s : AS) : Option (Value × List Blk × Option Nat) :=
((aLen PP t_L_twainref34_Event t0 s).bind fun x88 =>
(L n0 (loop13s C L n0) ([t5, .int .i64 0, .int .i64 0, t0, x88, .int .i64 0], s)).bind fun r105 =>
match r105.1 with
| .normal => some (AEx.normal, [(r105.2.1.getD 0 unk), (r105.2.1.getD 1 unk), (r105.2.1.getD 2 unk)], r105.2.2)
| .exit i => if i = 2 then some (AEx.normal, [(r105.2.1.getD 0 unk), (r105.2.1.getD 1 unk), (r105.2.1.getD 2 unk)], r105.2.2) else some (AEx.exit i, [(r105.2.1.getD 0 unk), (r105.2.1.getD 1 unk), (r105.2.1.getD 2 unk)], r105.2.2)
| .ret => some (AEx.ret, [(r105.2.1.getD 0 unk), (r105.2.1.getD 1 unk), (r105.2.1.getD 2 unk)], r105.2.2)).bind fun r106 =>
match r106.1 with
| .normal => j9 C L n0 ((r106.2.1.getD 0 unk)) ((r106.2.1.getD 1 unk)) ((r106.2.1.getD 2 unk)) r106.2.2
| .exit i => none
| .ret => fin PP false n0 [unk] r106.2.2
noncomputable def sh (C : Am.Callee) (L : Loops) (n0 : Nat) (t0 t1 : Value) (s : AS) : Option (Value × List Blk × Option Nat) :=
(C n_twainlaw36_Few [t0] s.H).bind fun r1 =>
(aUn PP .not r1.1).bind fun x2 =>
bcase x2 (
(C n_twainlaw36_lives [] (AS.mk r1.2.1 (joinEsc s.esc r1.2.2)).H).bind fun r3 =>
fin PP false n0 [r3.1] (AS.mk r3.2.1 (joinEsc (AS.mk r1.2.1 (joinEsc s.esc r1.2.2)).esc r3.2.2))) (
(C n_twainlaw36_Raw [t0] (AS.mk r1.2.1 (joinEsc s.esc r1.2.2)).H).bind fun r4 =>
(C n_history_Ops [r4.1, t1] (AS.mk r4.2.1 (joinEsc (AS.mk r1.2.1 (joinEsc s.esc r1.2.2)).esc r4.2.2)).H).bind fun r5 =>
((aLen PP t_L_history_Op r5.1 (AS.mk r5.2.1 (joinEsc (AS.mk r4.2.1 (joinEsc (AS.mk r1.2.1 (joinEsc s.esc r1.2.2)).esc r4.2.2)).esc r5.2.2))).bind fun x6 =>
(L n0 (loop6s C L n0) ([t0, r4.1, r5.1, r5.1, x6, .int .i64 0], AS.mk r5.2.1 (joinEsc (AS.mk r4.2.1 (joinEsc (AS.mk r1.2.1 (joinEsc s.esc r1.2.2)).esc r4.2.2)).esc r5.2.2))).bind fun r86 =>
match r86.1 with
| .normal => some (AEx.normal, [(r86.2.1.getD 0 unk), (r86.2.1.getD 1 unk), (r86.2.1.getD 2 unk)], r86.2.2)
| .exit i => if i = 0 then some (AEx.normal, [(r86.2.1.getD 0 unk), (r86.2.1.getD 1 unk), (r86.2.1.getD 2 unk)], r86.2.2) else some (AEx.exit i, [(r86.2.1.getD 0 unk), (r86.2.1.getD 1 unk), (r86.2.1.getD 2 unk)], r86.2.2)
| .ret => some (AEx.ret, [(r86.2.1.getD 0 unk), (r86.2.1.getD 1 unk), (r86.2.1.getD 2 unk)], r86.2.2)).bind fun r87 =>
match r87.1 with
| .normal => j4 C L n0 ((r87.2.1.getD 0 unk)) ((r87.2.1.getD 2 unk)) r87.2.2
| .exit i => none
| .ret => fin PP false n0 [(r87.2.1.getD 1 unk)] r87.2.2)
def T : Tab := ⟨fun i => if i = 6 then some [0, 5, 6, 22, 23, 24] else if i = 13 then some [5, 9, 10, 102, 103, 104] else none, fun i => if i = 6 then some [0, 4, 5] else if i = 13 then some [5, 9, 10] else none, false, fun i => if i = 9 then some [0, 5, 6, 22, 23, 24, 100] else if i = 10 then some [0, 4, 5, 6, 22, 23, 24] else if i = 11 then some [0, 4, 5] else if i = 17 then some [5, 9, 10, 12, 102, 103, 104] else if i = 19 then some [5, 9, 10, 102, 103, 104] else if i = 20 then some [5, 9, 10] else none, fun _ => false, false⟩
end twainlaw36_HistoryOrder
namespace twainlaw36_Few
noncomputable def j1 (C : Am.Callee) (L : Loops) (n0 : Nat) (t8 t9 t10 t24 : Value) (s : AS) : Option (AEx × List Value × AS) :=
bcase t24 (
some (AEx.ret, [.bool false, t8, t9, t10], s)) (
some (AEx.normal, [unk, t8, t9, t10], s))
noncomputable def j2 (C : Am.Callee) (L : Loops) (n0 : Nat) (t8 t9 t10 : Value) (s : AS) : Option ((List Value × AS) ⊕ (AEx × List Value × AS)) :=
(aBin PP .add t_int (.tmp 10) (.const (.int .i64 1)) t10 (.int .i64 1)).bind fun x20 =>
some (.inl ([t8, t9, x20], s))
noncomputable def loop4 (C : Am.Callee) (L : Loops) (n0 : Nat) (t8 t9 t10 : Value) (s : AS) : Option ((List Value × AS) ⊕ (AEx × List Value × AS)) :=
(aBin PP .lss t_int (.tmp 10) (.tmp 9) t10 t9).bind fun x4 =>
bcase x4 (
((aIndexAddr PP t_L_twainref34_Event t8 t10).bind fun x5 =>
(aLoad true 8 s x5).bind fun x6 =>
(aBox t_twainref34_Event ((zeroP PP t_twainref34_Event).getD unk) s).bind fun r7 =>
(aStore 8 r7.2 r7.1 x6).bind fun s8 =>
((aFieldAddr PP t_twainref34_Event r7.1 4).bind fun x9 =>
(aLoad false 1 s8 x9).bind fun x10 =>
(aLen PP t_L_uint8 x10 s8).bind fun x11 =>
(aBin PP .gtr t_int (.tmp 16) (.const (.int .i64 300)) x11 (.int .i64 300)).bind fun x12 =>
bcase x12 (
some (AEx.normal, [t8, t9, t10, .bool true], s8)) (
(aFieldAddr PP t_twainref34_Event r7.1 3).bind fun x13 =>
(aFieldAddr PP t_api_Request x13 2).bind fun x14 =>
(aLoad false 1 s8 x14).bind fun x15 =>
(aLen PP t_L_uint8 x15 s8).bind fun x16 =>
(aBin PP .gtr t_int (.tmp 22) (.const (.int .i64 300)) x16 (.int .i64 300)).bind fun x17 =>
some (AEx.normal, [t8, t9, t10, x17], s8))).bind fun r18 =>
match r18.1 with
| .normal => j1 C L n0 ((r18.2.1.getD 0 unk)) ((r18.2.1.getD 1 unk)) ((r18.2.1.getD 2 unk)) ((r18.2.1.getD 3 unk)) r18.2.2
| .exit i => if i = 1 then some (AEx.normal, [unk, (r18.2.1.getD 0 unk), (r18.2.1.getD 1 unk), (r18.2.1.getD 2 unk)], r18.2.2) else some (AEx.exit i, [unk, (r18.2.1.getD 0 unk), (r18.2.1.getD 1 unk), (r18.2.1.getD 2 unk)], r18.2.2)
| .ret => some (AEx.ret, [unk, (r18.2.1.getD 0 unk), (r18.2.1.getD 1 unk), (r18.2.1.getD 2 unk)], r18.2.2)).bind fun r19 =>
match r19.1 with
| .normal => j2 C L n0 ((r19.2.1.getD 1 unk)) ((r19.2.1.getD 2 unk)) ((r19.2.1.getD 3 unk)) r19.2.2
| .exit i => some (.inr (.exit i, [(r19.2.1.getD 0 unk)], r19.2.2))
| .ret => some (.inr (.ret, [(r19.2.1.getD 0 unk)], r19.2.2))) (
some (.inr (.exit 0, [unk], s)))
noncomputable def loop4s (C : Am.Callee) (L : Loops) (n0 : Nat) : List Value × AS → Option ((List Value × AS) ⊕ (AEx × List Value × AS)) := fun s => loop4 C L n0 (s.1.getD 0 unk) (s.1.getD 1 unk) (s.1.getD 2 unk) s.2
noncomputable def j4 (C : Am.Callee) (L : Loops) (n0 : Nat) (s : AS) : Option (Value × List Blk × Option Nat) :=
fin PP false n0 [.bool true] s
noncomputable def sh (C : Am.Callee) (L : Loops) (n0 : Nat) (t0 : Value) (s : AS) : Option (Value × List Blk × Option Nat) :=
(aLen PP t_L_twainref34_Event t0 s).bind fun x1 =>
(aBin PP .gtr t_int (.tmp 6) (.const (.int .i64 100)) x1 (.int .i64 100)).bind fun x2 =>
bcase x2 (
fin PP false n0 [.bool false] s) (
((aLen PP t_L_twainref34_Event t0 s).bind fun x3 =>
(L n0 (loop4s C L n0) ([t0, x3, .int .i64 0], s)).bind fun r21 =>
match r21.1 with
| .normal => some (AEx.normal, [(r21.2.1.getD 0 unk)], r21.2.2)
| .exit i => if i = 0 then some (AEx.normal, [(r21.2.1.getD 0 unk)], r21.2.2) else some (AEx.exit i, [(r21.2.1.getD 0 unk)], r21.2.2)
| .ret => some (AEx.ret, [(r21.2.1.getD 0 unk)], r21.2.2)).bind fun r22 =>
match r22.1 with
| .normal => j4 C L n0  r22.2.2
| .exit i => none
| .ret => fin PP false n0 [(r22.2.1.getD 0 unk)] r22.2.2)
def T : Tab := ⟨fun i => if i = 4 then some [8, 9, 10] else none, fun i => if i = 4 then some [2] else none, false, fun i => if i = 7 then some [8, 9, 10, 24] else if i = 8 then some [2, 8, 9, 10] else if i = 9 then some [2] else none, fun _ => false, false⟩
end twainlaw36_Few
namespace twainlaw36_lives
noncomputable def sh (C : Am.Callee) (L : Loops) (n0 : Nat) (s : AS) : Option (Value × List Blk × Option Nat) :=
(aBuild PP t_api_Span [(0, .int .i64 3), (1, .int .i64 1)]).bind fun x1 =>
(aMakeSlice PP t_L_uint8 (.int .i64 16) (.int .i64 16) s).bind fun r2 =>
(aBuild PP t_api_Request [(0, .int .i64 1), (1, x1), (2, r2.1)]).bind fun x3 =>
(aBox t_api_Request ((zeroP PP t_api_Request).getD unk) r2.2).bind fun r4 =>
(aStore 4 r4.2 r4.1 x3).bind fun s5 =>
(aLoad true 4 s5 r4.1).bind fun x6 =>
(aBuild PP t_world_Event [(0, .int .i64 0), (2, .int .i64 5), (3, x6)]).bind fun x7 =>
(aBuild PP t_world_Event [(0, .int .i64 1), (2, .int .i64 5)]).bind fun x8 =>
(bsl PP t_L_world_Event 2 [0, 1] [x7, x8] s5).bind fun r9 =>
(C n_history_Ops [r9.1, .int .i64 3] r9.2.H).bind fun r10 =>
(aLen PP t_L_history_Op r10.1 (AS.mk r10.2.1 (joinEsc r9.2.esc r10.2.2))).bind fun x11 =>
(aBin PP .eql t_int (.tmp 14) (.const (.int .i64 1)) x11 (.int .i64 1)).bind fun x12 =>
bcase x12 (
(aIndexAddr PP t_L_history_Op r10.1 (.int .i64 0)).bind fun x13 =>
(aFieldAddr PP t_history_Op x13 0).bind fun x14 =>
(aLoad false 1 (AS.mk r10.2.1 (joinEsc r9.2.esc r10.2.2)) x14).bind fun x15 =>
bcase x15 (
(aIndexAddr PP t_L_history_Op r10.1 (.int .i64 0)).bind fun x16 =>
(aFieldAddr PP t_history_Op x16 2).bind fun x17 =>
(aLoad false 1 (AS.mk r10.2.1 (joinEsc r9.2.esc r10.2.2)) x17).bind fun x18 =>
(aBin PP .eql t_int (.tmp 26) (.const (.int .i64 0)) x18 (.int .i64 0)).bind fun x19 =>
bcase x19 (
(aIndexAddr PP t_L_history_Op r10.1 (.int .i64 0)).bind fun x20 =>
(aFieldAddr PP t_history_Op x20 3).bind fun x21 =>
(aLoad false 1 (AS.mk r10.2.1 (joinEsc r9.2.esc r10.2.2)) x21).bind fun x22 =>
(aBin PP .eql t_int (.tmp 33) (.const (.int .i64 1)) x22 (.int .i64 1)).bind fun x23 =>
bcase x23 (
(C n_history_Open [r9.1] (AS.mk r10.2.1 (joinEsc r9.2.esc r10.2.2)).H).bind fun r24 =>
(aLen PP t_L_int r24.1 (AS.mk r24.2.1 (joinEsc (AS.mk r10.2.1 (joinEsc r9.2.esc r10.2.2)).esc r24.2.2))).bind fun x25 =>
(aBin PP .eql t_int (.tmp 39) (.const (.int .i64 0)) x25 (.int .i64 0)).bind fun x26 =>
bcase x26 (
(C n_history_Odd [r9.1] (AS.mk r24.2.1 (joinEsc (AS.mk r10.2.1 (joinEsc r9.2.esc r10.2.2)).esc r24.2.2)).H).bind fun r27 =>
(aUn PP .not r27.1).bind fun x28 =>
fin PP false n0 [x28] (AS.mk r27.2.1 (joinEsc (AS.mk r24.2.1 (joinEsc (AS.mk r10.2.1 (joinEsc r9.2.esc r10.2.2)).esc r24.2.2)).esc r27.2.2))) (
fin PP false n0 [.bool false] (AS.mk r24.2.1 (joinEsc (AS.mk r10.2.1 (joinEsc r9.2.esc r10.2.2)).esc r24.2.2)))) (
fin PP false n0 [.bool false] (AS.mk r10.2.1 (joinEsc r9.2.esc r10.2.2)))) (
fin PP false n0 [.bool false] (AS.mk r10.2.1 (joinEsc r9.2.esc r10.2.2)))) (
fin PP false n0 [.bool false] (AS.mk r10.2.1 (joinEsc r9.2.esc r10.2.2)))) (
fin PP false n0 [.bool false] (AS.mk r10.2.1 (joinEsc r9.2.esc r10.2.2)))
def T : Tab := ⟨fun i => none, fun i => none, false, fun i => none, fun _ => false, true⟩
end twainlaw36_lives
namespace twainlaw36_Raw
noncomputable def loop3 (C : Am.Callee) (L : Loops) (n0 : Nat) (t3 t6 t7 t8 : Value) (s : AS) : Option ((List Value × AS) ⊕ (AEx × List Value × AS)) :=
(aBin PP .lss t_int (.tmp 8) (.tmp 7) t8 t7).bind fun x2 =>
bcase x2 (
(aIndexAddr PP t_L_twainref34_Event t6 t8).bind fun x3 =>
(aLoad true 8 s x3).bind fun x4 =>
(aBox t_twainref34_Event ((zeroP PP t_twainref34_Event).getD unk) s).bind fun r5 =>
(aStore 8 r5.2 r5.1 x4).bind fun s6 =>
(aLoad true 8 s6 r5.1).bind fun x7 =>
(bsl PP t_L_world_Event 1 [0] [x7] s6).bind fun r8 =>
eBuiltin PP .append #[t_L_world_Event, t_L_world_Event] [t3, r8.1] r8.2 fun x9 s10 =>
(aBin PP .add t_int (.tmp 8) (.const (.int .i64 1)) t8 (.int .i64 1)).bind fun x11 =>
some (.inl ([x9, t6, t7, x11], s10))) (
some (.inr (.exit 0, [t3], s)))
noncomputable def loop3s (C : Am.Callee) (L : Loops) (n0 : Nat) : List Value × AS → Option ((List Value × AS) ⊕ (AEx × List Value × AS)) := fun s => loop3 C L n0 (s.1.getD 0 unk) (s.1.getD 1 unk) (s.1.getD 2 unk) (s.1.getD 3 unk) s.2
noncomputable def j2 (C : Am.Callee) (L : Loops) (n0 : Nat) (t3 : Value) (s : AS) : Option (Value × List Blk × Option Nat) :=
fin PP false n0 [t3] s
noncomputable def sh (C : Am.Callee) (L : Loops) (n0 : Nat) (t0 : Value) (s : AS) : Option (Value × List Blk × Option Nat) :=
((aLen PP t_L_twainref34_Event t0 s).bind fun x1 =>
(L n0 (loop3s C L n0) ([.slice none 0 0, t0, x1, .int .i64 0], s)).bind fun r12 =>
match r12.1 with
| .normal => some (AEx.normal, [(r12.2.1.getD 0 unk)], r12.2.2)
| .exit i => if i = 0 then some (AEx.normal, [(r12.2.1.getD 0 unk)], r12.2.2) else some (AEx.exit i, [(r12.2.1.getD 0 unk)], r12.2.2)
| .ret => some (AEx.ret, [(r12.2.1.getD 0 unk)], r12.2.2)).bind fun r13 =>
match r13.1 with
| .normal => j2 C L n0 ((r13.2.1.getD 0 unk)) r13.2.2
| .exit i => none
| .ret => fin PP false n0 [unk] r13.2.2
def T : Tab := ⟨fun i => if i = 3 then some [3, 6, 7, 8] else none, fun i => if i = 3 then some [3] else none, false, fun i => if i = 7 then some [3] else none, fun _ => false, false⟩
end twainlaw36_Raw
namespace twainref36_Same
noncomputable def loop4 (C : Am.Callee) (L : Loops) (n0 : Nat) (t0 t1 t12 t13 : Value) (s : AS) : Option ((List Value × AS) ⊕ (AEx × List Value × AS)) :=
(aBin PP .lss t_int (.tmp 13) (.tmp 12) t13 t12).bind fun x5 =>
bcase x5 (
(aIndexAddr PP t_L_twainref36_Op t0 t13).bind fun x6 =>
(aLoad true 19 s x6).bind fun x7 =>
(aIndexAddr PP t_L_twainref36_Op t1 t13).bind fun x8 =>
(aLoad true 19 s x8).bind fun x9 =>
(aBin PP .neq t_twainref36_Op (.tmp 19) (.tmp 23) x7 x9).bind fun x10 =>
bcase x10 (
some (.inr (.ret, [.bool false], s))) (
(aBin PP .add t_int (.tmp 13) (.const (.int .i64 1)) t13 (.int .i64 1)).bind fun x11 =>
some (.inl ([t0, t1, t12, x11], s)))) (
some (.inr (.exit 0, [unk], s)))
noncomputable def loop4s (C : Am.Callee) (L : Loops) (n0 : Nat) : List Value × AS → Option ((List Value × AS) ⊕ (AEx × List Value × AS)) := fun s => loop4 C L n0 (s.1.getD 0 unk) (s.1.getD 1 unk) (s.1.getD 2 unk) (s.1.getD 3 unk) s.2
noncomputable def j2 (C : Am.Callee) (L : Loops) (n0 : Nat) (s : AS) : Option (Value × List Blk × Option Nat) :=
fin PP false n0 [.bool true] s
noncomputable def sh (C : Am.Callee) (L : Loops) (n0 : Nat) (t0 t1 : Value) (s : AS) : Option (Value × List Blk × Option Nat) :=
(aLen PP t_L_twainref36_Op t0 s).bind fun x1 =>
(aLen PP t_L_twainref36_Op t1 s).bind fun x2 =>
(aBin PP .neq t_int (.tmp 7) (.tmp 9) x1 x2).bind fun x3 =>
bcase x3 (
fin PP false n0 [.bool false] s) (
((aLen PP t_L_twainref36_Op t0 s).bind fun x4 =>
(L n0 (loop4s C L n0) ([t0, t1, x4, .int .i64 0], s)).bind fun r12 =>
match r12.1 with
| .normal => some (AEx.normal, [(r12.2.1.getD 0 unk)], r12.2.2)
| .exit i => if i = 0 then some (AEx.normal, [(r12.2.1.getD 0 unk)], r12.2.2) else some (AEx.exit i, [(r12.2.1.getD 0 unk)], r12.2.2)
| .ret => some (AEx.ret, [(r12.2.1.getD 0 unk)], r12.2.2)).bind fun r13 =>
match r13.1 with
| .normal => j2 C L n0  r13.2.2
| .exit i => none
| .ret => fin PP false n0 [(r13.2.1.getD 0 unk)] r13.2.2)
def T : Tab := ⟨fun i => if i = 4 then some [0, 1, 12, 13] else none, fun i => if i = 4 then some [4] else none, false, fun i => if i = 9 then some [4] else none, fun _ => false, false⟩
end twainref36_Same
namespace twainlaw36_Ops
noncomputable def loop3 (C : Am.Callee) (L : Loops) (n0 : Nat) (t3 t6 t7 t8 : Value) (s : AS) : Option ((List Value × AS) ⊕ (AEx × List Value × AS)) :=
(aBin PP .lss t_int (.tmp 8) (.tmp 7) t8 t7).bind fun x2 =>
bcase x2 (
(aIndexAddr PP t_L_history_Op t6 t8).bind fun x3 =>
(aLoad true 19 s x3).bind fun x4 =>
(aBox t_history_Op ((zeroP PP t_history_Op).getD unk) s).bind fun r5 =>
(aStore 19 r5.2 r5.1 x4).bind fun s6 =>
(aLoad true 19 s6 r5.1).bind fun x7 =>
(bsl PP t_L_twainref36_Op 1 [0] [x7] s6).bind fun r8 =>
eBuiltin PP .append #[t_L_twainref36_Op, t_L_twainref36_Op] [t3, r8.1] r8.2 fun x9 s10 =>
(aBin PP .add t_int (.tmp 8) (.const (.int .i64 1)) t8 (.int .i64 1)).bind fun x11 =>
some (.inl ([x9, t6, t7, x11], s10))) (
some (.inr (.exit 0, [t3], s)))
noncomputable def loop3s (C : Am.Callee) (L : Loops) (n0 : Nat) : List Value × AS → Option ((List Value × AS) ⊕ (AEx × List Value × AS)) := fun s => loop3 C L n0 (s.1.getD 0 unk) (s.1.getD 1 unk) (s.1.getD 2 unk) (s.1.getD 3 unk) s.2
noncomputable def j2 (C : Am.Callee) (L : Loops) (n0 : Nat) (t3 : Value) (s : AS) : Option (Value × List Blk × Option Nat) :=
fin PP false n0 [t3] s
noncomputable def sh (C : Am.Callee) (L : Loops) (n0 : Nat) (t0 : Value) (s : AS) : Option (Value × List Blk × Option Nat) :=
((aLen PP t_L_history_Op t0 s).bind fun x1 =>
(L n0 (loop3s C L n0) ([.slice none 0 0, t0, x1, .int .i64 0], s)).bind fun r12 =>
match r12.1 with
| .normal => some (AEx.normal, [(r12.2.1.getD 0 unk)], r12.2.2)
| .exit i => if i = 0 then some (AEx.normal, [(r12.2.1.getD 0 unk)], r12.2.2) else some (AEx.exit i, [(r12.2.1.getD 0 unk)], r12.2.2)
| .ret => some (AEx.ret, [(r12.2.1.getD 0 unk)], r12.2.2)).bind fun r13 =>
match r13.1 with
| .normal => j2 C L n0 ((r13.2.1.getD 0 unk)) r13.2.2
| .exit i => none
| .ret => fin PP false n0 [unk] r13.2.2
def T : Tab := ⟨fun i => if i = 3 then some [3, 6, 7, 8] else none, fun i => if i = 3 then some [3] else none, false, fun i => if i = 7 then some [3] else none, fun _ => false, false⟩
end twainlaw36_Ops
namespace history_Ops
noncomputable def j1 (C : Am.Callee) (L : Loops) (n0 : Nat) (t0 t1 t5 t6 t7 t8 t9 t17 t18 t19 t46 : Value) (s : AS) : Option (AEx × List Value × AS) :=
bcase t46 (
some (AEx.exit 1, [t0, t1, t5, t6, t7, t8, t9, t17, t18, t19], s)) (
some (AEx.normal, [t0, t1, t5, t6, t7, t8, t9, t17, t18, t19], s))
noncomputable def j4 (C : Am.Callee) (L : Loops) (n0 : Nat) (t0 t1 t5 t6 t7 t10 t17 t18 t19 : Value) (s : AS) : Option (AEx × List Value × AS) :=
(aLoad true 19 s t10).bind fun x76 =>
(bsl PP t_L_history_Op 1 [0] [x76] s).bind fun r77 =>
eBuiltin PP .append #[t_L_history_Op, t_L_history_Op] [t5, r77.1] r77.2 fun x78 s79 =>
some (AEx.normal, [t0, t1, x78, t6, t7, t17, t18, t19], s79)
noncomputable def j3 (C : Am.Callee) (L : Loops) (n0 : Nat) (t0 t1 t5 t6 t7 t9 t10 t11 t17 t18 t19 : Value) (s : AS) : Option (AEx × List Value × AS) :=
((aFieldAddr PP t_world_Event t9 3).bind fun x61 =>
(aFieldAddr PP t_api_Request x61 1).bind fun x62 =>
(aFieldAddr PP t_api_Span x62 0).bind fun x63 =>
(aLoad false 1 s x63).bind fun x64 =>
(aBin PP .sub t_int (.tmp 72) (.tmp 76) t1 x64).bind fun x65 =>
(C n_history_cut [t11, x65] s.H).bind fun r66 =>
(aBox t_api_Sector ((zeroP PP t_api_Sector).getD unk) (AS.mk r66.2.1 (joinEsc s.esc r66.2.2))).bind fun r67 =>
(aStore 16 r67.2 r67.1 r66.1).bind fun s68 =>
(aLoad true 16 s68 r67.1).bind fun x69 =>
(aBuild PP t_api_Sector []).bind fun x70 =>
(aBin PP .neq t_api_Sector (.tmp 79) (.tmp 80) x69 x70).bind fun x71 =>
bcase x71 (
(aLoad true 16 s68 r67.1).bind fun x72 =>
(aFieldAddr PP t_history_Op t10 1).bind fun x73 =>
(aStore 16 s68 x73 x72).bind fun s74 =>
some (AEx.normal, [t0, t1, t5, t6, t7, t10, t17, t18, t19], s74)) (
some (AEx.normal, [t0, t1, t5, t6, t7, t10, t17, t18, t19], s68))).bind fun r75 =>
match r75.1 with
| .normal => j4 C L n0 ((r75.2.1.getD 0 unk)) ((r75.2.1.getD 1 unk)) ((r75.2.1.getD 2 unk)) ((r75.2.1.getD 3 unk)) ((r75.2.1.getD 4 unk)) ((r75.2.1.getD 5 unk)) ((r75.2.1.getD 6 unk)) ((r75.2.1.getD 7 unk)) ((r75.2.1.getD 8 unk)) r75.2.2
| .exit i => if i = 1 then some (AEx.normal, [(r75.2.1.getD 0 unk), (r75.2.1.getD 1 unk), (r75.2.1.getD 2 unk), (r75.2.1.getD 3 unk), (r75.2.1.getD 4 unk), (r75.2.1.getD 6 unk), (r75.2.1.getD 7 unk), (r75.2.1.getD 8 unk)], r75.2.2) else some (AEx.exit i, [(r75.2.1.getD 0 unk), (r75.2.1.getD 1 unk), (r75.2.1.getD 2 unk), (r75.2.1.getD 3 unk), (r75.2.1.getD 4 unk), (r75.2.1.getD 6 unk), (r75.2.1.getD 7 unk), (r75.2.1.getD 8 unk)], r75.2.2)
| .ret => some (AEx.ret, [(r75.2.1.getD 0 unk), (r75.2.1.getD 1 unk), (r75.2.1.getD 2 unk), (r75.2.1.getD 3 unk), (r75.2.1.getD 4 unk), (r75.2.1.getD 6 unk), (r75.2.1.getD 7 unk), (r75.2.1.getD 8 unk)], r75.2.2)
noncomputable def j2 (C : Am.Callee) (L : Loops) (n0 : Nat) (t0 t1 t5 t6 t7 t8 t9 t17 t18 t19 : Value) (s : AS) : Option (AEx × List Value × AS) :=
(aFieldAddr PP t_world_Event t9 3).bind fun x37 =>
(aFieldAddr PP t_api_Request x37 0).bind fun x38 =>
(aLoad false 1 s x38).bind fun x39 =>
(aBin PP .eql t_int (.tmp 49) (.const (.int .i64 1)) x39 (.int .i64 1)).bind fun x40 =>
(aLoad true 3 s t6).bind fun x41 =>
(C n_history_pairs_to [x41, t8] s.H).bind fun r42 =>
if ((((aLoad false 1 (AS.mk r42.2.1 (joinEsc s.esc r42.2.2)) x38).bind fun x80 =>
some (veq x80 x39)) == some true) && true) = true then
(aBuild PP t_history_Op [(0, x40), (2, t8), (3, r42.1)]).bind fun x43 =>
(aBox t_history_Op ((zeroP PP t_history_Op).getD unk) (AS.mk r42.2.1 (joinEsc s.esc r42.2.2))).bind fun r44 =>
(aStore 19 r44.2 r44.1 x43).bind fun s45 =>
(aFieldAddr PP t_world_Event t9 3).bind fun x46 =>
(aFieldAddr PP t_api_Request x46 2).bind fun x47 =>
(aLoad false 1 s45 x47).bind fun x48 =>
((aFieldAddr PP t_history_Op r44.1 0).bind fun x49 =>
(aLoad false 1 s45 x49).bind fun x50 =>
(aUn PP .not x50).bind fun x51 =>
bcase x51 (
(aFieldAddr PP t_history_Op r44.1 3).bind fun x52 =>
(aLoad false 1 s45 x52).bind fun x53 =>
(aBin PP .eql t_int (.tmp 63) (.const (.int .i64 (-1))) x53 (.int .i64 (-1))).bind fun x54 =>
bcase x54 (
some (AEx.exit 1, [t0, t1, t5, t6, t7, t9, r44.1, x48, t17, t18, t19], s45)) (
(aFieldAddr PP t_history_Op r44.1 3).bind fun x55 =>
(aLoad false 1 s45 x55).bind fun x56 =>
(aIndexAddr PP t_L_world_Event t0 x56).bind fun x57 =>
(aFieldAddr PP t_world_Event x57 4).bind fun x58 =>
(aLoad false 1 s45 x58).bind fun x59 =>
some (AEx.normal, [t0, t1, t5, t6, t7, t9, r44.1, x59, t17, t18, t19], s45))) (
some (AEx.normal, [t0, t1, t5, t6, t7, t9, r44.1, x48, t17, t18, t19], s45))).bind fun r60 =>
match r60.1 with
| .normal => j3 C L n0 ((r60.2.1.getD 0 unk)) ((r60.2.1.getD 1 unk)) ((r60.2.1.getD 2 unk)) ((r60.2.1.getD 3 unk)) ((r60.2.1.getD 4 unk)) ((r60.2.1.getD 5 unk)) ((r60.2.1.getD 6 unk)) ((r60.2.1.getD 7 unk)) ((r60.2.1.getD 8 unk)) ((r60.2.1.getD 9 unk)) ((r60.2.1.getD 10 unk)) r60.2.2
| .exit i => if i = 1 then some (AEx.normal, [(r60.2.1.getD 0 unk), (r60.2.1.getD 1 unk), (r60.2.1.getD 2 unk), (r60.2.1.getD 3 unk), (r60.2.1.getD 4 unk), (r60.2.1.getD 8 unk), (r60.2.1.getD 9 unk), (r60.2.1.getD 10 unk)], r60.2.2) else some (AEx.exit i, [(r60.2.1.getD 0 unk), (r60.2.1.getD 1 unk), (r60.2.1.getD 2 unk), (r60.2.1.getD 3 unk), (r60.2.1.getD 4 unk), (r60.2.1.getD 8 unk), (r60.2.1.getD 9 unk), (r60.2.1.getD 10 unk)], r60.2.2)
| .ret => some (AEx.ret, [(r60.2.1.getD 0 unk), (r60.2.1.getD 1 unk), (r60.2.1.getD 2 unk), (r60.2.1.getD 3 unk), (r60.2.1.getD 4 unk), (r60.2.1.getD 8 unk), (r60.2.1.getD 9 unk), (r60.2.1.getD 10 unk)], r60.2.2)
else none
noncomputable def j5 (C : Am.Callee) (L : Loops) (n0 : Nat) (t0 t1 t5 t6 t7 t17 t18 t19 : Value) (s : AS) : Option ((List Value × AS) ⊕ (AEx × List Value × AS)) :=
(aBin PP .add t_int (.tmp 19) (.const (.int .i64 1)) t19 (.int .i64 1)).bind fun x82 =>
some (.inl ([t0, t1, t5, t6, t7, t17, t18, x82], s))
noncomputable def loop5 (C : Am.Callee) (L : Loops) (n0 : Nat) (t0 t1 t5 t6 t7 t17 t18 t19 : Value) (s : AS) : Option ((List Value × AS) ⊕ (AEx × List Value × AS)) :=
(aBin PP .lss t_int (.tmp 19) (.tmp 18) t19 t18).bind fun x8 =>
bcase x8 (
((aIndexAddr PP t_L_world_Event t17 t19).bind fun x9 =>
(aLoad true 8 s x9).bind fun x10 =>
(aBox t_world_Event ((zeroP PP t_world_Event).getD unk) s).bind fun r11 =>
(aStore 8 r11.2 r11.1 x10).bind fun s12 =>
((aFieldAddr PP t_world_Event r11.1 0).bind fun x13 =>
(aLoad false 1 s12 x13).bind fun x14 =>
(aBin PP .neq t_int (.tmp 25) (.const (.int .i64 0)) x14 (.int .i64 0)).bind fun x15 =>
bcase x15 (
j1 C L n0 t0 t1 t5 t6 t7 t19 r11.1 t17 t18 t19 (.bool true) s12) (
(aFieldAddr PP t_world_Event r11.1 3).bind fun x16 =>
(aFieldAddr PP t_api_Request x16 0).bind fun x17 =>
(aLoad false 1 s12 x17).bind fun x18 =>
(aBin PP .neq t_int (.tmp 30) (.const (.int .i64 0)) x18 (.int .i64 0)).bind fun x19 =>
bcase x19 (
(aFieldAddr PP t_world_Event r11.1 3).bind fun x20 =>
(aFieldAddr PP t_api_Request x20 0).bind fun x21 =>
(aLoad false 1 s12 x21).bind fun x22 =>
(aBin PP .neq t_int (.tmp 35) (.const (.int .i64 1)) x22 (.int .i64 1)).bind fun x23 =>
bcase x23 (
j1 C L n0 t0 t1 t5 t6 t7 t19 r11.1 t17 t18 t19 (.bool true) s12) (
(aFieldAddr PP t_world_Event r11.1 3).bind fun x24 =>
(aFieldAddr PP t_api_Request x24 1).bind fun x25 =>
(aLoad true 2 s12 x25).bind fun x26 =>
(aLoad true 2 s12 t7).bind fun x27 =>
(C n_span_Overlap [x26, x27] s12.H).bind fun r28 =>
(aUn PP .not r28.1).bind fun x29 =>
j1 C L n0 t0 t1 t5 t6 t7 t19 r11.1 t17 t18 t19 x29 (AS.mk r28.2.1 (joinEsc s12.esc r28.2.2)))) (
(aFieldAddr PP t_world_Event r11.1 3).bind fun x30 =>
(aFieldAddr PP t_api_Request x30 1).bind fun x31 =>
(aLoad true 2 s12 x31).bind fun x32 =>
(aLoad true 2 s12 t7).bind fun x33 =>
(C n_span_Overlap [x32, x33] s12.H).bind fun r34 =>
(aUn PP .not r34.1).bind fun x35 =>
j1 C L n0 t0 t1 t5 t6 t7 t19 r11.1 t17 t18 t19 x35 (AS.mk r34.2.1 (joinEsc s12.esc r34.2.2))))).bind fun r36 =>
match r36.1 with
| .normal => j2 C L n0 ((r36.2.1.getD 0 unk)) ((r36.2.1.getD 1 unk)) ((r36.2.1.getD 2 unk)) ((r36.2.1.getD 3 unk)) ((r36.2.1.getD 4 unk)) ((r36.2.1.getD 5 unk)) ((r36.2.1.getD 6 unk)) ((r36.2.1.getD 7 unk)) ((r36.2.1.getD 8 unk)) ((r36.2.1.getD 9 unk)) r36.2.2
| .exit i => if i = 1 then some (AEx.normal, [(r36.2.1.getD 0 unk), (r36.2.1.getD 1 unk), (r36.2.1.getD 2 unk), (r36.2.1.getD 3 unk), (r36.2.1.getD 4 unk), (r36.2.1.getD 7 unk), (r36.2.1.getD 8 unk), (r36.2.1.getD 9 unk)], r36.2.2) else some (AEx.exit i, [(r36.2.1.getD 0 unk), (r36.2.1.getD 1 unk), (r36.2.1.getD 2 unk), (r36.2.1.getD 3 unk), (r36.2.1.getD 4 unk), (r36.2.1.getD 7 unk), (r36.2.1.getD 8 unk), (r36.2.1.getD 9 unk)], r36.2.2)
| .ret => some (AEx.ret, [(r36.2.1.getD 0 unk), (r36.2.1.getD 1 unk), (r36.2.1.getD 2 unk), (r36.2.1.getD 3 unk), (r36.2.1.getD 4 unk), (r36.2.1.getD 7 unk), (r36.2.1.getD 8 unk), (r36.2.1.getD 9 unk)], r36.2.2)).bind fun r81 =>
match r81.1 with
| .normal => j5 C L n0 ((r81.2.1.getD 0 unk)) ((r81.2.1.getD 1 unk)) ((r81.2.1.getD 2 unk)) ((r81.2.1.getD 3 unk)) ((r81.2.1.getD 4 unk)) ((r81.2.1.getD 5 unk)) ((r81.2.1.getD 6 unk)) ((r81.2.1.getD 7 unk)) r81.2.2
| .exit i => some (.inr (.exit i, [(r81.2.1.getD 2 unk)], r81.2.2))
| .ret => some (.inr (.ret, [(r81.2.1.getD 2 unk)], r81.2.2))) (
some (.inr (.exit 0, [t5], s)))
noncomputable def loop5s (C : Am.Callee) (L : Loops) (n0 : Nat) : List Value × AS → Option ((List Value × AS) ⊕ (AEx × List Value × AS)) := fun s => loop5 C L n0 (s.1.getD 0 unk) (s.1.getD 1 unk) (s.1.getD 2 unk) (s.1.getD 3 unk) (s.1.getD 4 unk) (s.1.getD 5 unk) (s.1.getD 6 unk) (s.1.getD 7 unk) s.2
noncomputable def j7 (C : Am.Callee) (L : Loops) (n0 : Nat) (t5 : Value) (s : AS) : Option (Value × List Blk × Option Nat) :=
fin PP false n0 [t5] s
noncomputable def sh (C : Am.Callee) (L : Loops) (n0 : Nat) (t0 t1 : Value) (s : AS) : Option (Value × List Blk × Option Nat) :=
(C n_history_paired [t0] s.H).bind fun r1 =>
(aBox t_history_pairs ((zeroP PP t_history_pairs).getD unk) (AS.mk r1.2.1 (joinEsc s.esc r1.2.2))).bind fun r2 =>
(aStore 3 r2.2 r2.1 r1.1).bind fun s3 =>
(aBuild PP t_api_Span [(0, t1), (1, .int .i64 1)]).bind fun x4 =>
(aBox t_api_Span ((zeroP PP t_api_Span).getD unk) s3).bind fun r5 =>
(aStore 2 r5.2 r5.1 x4).bind fun s6 =>
((aLen PP t_L_world_Event t0 s6).bind fun x7 =>
(L n0 (loop5s C L n0) ([t0, t1, .slice none 0 0, r2.1, r5.1, t0, x7, .int .i64 0], s6)).bind fun r83 =>
match r83.1 with
| .normal => some (AEx.normal, [(r83.2.1.getD 0 unk)], r83.2.2)
| .exit i => if i = 0 then some (AEx.normal, [(r83.2.1.getD 0 unk)], r83.2.2) else some (AEx.exit i, [(r83.2.1.getD 0 unk)], r83.2.2)
| .ret => some (AEx.ret, [(r83.2.1.getD 0 unk)], r83.2.2)).bind fun r84 =>
match r84.1 with
| .normal => j7 C L n0 ((r84.2.1.getD 0 unk)) r84.2.2
| .exit i => none
| .ret => fin PP false n0 [unk] r84.2.2
def T : Tab := ⟨fun i => if i = 5 then some [0, 1, 5, 6, 7, 17, 18, 19] else none, fun i => if i = 5 then some [5] else none, false, fun i => if i = 8 then some [0, 1, 5, 6, 7, 8, 9, 17, 18, 19] else if i = 13 then some [0, 1, 5, 6, 7, 9, 10, 11, 17, 18, 19] else if i = 16 then some [0, 1, 5, 6, 7, 10, 17, 18, 19] else if i = 17 then some [0, 1, 5, 6, 7, 17, 18, 19] else if i = 18 then some [5] else none, fun _ => false, false⟩
end history_Ops
namespace twainref36_Ops
noncomputable def j1 (C : Am.Callee) (L : Loops) (n0 : Nat) (t0 t1 t5 t6 t7 t9 t10 t11 t39 : Value) (s : AS) : Option (AEx × List Value × AS) :=
bcase t39 (
some (AEx.exit 1, [t0, t1, t5, t6, t7, t9, t10, t11], s)) (
some (AEx.normal, [t0, t1, t5, t6, t7, t9, t10, t11], s))
noncomputable def j3 (C : Am.Callee) (L : Loops) (n0 : Nat) (t0 t1 t5 t8 t9 t10 t11 : Value) (s : AS) : Option (AEx × List Value × AS) :=
(aLoad true 19 s t8).bind fun x63 =>
(bsl PP t_L_twainref36_Op 1 [0] [x63] s).bind fun r64 =>
eBuiltin PP .append #[t_L_twainref36_Op, t_L_twainref36_Op] [t5, r64.1] r64.2 fun x65 s66 =>
some (AEx.normal, [t0, t1, x65, t9, t10, t11], s66)
noncomputable def j2 (C : Am.Callee) (L : Loops) (n0 : Nat) (t0 t1 t5 t6 t7 t9 t10 t11 : Value) (s : AS) : Option (AEx × List Value × AS) :=
(aFieldAddr PP t_twainref34_Event t7 3).bind fun x25 =>
(aFieldAddr PP t_api_Request x25 0).bind fun x26 =>
(aLoad false 1 s x26).bind fun x27 =>
(aBin PP .eql t_int (.tmp 42) (.const (.int .i64 1)) x27 (.int .i64 1)).bind fun x28 =>
(C n_twainref36_ended [t0, t6] s.H).bind fun r29 =>
if ((((aLoad false 1 (AS.mk r29.2.1 (joinEsc s.esc r29.2.2)) x26).bind fun x67 =>
some (veq x67 x27)) == some true) && true) = true then
(aBuild PP t_twainref36_Op [(0, x28), (2, t6), (3, r29.1)]).bind fun x30 =>
(aBox t_twainref36_Op ((zeroP PP t_twainref36_Op).getD unk) (AS.mk r29.2.1 (joinEsc s.esc r29.2.2))).bind fun r31 =>
(aStore 19 r31.2 r31.1 x30).bind fun s32 =>
((aFieldAddr PP t_twainref36_Op r31.1 0).bind fun x33 =>
(aLoad false 1 s32 x33).bind fun x34 =>
bcase x34 (
(aFieldAddr PP t_twainref34_Event t7 3).bind fun x35 =>
(aFieldAddr PP t_api_Request x35 2).bind fun x36 =>
(aLoad false 1 s32 x36).bind fun x37 =>
(aFieldAddr PP t_twainref34_Event t7 3).bind fun x38 =>
(aFieldAddr PP t_api_Request x38 1).bind fun x39 =>
(aFieldAddr PP t_api_Span x39 0).bind fun x40 =>
(aLoad false 1 s32 x40).bind fun x41 =>
(aBin PP .sub t_int (.tmp 69) (.tmp 73) t1 x41).bind fun x42 =>
(C n_twainref36_sector [x37, x42] s32.H).bind fun r43 =>
(aFieldAddr PP t_twainref36_Op r31.1 1).bind fun x44 =>
(aStore 16 (AS.mk r43.2.1 (joinEsc s32.esc r43.2.2)) x44 r43.1).bind fun s45 =>
some (AEx.normal, [t0, t1, t5, r31.1, t9, t10, t11], s45)) (
(aFieldAddr PP t_twainref36_Op r31.1 3).bind fun x46 =>
(aLoad false 1 s32 x46).bind fun x47 =>
(aBin PP .lss t_int (.tmp 79) (.const (.int .i64 0)) x47 (.int .i64 0)).bind fun x48 =>
bcase x48 (
some (AEx.exit 1, [t0, t1, t5, r31.1, t9, t10, t11], s32)) (
(aFieldAddr PP t_twainref36_Op r31.1 3).bind fun x49 =>
(aLoad false 1 s32 x49).bind fun x50 =>
(aIndexAddr PP t_L_twainref34_Event t0 x50).bind fun x51 =>
(aFieldAddr PP t_twainref34_Event x51 4).bind fun x52 =>
(aLoad false 1 s32 x52).bind fun x53 =>
(aFieldAddr PP t_twainref34_Event t7 3).bind fun x54 =>
(aFieldAddr PP t_api_Request x54 1).bind fun x55 =>
(aFieldAddr PP t_api_Span x55 0).bind fun x56 =>
(aLoad false 1 s32 x56).bind fun x57 =>
(aBin PP .sub t_int (.tmp 55) (.tmp 59) t1 x57).bind fun x58 =>
(C n_twainref36_sector [x53, x58] s32.H).bind fun r59 =>
(aFieldAddr PP t_twainref36_Op r31.1 1).bind fun x60 =>
(aStore 16 (AS.mk r59.2.1 (joinEsc s32.esc r59.2.2)) x60 r59.1).bind fun s61 =>
some (AEx.normal, [t0, t1, t5, r31.1, t9, t10, t11], s61)))).bind fun r62 =>
match r62.1 with
| .normal => j3 C L n0 ((r62.2.1.getD 0 unk)) ((r62.2.1.getD 1 unk)) ((r62.2.1.getD 2 unk)) ((r62.2.1.getD 3 unk)) ((r62.2.1.getD 4 unk)) ((r62.2.1.getD 5 unk)) ((r62.2.1.getD 6 unk)) r62.2.2
| .exit i => if i = 1 then some (AEx.normal, [(r62.2.1.getD 0 unk), (r62.2.1.getD 1 unk), (r62.2.1.getD 2 unk), (r62.2.1.getD 4 unk), (r62.2.1.getD 5 unk), (r62.2.1.getD 6 unk)], r62.2.2) else some (AEx.exit i, [(r62.2.1.getD 0 unk), (r62.2.1.getD 1 unk), (r62.2.1.getD 2 unk), (r62.2.1.getD 4 unk), (r62.2.1.getD 5 unk), (r62.2.1.getD 6 unk)], r62.2.2)
| .ret => some (AEx.ret, [(r62.2.1.getD 0 unk), (r62.2.1.getD 1 unk), (r62.2.1.getD 2 unk), (r62.2.1.getD 4 unk), (r62.2.1.getD 5 unk), (r62.2.1.getD 6 unk)], r62.2.2)
else none
noncomputable def j4 (C : Am.Callee) (L : Loops) (n0 : Nat) (t0 t1 t5 t9 t10 t11 : Value) (s : AS) : Option ((List Value × AS) ⊕ (AEx × List Value × AS)) :=
(aBin PP .add t_int (.tmp 11) (.const (.int .i64 1)) t11 (.int .i64 1)).bind fun x69 =>
some (.inl ([t0, t1, t5, t9, t10, x69], s))
noncomputable def loop3 (C : Am.Callee) (L : Loops) (n0 : Nat) (t0 t1 t5 t9 t10 t11 : Value) (s : AS) : Option ((List Value × AS) ⊕ (AEx × List Value × AS)) :=
(aBin PP .lss t_int (.tmp 11) (.tmp 10) t11 t10).bind fun x2 =>
bcase x2 (
((aIndexAddr PP t_L_twainref34_Event t9 t11).bind fun x3 =>
(aLoad true 8 s x3).bind fun x4 =>
(aBox t_twainref34_Event ((zeroP PP t_twainref34_Event).getD unk) s).bind fun r5 =>
(aStore 8 r5.2 r5.1 x4).bind fun s6 =>
((aFieldAddr PP t_twainref34_Event r5.1 0).bind fun x7 =>
(aLoad false 1 s6 x7).bind fun x8 =>
(aBin PP .neq t_int (.tmp 17) (.const (.int .i64 0)) x8 (.int .i64 0)).bind fun x9 =>
bcase x9 (
j1 C L n0 t0 t1 t5 t11 r5.1 t9 t10 t11 (.bool true) s6) (
(aFieldAddr PP t_twainref34_Event r5.1 3).bind fun x10 =>
(aFieldAddr PP t_api_Request x10 0).bind fun x11 =>
(aLoad false 1 s6 x11).bind fun x12 =>
(aBin PP .lss t_int (.tmp 22) (.const (.int .i64 0)) x12 (.int .i64 0)).bind fun x13 =>
bcase x13 (
j1 C L n0 t0 t1 t5 t11 r5.1 t9 t10 t11 (.bool true) s6) (
(aFieldAddr PP t_twainref34_Event r5.1 3).bind fun x14 =>
(aFieldAddr PP t_api_Request x14 0).bind fun x15 =>
(aLoad false 1 s6 x15).bind fun x16 =>
(aBin PP .gtr t_int (.tmp 28) (.const (.int .i64 1)) x16 (.int .i64 1)).bind fun x17 =>
bcase x17 (
j1 C L n0 t0 t1 t5 t11 r5.1 t9 t10 t11 (.bool true) s6) (
(aFieldAddr PP t_twainref34_Event r5.1 3).bind fun x18 =>
(aFieldAddr PP t_api_Request x18 1).bind fun x19 =>
(aLoad true 2 s6 x19).bind fun x20 =>
(aBuild PP t_api_Span [(0, t1), (1, .int .i64 1)]).bind fun x21 =>
(C n_twainref04_Overlap [x20, x21] s6.H).bind fun r22 =>
(aUn PP .not r22.1).bind fun x23 =>
j1 C L n0 t0 t1 t5 t11 r5.1 t9 t10 t11 x23 (AS.mk r22.2.1 (joinEsc s6.esc r22.2.2)))))).bind fun r24 =>
match r24.1 with
| .normal => j2 C L n0 ((r24.2.1.getD 0 unk)) ((r24.2.1.getD 1 unk)) ((r24.2.1.getD 2 unk)) ((r24.2.1.getD 3 unk)) ((r24.2.1.getD 4 unk)) ((r24.2.1.getD 5 unk)) ((r24.2.1.getD 6 unk)) ((r24.2.1.getD 7 unk)) r24.2.2
| .exit i => if i = 1 then some (AEx.normal, [(r24.2.1.getD 0 unk), (r24.2.1.getD 1 unk), (r24.2.1.getD 2 unk), (r24.2.1.getD 5 unk), (r24.2.1.getD 6 unk), (r24.2.1.getD 7 unk)], r24.2.2) else some (AEx.exit i, [(r24.2.1.getD 0 unk), (r24.2.1.getD 1 unk), (r24.2.1.getD 2 unk), (r24.2.1.getD 5 unk), (r24.2.1.getD 6 unk), (r24.2.1.getD 7 unk)], r24.2.2)
| .ret => some (AEx.ret, [(r24.2.1.getD 0 unk), (r24.2.1.getD 1 unk), (r24.2.1.getD 2 unk), (r24.2.1.getD 5 unk), (r24.2.1.getD 6 unk), (r24.2.1.getD 7 unk)], r24.2.2)).bind fun r68 =>
match r68.1 with
| .normal => j4 C L n0 ((r68.2.1.getD 0 unk)) ((r68.2.1.getD 1 unk)) ((r68.2.1.getD 2 unk)) ((r68.2.1.getD 3 unk)) ((r68.2.1.getD 4 unk)) ((r68.2.1.getD 5 unk)) r68.2.2
| .exit i => some (.inr (.exit i, [(r68.2.1.getD 2 unk)], r68.2.2))
| .ret => some (.inr (.ret, [(r68.2.1.getD 2 unk)], r68.2.2))) (
some (.inr (.exit 0, [t5], s)))
noncomputable def loop3s (C : Am.Callee) (L : Loops) (n0 : Nat) : List Value × AS → Option ((List Value × AS) ⊕ (AEx × List Value × AS)) := fun s => loop3 C L n0 (s.1.getD 0 unk) (s.1.getD 1 unk) (s.1.getD 2 unk) (s.1.getD 3 unk) (s.1.getD 4 unk) (s.1.getD 5 unk) s.2
noncomputable def j6 (C : Am.Callee) (L : Loops) (n0 : Nat) (t5 : Value) (s : AS) : Option (Value × List Blk × Option Nat) :=
fin PP false n0 [t5] s
noncomputable def sh (C : Am.Callee) (L : Loops) (n0 : Nat) (t0 t1 : Value) (s : AS) : Option (Value × List Blk × Option Nat) :=
((aLen PP t_L_twainref34_Event t0 s).bind fun x1 =>
(L n0 (loop3s C L n0) ([t0, t1, .slice none 0 0, t0, x1, .int .i64 0], s)).bind fun r70 =>
match r70.1 with
| .normal => some (AEx.normal, [(r70.2.1.getD 0 unk)], r70.2.2)
| .exit i => if i = 0 then some (AEx.normal, [(r70.2.1.getD 0 unk)], r70.2.2) else some (AEx.exit i, [(r70.2.1.getD 0 unk)], r70.2.2)
| .ret => some (AEx.ret, [(r70.2.1.getD 0 unk)], r70.2.2)).bind fun r71 =>
match r71.1 with
| .normal => j6 C L n0 ((r71.2.1.getD 0 unk)) r71.2.2
| .exit i => none
| .ret => fin PP false n0 [unk] r71.2.2
def T : Tab := ⟨fun i => if i = 3 then some [0, 1, 5, 9, 10, 11] else none, fun i => if i = 3 then some [5] else none, false, fun i => if i = 6 then some [0, 1, 5, 6, 7, 9, 10, 11] else if i = 11 then some [0, 1, 5, 8, 9, 10, 11] else if i = 12 then some [0, 1, 5, 9, 10, 11] else if i = 13 then some [5] else none, fun _ => false, false⟩
end twainref36_Ops
namespace twainref01_Ints
noncomputable def loop4 (C : Am.Callee) (L : Loops) (n0 : Nat) (t0 t1 t12 t13 : Value) (s : AS) : Option ((List Value × AS) ⊕ (AEx × List Value × AS)) :=
(aBin PP .lss t_int (.tmp 13) (.tmp 12) t13 t12).bind fun x5 =>
bcase x5 (
(aIndexAddr PP t_L_int t0 t13).bind fun x6 =>
(aLoad false 1 s x6).bind fun x7 =>
(aIndexAddr PP t_L_int t1 t13).bind fun x8 =>
(aLoad false 1 s x8).bind fun x9 =>
(aBin PP .neq t_int (.tmp 19) (.tmp 23) x7 x9).bind fun x10 =>
bcase x10 (
some (.inr (.ret, [.bool false], s))) (
(aBin PP .add t_int (.tmp 13) (.const (.int .i64 1)) t13 (.int .i64 1)).bind fun x11 =>
some (.inl ([t0, t1, t12, x11], s)))) (
some (.inr (.exit 0, [unk], s)))
noncomputable def loop4s (C : Am.Callee) (L : Loops) (n0 : Nat) : List Value × AS → Option ((List Value × AS) ⊕ (AEx × List Value × AS)) := fun s => loop4 C L n0 (s.1.getD 0 unk) (s.1.getD 1 unk) (s.1.getD 2 unk) (s.1.getD 3 unk) s.2
noncomputable def j2 (C : Am.Callee) (L : Loops) (n0 : Nat) (s : AS) : Option (Value × List Blk × Option Nat) :=
fin PP false n0 [.bool true] s
noncomputable def sh (C : Am.Callee) (L : Loops) (n0 : Nat) (t0 t1 : Value) (s : AS) : Option (Value × List Blk × Option Nat) :=
(aLen PP t_L_int t0 s).bind fun x1 =>
(aLen PP t_L_int t1 s).bind fun x2 =>
(aBin PP .neq t_int (.tmp 7) (.tmp 9) x1 x2).bind fun x3 =>
bcase x3 (
fin PP false n0 [.bool false] s) (
((aLen PP t_L_int t0 s).bind fun x4 =>
(L n0 (loop4s C L n0) ([t0, t1, x4, .int .i64 0], s)).bind fun r12 =>
match r12.1 with
| .normal => some (AEx.normal, [(r12.2.1.getD 0 unk)], r12.2.2)
| .exit i => if i = 0 then some (AEx.normal, [(r12.2.1.getD 0 unk)], r12.2.2) else some (AEx.exit i, [(r12.2.1.getD 0 unk)], r12.2.2)
| .ret => some (AEx.ret, [(r12.2.1.getD 0 unk)], r12.2.2)).bind fun r13 =>
match r13.1 with
| .normal => j2 C L n0  r13.2.2
| .exit i => none
| .ret => fin PP false n0 [(r13.2.1.getD 0 unk)] r13.2.2)
def T : Tab := ⟨fun i => if i = 4 then some [0, 1, 12, 13] else none, fun i => if i = 4 then some [4] else none, false, fun i => if i = 9 then some [4] else none, fun _ => false, false⟩
end twainref01_Ints
namespace history_Open
noncomputable def j1 (C : Am.Callee) (L : Loops) (n0 : Nat) (t3 t4 t5 t9 t10 t11 t24 : Value) (s : AS) : Option (AEx × List Value × AS) :=
bcase t24 (
(bsl PP t_L_int 1 [0] [t5] s).bind fun r17 =>
eBuiltin PP .append #[t_L_int, t_L_int] [t3, r17.1] r17.2 fun x18 s19 =>
some (AEx.normal, [x18, t4, t9, t10, t11], s19)) (
some (AEx.normal, [t3, t4, t9, t10, t11], s))
noncomputable def j2 (C : Am.Callee) (L : Loops) (n0 : Nat) (t3 t4 t9 t10 t11 : Value) (s : AS) : Option ((List Value × AS) ⊕ (AEx × List Value × AS)) :=
(aBin PP .add t_int (.tmp 11) (.const (.int .i64 1)) t11 (.int .i64 1)).bind fun x21 =>
some (.inl ([t3, t4, t9, t10, x21], s))
noncomputable def loop4 (C : Am.Callee) (L : Loops) (n0 : Nat) (t3 t4 t9 t10 t11 : Value) (s : AS) : Option ((List Value × AS) ⊕ (AEx × List Value × AS)) :=
(aBin PP .lss t_int (.tmp 11) (.tmp 10) t11 t10).bind fun x5 =>
bcase x5 (
((aIndexAddr PP t_L_world_Event t9 t11).bind fun x6 =>
(aLoad true 8 s x6).bind fun x7 =>
(aBox t_world_Event ((zeroP PP t_world_Event).getD unk) s).bind fun r8 =>
(aStore 8 r8.2 r8.1 x7).bind fun s9 =>
((aFieldAddr PP t_world_Event r8.1 0).bind fun x10 =>
(aLoad false 1 s9 x10).bind fun x11 =>
(aBin PP .eql t_int (.tmp 17) (.const (.int .i64 0)) x11 (.int .i64 0)).bind fun x12 =>
bcase x12 (
(aLoad true 3 s9 t4).bind fun x13 =>
(C n_history_pairs_to [x13, t11] s9.H).bind fun r14 =>
(aBin PP .eql t_int (.tmp 22) (.const (.int .i64 (-1))) r14.1 (.int .i64 (-1))).bind fun x15 =>
some (AEx.normal, [t3, t4, t11, t9, t10, t11, x15], AS.mk r14.2.1 (joinEsc s9.esc r14.2.2))) (
some (AEx.normal, [t3, t4, t11, t9, t10, t11, .bool false], s9))).bind fun r16 =>
match r16.1 with
| .normal => j1 C L n0 ((r16.2.1.getD 0 unk)) ((r16.2.1.getD 1 unk)) ((r16.2.1.getD 2 unk)) ((r16.2.1.getD 3 unk)) ((r16.2.1.getD 4 unk)) ((r16.2.1.getD 5 unk)) ((r16.2.1.getD 6 unk)) r16.2.2
| .exit i => if i = 1 then some (AEx.normal, [(r16.2.1.getD 0 unk), (r16.2.1.getD 1 unk), (r16.2.1.getD 3 unk), (r16.2.1.getD 4 unk), (r16.2.1.getD 5 unk)], r16.2.2) else some (AEx.exit i, [(r16.2.1.getD 0 unk), (r16.2.1.getD 1 unk), (r16.2.1.getD 3 unk), (r16.2.1.getD 4 unk), (r16.2.1.getD 5 unk)], r16.2.2)
| .ret => some (AEx.ret, [(r16.2.1.getD 0 unk), (r16.2.1.getD 1 unk), (r16.2.1.getD 3 unk), (r16.2.1.getD 4 unk), (r16.2.1.getD 5 unk)], r16.2.2)).bind fun r20 =>
match r20.1 with
| .normal => j2 C L n0 ((r20.2.1.getD 0 unk)) ((r20.2.1.getD 1 unk)) ((r20.2.1.getD 2 unk)) ((r20.2.1.getD 3 unk)) ((r20.2.1.getD 4 unk)) r20.2.2
| .exit i => some (.inr (.exit i, [(r20.2.1.getD 0 unk)], r20.2.2))
| .ret => some (.inr (.ret, [(r20.2.1.getD 0 unk)], r20.2.2))) (
some (.inr (.exit 0, [t3], s)))
noncomputable def loop4s (C : Am.Callee) (L : Loops) (n0 : Nat) : List Value × AS → Option ((List Value × AS) ⊕ (AEx × List Value × AS)) := fun s => loop4 C L n0 (s.1.getD 0 unk) (s.1.getD 1 unk) (s.1.getD 2 unk) (s.1.getD 3 unk) (s.1.getD 4 unk) s.2
noncomputable def j4 (C : Am.Callee) (L : Loops) (n0 : Nat) (t3 : Value) (s : AS) : Option (Value × List Blk × Option Nat) :=
fin PP false n0 [t3] s
noncomputable def sh (C : Am.Callee) (L : Loops) (n0 : Nat) (t0 : Value) (s : AS) : Option (Value × List Blk × Option Nat) :=
(C n_history_paired [t0] s.H).bind fun r1 =>
(aBox t_history_pairs ((zeroP PP t_history_pairs).getD unk) (AS.mk r1.2.1 (joinEsc s.esc r1.2.2))).bind fun r2 =>
(aStore 3 r2.2 r2.1 r1.1).bind fun s3 =>
((aLen PP t_L_world_Event t0 s3).bind fun x4 =>
(L n0 (loop4s C L n0) ([.slice none 0 0, r2.1, t0, x4, .int .i64 0], s3)).bind fun r22 =>
match r22.1 with
| .normal => some (AEx.normal, [(r22.2.1.getD 0 unk)], r22.2.2)
| .exit i => if i = 0 then some (AEx.normal, [(r22.2.1.getD 0 unk)], r22.2.2) else some (AEx.exit i, [(r22.2.1.getD 0 unk)], r22.2.2)
| .ret => some (AEx.ret, [(r22.2.1.getD 0 unk)], r22.2.2)).bind fun r23 =>
match r23.1 with
| .normal => j4 C L n0 ((r23.2.1.getD 0 unk)) r23.2.2
| .exit i => none
| .ret => fin PP false n0 [unk] r23.2.2
def T : Tab := ⟨fun i => if i = 4 then some [3, 4, 9, 10, 11] else none, fun i => if i = 4 then some [3] else none, false, fun i => if i = 7 then some [3, 4, 5, 9, 10, 11, 24] else if i = 8 then some [3, 4, 9, 10, 11] else if i = 9 then some [3] else none, fun _ => false, false⟩
end history_Open
namespace twainref36_Open
noncomputable def j1 (C : Am.Callee) (L : Loops) (n0 : Nat) (t0 t3 t4 t6 t7 t8 t21 : Value) (s : AS) : Option (AEx × List Value × AS) :=
bcase t21 (
(bsl PP t_L_int 1 [0] [t4] s).bind fun r13 =>
eBuiltin PP .append #[t_L_int, t_L_int] [t3, r13.1] r13.2 fun x14 s15 =>
some (AEx.normal, [t0, x14, t6, t7, t8], s15)) (
some (AEx.normal, [t0, t3, t6, t7, t8], s))
noncomputable def j2 (C : Am.Callee) (L : Loops) (n0 : Nat) (t0 t3 t6 t7 t8 : Value) (s : AS) : Option ((List Value × AS) ⊕ (AEx × List Value × AS)) :=
(aBin PP .add t_int (.tmp 8) (.const (.int .i64 1)) t8 (.int .i64 1)).bind fun x17 =>
some (.inl ([t0, t3, t6, t7, x17], s))
noncomputable def loop3 (C : Am.Callee) (L : Loops) (n0 : Nat) (t0 t3 t6 t7 t8 : Value) (s : AS) : Option ((List Value × AS) ⊕ (AEx × List Value × AS)) :=
(aBin PP .lss t_int (.tmp 8) (.tmp 7) t8 t7).bind fun x2 =>
bcase x2 (
((aIndexAddr PP t_L_twainref34_Event t6 t8).bind fun x3 =>
(aLoad true 8 s x3).bind fun x4 =>
(aBox t_twainref34_Event ((zeroP PP t_twainref34_Event).getD unk) s).bind fun r5 =>
(aStore 8 r5.2 r5.1 x4).bind fun s6 =>
((aFieldAddr PP t_twainref34_Event r5.1 0).bind fun x7 =>
(aLoad false 1 s6 x7).bind fun x8 =>
(aBin PP .eql t_int (.tmp 14) (.const (.int .i64 0)) x8 (.int .i64 0)).bind fun x9 =>
bcase x9 (
(C n_twainref36_ended [t0, t8] s6.H).bind fun r10 =>
(aBin PP .lss t_int (.tmp 19) (.const (.int .i64 0)) r10.1 (.int .i64 0)).bind fun x11 =>
some (AEx.normal, [t0, t3, t8, t6, t7, t8, x11], AS.mk r10.2.1 (joinEsc s6.esc r10.2.2))) (
some (AEx.normal, [t0, t3, t8, t6, t7, t8, .bool false], s6))).bind fun r12 =>
match r12.1 with
| .normal => j1 C L n0 ((r12.2.1.getD 0 unk)) ((r12.2.1.getD 1 unk)) ((r12.2.1.getD 2 unk)) ((r12.2.1.getD 3 unk)) ((r12.2.1.getD 4 unk)) ((r12.2.1.getD 5 unk)) ((r12.2.1.getD 6 unk)) r12.2.2
| .exit i => if i = 1 then some (AEx.normal, [(r12.2.1.getD 0 unk), (r12.2.1.getD 1 unk), (r12.2.1.getD 3 unk), (r12.2.1.getD 4 unk), (r12.2.1.getD 5 unk)], r12.2.2) else some (AEx.exit i, [(r12.2.1.getD 0 unk), (r12.2.1.getD 1 unk), (r12.2.1.getD 3 unk), (r12.2.1.getD 4 unk), (r12.2.1.getD 5 unk)], r12.2.2)
| .ret => some (AEx.ret, [(r12.2.1.getD 0 unk), (r12.2.1.getD 1 unk), (r12.2.1.getD 3 unk), (r12.2.1.getD 4 unk), (r12.2.1.getD 5 unk)], r12.2.2)).bind fun r16 =>
match r16.1 with
| .normal => j2 C L n0 ((r16.2.1.getD 0 unk)) ((r16.2.1.getD 1 unk)) ((r16.2.1.getD 2 unk)) ((r16.2.1.getD 3 unk)) ((r16.2.1.getD 4 unk)) r16.2.2
| .exit i => some (.inr (.exit i, [(r16.2.1.getD 1 unk)], r16.2.2))
| .ret => some (.inr (.ret, [(r16.2.1.getD 1 unk)], r16.2.2))) (
some (.inr (.exit 0, [t3], s)))
noncomputable def loop3s (C : Am.Callee) (L : Loops) (n0 : Nat) : List Value × AS → Option ((List Value × AS) ⊕ (AEx × List Value × AS)) := fun s => loop3 C L n0 (s.1.getD 0 unk) (s.1.getD 1 unk) (s.1.getD 2 unk) (s.1.getD 3 unk) (s.1.getD 4 unk) s.2
noncomputable def j4 (C : Am.Callee) (L : Loops) (n0 : Nat) (t3 : Value) (s : AS) : Option (Value × List Blk × Option Nat) :=
fin PP false n0 [t3] s
noncomputable def sh (C : Am.Callee) (L : Loops) (n0 : Nat) (t0 : Value) (s : AS) : Option (Value × List Blk × Option Nat) :=
((aLen PP t_L_twainref34_Event t0 s).bind fun x1 =>
(L n0 (loop3s C L n0) ([t0, .slice none 0 0, t0, x1, .int .i64 0], s)).bind fun r18 =>
match r18.1 with
| .normal => some (AEx.normal, [(r18.2.1.getD 0 unk)], r18.2.2)
| .exit i => if i = 0 then some (AEx.normal, [(r18.2.1.getD 0 unk)], r18.2.2) else some (AEx.exit i, [(r18.2.1.getD 0 unk)], r18.2.2)
| .ret => some (AEx.ret, [(r18.2.1.getD 0 unk)], r18.2.2)).bind fun r19 =>
match r19.1 with
| .normal => j4 C L n0 ((r19.2.1.getD 0 unk)) r19.2.2
| .exit i => none
| .ret => fin PP false n0 [unk] r19.2.2
def T : Tab := ⟨fun i => if i = 3 then some [0, 3, 6, 7, 8] else none, fun i => if i = 3 then some [3] else none, false, fun i => if i = 6 then some [0, 3, 4, 6, 7, 8, 21] else if i = 7 then some [0, 3, 6, 7, 8] else if i = 8 then some [3] else none, fun _ => false, false⟩
end twainref36_Open
namespace history_Odd
noncomputable def sh (C : Am.Callee) (L : Loops) (n0 : Nat) (t0 : Value) (s : AS) : Option (Value × List Blk × Option Nat) :=
(C n_history_paired [t0] s.H).bind fun r1 =>
(pureRun PP (Instr.field t_history_pairs r1.1 2)).bind fun x2 =>
fin PP false n0 [x2] (AS.mk r1.2.1 (joinEsc s.esc r1.2.2))
def T : Tab := ⟨fun i => none, fun i => none, false, fun i => none, fun _ => false, false⟩
end history_Odd
namespace twainref36_Odd
noncomputable def j3 (C : Am.Callee) (L : Loops) (n0 : Nat) (t0 t6 t7 t8 t36 : Value) (s : AS) : Option (AEx × List Value × AS) :=
bcase t36 (
some (AEx.ret, [t0, .bool true, t6, t7, t8], s)) (
some (AEx.normal, [t0, unk, t6, t7, t8], s))
noncomputable def j2 (C : Am.Callee) (L : Loops) (n0 : Nat) (t0 t3 t4 t6 t7 t8 : Value) (s : AS) : Option (AEx × List Value × AS) :=
(aFieldAddr PP t_twainref34_Event t4 0).bind fun x13 =>
(aLoad false 1 s x13).bind fun x14 =>
(aBin PP .neq t_int (.tmp 23) (.const (.int .i64 1)) x14 (.int .i64 1)).bind fun x15 =>
bcase x15 (
some (AEx.normal, [t0, unk, t6, t7, t8], s)) (
(C n_twainref36_asked [t0, t3] s.H).bind fun r16 =>
((aBin PP .lss t_int (.tmp 28) (.const (.int .i64 0)) r16.1 (.int .i64 0)).bind fun x17 =>
bcase x17 (
some (AEx.normal, [t0, t6, t7, t8, .bool true], AS.mk r16.2.1 (joinEsc s.esc r16.2.2))) (
(C n_twainref36_ended [t0, r16.1] (AS.mk r16.2.1 (joinEsc s.esc r16.2.2)).H).bind fun r18 =>
(aBin PP .neq t_int (.tmp 33) (.tmp 34) r18.1 t3).bind fun x19 =>
some (AEx.normal, [t0, t6, t7, t8, x19], AS.mk r18.2.1 (joinEsc (AS.mk r16.2.1 (joinEsc s.esc r16.2.2)).esc r18.2.2)))).bind fun r20 =>
match r20.1 with
| .normal => j3 C L n0 ((r20.2.1.getD 0 unk)) ((r20.2.1.getD 1 unk)) ((r20.2.1.getD 2 unk)) ((r20.2.1.getD 3 unk)) ((r20.2.1.getD 4 unk)) r20.2.2
| .exit i => if i = 1 then some (AEx.normal, [(r20.2.1.getD 0 unk), unk, (r20.2.1.getD 1 unk), (r20.2.1.getD 2 unk), (r20.2.1.getD 3 unk)], r20.2.2) else some (AEx.exit i, [(r20.2.1.getD 0 unk), unk, (r20.2.1.getD 1 unk), (r20.2.1.getD 2 unk), (r20.2.1.getD 3 unk)], r20.2.2)
| .ret => some (AEx.ret, [(r20.2.1.getD 0 unk), unk, (r20.2.1.getD 1 unk), (r20.2.1.getD 2 unk), (r20.2.1.getD 3 unk)], r20.2.2))
noncomputable def j1 (C : Am.Callee) (L : Loops) (n0 : Nat) (t0 t3 t4 t6 t7 t8 t21 : Value) (s : AS) : Option (AEx × List Value × AS) :=
bcase t21 (
some (AEx.ret, [t0, .bool true, t6, t7, t8], s)) (
j2 C L n0 t0 t3 t4 t6 t7 t8 s)
noncomputable def j4 (C : Am.Callee) (L : Loops) (n0 : Nat) (t0 t6 t7 t8 : Value) (s : AS) : Option ((List Value × AS) ⊕ (AEx × List Value × AS)) :=
(aBin PP .add t_int (.tmp 8) (.const (.int .i64 1)) t8 (.int .i64 1)).bind fun x22 =>
some (.inl ([t0, t6, t7, x22], s))
noncomputable def loop2 (C : Am.Callee) (L : Loops) (n0 : Nat) (t0 t6 t7 t8 : Value) (s : AS) : Option ((List Value × AS) ⊕ (AEx × List Value × AS)) :=
(aBin PP .lss t_int (.tmp 8) (.tmp 7) t8 t7).bind fun x2 =>
bcase x2 (
((aIndexAddr PP t_L_twainref34_Event t6 t8).bind fun x3 =>
(aLoad true 8 s x3).bind fun x4 =>
(aBox t_twainref34_Event ((zeroP PP t_twainref34_Event).getD unk) s).bind fun r5 =>
(aStore 8 r5.2 r5.1 x4).bind fun s6 =>
((aFieldAddr PP t_twainref34_Event r5.1 0).bind fun x7 =>
(aLoad false 1 s6 x7).bind fun x8 =>
(aBin PP .eql t_int (.tmp 14) (.const (.int .i64 0)) x8 (.int .i64 0)).bind fun x9 =>
bcase x9 (
(C n_twainref36_asked [t0, t8] s6.H).bind fun r10 =>
(aBin PP .geq t_int (.tmp 19) (.const (.int .i64 0)) r10.1 (.int .i64 0)).bind fun x11 =>
some (AEx.normal, [t0, t8, r5.1, t6, t7, t8, x11], AS.mk r10.2.1 (joinEsc s6.esc r10.2.2))) (
some (AEx.normal, [t0, t8, r5.1, t6, t7, t8, .bool false], s6))).bind fun r12 =>
match r12.1 with
| .normal => j1 C L n0 ((r12.2.1.getD 0 unk)) ((r12.2.1.getD 1 unk)) ((r12.2.1.getD 2 unk)) ((r12.2.1.getD 3 unk)) ((r12.2.1.getD 4 unk)) ((r12.2.1.getD 5 unk)) ((r12.2.1.getD 6 unk)) r12.2.2
| .exit i => if i = 1 then some (AEx.normal, [(r12.2.1.getD 0 unk), unk, (r12.2.1.getD 3 unk), (r12.2.1.getD 4 unk), (r12.2.1.getD 5 unk)], r12.2.2) else some (AEx.exit i, [(r12.2.1.getD 0 unk), unk, (r12.2.1.getD 3 unk), (r12.2.1.getD 4 unk), (r12.2.1.getD 5 unk)], r12.2.2)
| .ret => some (AEx.ret, [(r12.2.1.getD 0 unk), unk, (r12.2.1.getD 3 unk), (r12.2.1.getD 4 unk), (r12.2.1.getD 5 unk)], r12.2.2)).bind fun r21 =>
match r21.1 with
| .normal => j4 C L n0 ((r21.2.1.getD 0 unk)) ((r21.2.1.getD 2 unk)) ((r21.2.1.getD 3 unk)) ((r21.2.1.getD 4 unk)) r21.2.2
| .exit i => some (.inr (.exit i, [(r21.2.1.getD 1 unk)], r21.2.2))
| .ret => some (.inr (.ret, [(r21.2.1.getD 1 unk)], r21.2.2))) (
some (.inr (.exit 0, [unk], s)))
noncomputable def loop2s (C : Am.Callee) (L : Loops) (n0 : Nat) : List Value × AS → Option ((List Value × AS) ⊕ (AEx × List Value × AS)) := fun s => loop2 C L n0 (s.1.getD 0 unk) (s.1.getD 1 unk) (s.1.getD 2 unk) (s.1.getD 3 unk) s.2
noncomputable def j6 (C : Am.Callee) (L : Loops) (n0 : Nat) (s : AS) : Option (Value × List Blk × Option Nat) :=
fin PP false n0 [.bool false] s
noncomputable def sh (C : Am.Callee) (L : Loops) (n0 : Nat) (t0 : Value) (s : AS) : Option (Value × List Blk × Option Nat) :=
((aLen PP t_L_twainref34_Event t0 s).bind fun x1 =>
(L n0 (loop2s C L n0) ([t0, t0, x1, .int .i64 0], s)).bind fun r23 =>
match r23.1 with
| .normal => some (AEx.normal, [(r23.2.1.getD 0 unk)], r23.2.2)
| .exit i => if i = 0 then some (AEx.normal, [(r23.2.1.getD 0 unk)], r23.2.2) else some (AEx.exit i, [(r23.2.1.getD 0 unk)], r23.2.2)
| .ret => some (AEx.ret, [(r23.2.1.getD 0 unk)], r23.2.2)).bind fun r24 =>
match r24.1 with
| .normal => j6 C L n0  r24.2.2
| .exit i => none
| .ret => fin PP false n0 [(r24.2.1.getD 0 unk)] r24.2.2
def T : Tab := ⟨fun i => if i = 2 then some [0, 6, 7, 8] else none, fun i => if i = 2 then some [2] else none, false, fun i => if i = 5 then some [0, 3, 4, 6, 7, 8, 21] else if i = 9 then some [0, 6, 7, 8, 36] else if i = 10 then some [0, 2, 6, 7, 8] else if i = 11 then some [2] else none, fun _ => false, false⟩
end twainref36_Odd
namespace history_paired
noncomputable def j1 (C : Am.Callee) (L : Loops) (n0 : Nat) (t2 t3 t4 t5 t7 t13 t14 t15 : Value) (s : AS) : Option (AEx × List Value × AS) :=
(aUn PP .not t7).bind fun x28 =>
bcase x28 (
(aFieldAddr PP t_history_pairs t3 0).bind fun x29 =>
(aLoad false 1 s x29).bind fun x30 =>
(aLoad true 8 s t5).bind fun x31 =>
(C n_history_of [x31] s.H).bind fun r32 =>
if ((((aLoad false 1 (AS.mk r32.2.1 (joinEsc s.esc r32.2.2)) x29).bind fun x34 =>
some (veq x34 x30)) == some true) && true) = true then
(aMapUpdate PP t_M_history_key_int x30 r32.1 t4 (AS.mk r32.2.1 (joinEsc s.esc r32.2.2))).bind fun s33 =>
some (AEx.normal, [t2, t3, t13, t14, t15], s33)
else none) (
some (AEx.normal, [t2, t3, t13, t14, t15], s))
noncomputable def j3 (C : Am.Callee) (L : Loops) (n0 : Nat) (t2 t3 t4 t6 t13 t14 t15 t68 : Value) (s : AS) : Option (AEx × List Value × AS) :=
bcase t68 (
(aFieldAddr PP t_history_pairs t3 1).bind fun x53 =>
(aLoad false 1 s x53).bind fun x54 =>
(aMapUpdate PP t_M_int_int x54 t6 t4 s).bind fun s55 =>
some (AEx.normal, [t2, t3, t13, t14, t15], s55)) (
some (AEx.normal, [t2, t3, t13, t14, t15], s))
noncomputable def j2 (C : Am.Callee) (L : Loops) (n0 : Nat) (t2 t3 t4 t6 t7 t9 t13 t14 t15 : Value) (s : AS) : Option (AEx × List Value × AS) :=
(bcase t7 (
(aUn PP .not t9).bind fun x51 =>
some (AEx.normal, [t2, t3, t4, t6, t13, t14, t15, x51], s)) (
some (AEx.normal, [t2, t3, t4, t6, t13, t14, t15, .bool false], s))).bind fun r52 =>
match r52.1 with
| .normal => j3 C L n0 ((r52.2.1.getD 0 unk)) ((r52.2.1.getD 1 unk)) ((r52.2.1.getD 2 unk)) ((r52.2.1.getD 3 unk)) ((r52.2.1.getD 4 unk)) ((r52.2.1.getD 5 unk)) ((r52.2.1.getD 6 unk)) ((r52.2.1.getD 7 unk)) r52.2.2
| .exit i => if i = 2 then some (AEx.normal, [(r52.2.1.getD 0 unk), (r52.2.1.getD 1 unk), (r52.2.1.getD 4 unk), (r52.2.1.getD 5 unk), (r52.2.1.getD 6 unk)], r52.2.2) else if i = 1 then some (AEx.normal, [(r52.2.1.getD 0 unk), (r52.2.1.getD 1 unk), (r52.2.1.getD 4 unk), (r52.2.1.getD 5 unk), (r52.2.1.getD 6 unk)], r52.2.2) else some (AEx.exit i, [(r52.2.1.getD 0 unk), (r52.2.1.getD 1 unk), (r52.2.1.getD 4 unk), (r52.2.1.getD 5 unk), (r52.2.1.getD 6 unk)], r52.2.2)
| .ret => some (AEx.ret, [(r52.2.1.getD 0 unk), (r52.2.1.getD 1 unk), (r52.2.1.getD 4 unk), (r52.2.1.getD 5 unk), (r52.2.1.getD 6 unk)], r52.2.2)
noncomputable def j4 (C : Am.Callee) (L : Loops) (n0 : Nat) (t2 t3 t13 t14 t15 : Value) (s : AS) : Option ((List Value × AS) ⊕ (AEx × List Value × AS)) :=
(aBin PP .add t_int (.tmp 15) (.const (.int .i64 1)) t15 (.int .i64 1)).bind fun x58 =>
some (.inl ([t2, t3, t13, t14, x58], s))
noncomputable def loop3 (C : Am.Callee) (L : Loops) (n0 : Nat) (t2 t3 t13 t14 t15 : Value) (s : AS) : Option ((List Value × AS) ⊕ (AEx × List Value × AS)) :=
(aBin PP .lss t_int (.tmp 15) (.tmp 14) t15 t14).bind fun x6 =>
bcase x6 (
((aIndexAddr PP t_L_world_Event t13 t15).bind fun x7 =>
(aLoad true 8 s x7).bind fun x8 =>
(aBox t_world_Event ((zeroP PP t_world_Event).getD unk) s).bind fun r9 =>
(aStore 8 r9.2 r9.1 x8).bind fun s10 =>
(aFieldAddr PP t_history_pairs t3 0).bind fun x11 =>
(aLoad false 1 s10 x11).bind fun x12 =>
(aLoad true 8 s10 r9.1).bind fun x13 =>
(C n_history_of [x13] s10.H).bind fun r14 =>
if ((((aLoad false 1 (AS.mk r14.2.1 (joinEsc s10.esc r14.2.2)) x11).bind fun x56 =>
some (veq x56 x12)) == some true) && true) = true then
(aLookup PP t_M_history_key_int x12 r14.1 true (AS.mk r14.2.1 (joinEsc s10.esc r14.2.2))).bind fun x15 =>
(pureRun PP (Instr.extract x15 0)).bind fun x16 =>
(pureRun PP (Instr.extract x15 1)).bind fun x17 =>
(aFieldAddr PP t_world_Event r9.1 0).bind fun x18 =>
(aLoad false 1 (AS.mk r14.2.1 (joinEsc s10.esc r14.2.2)) x18).bind fun x19 =>
(aBin PP .eql t_int (.tmp 29) (.const (.int .i64 0)) x19 (.int .i64 0)).bind fun x20 =>
bcase x20 (
((aFieldAddr PP t_history_pairs t3 2).bind fun x21 =>
(aLoad false 1 (AS.mk r14.2.1 (joinEsc s10.esc r14.2.2)) x21).bind fun x22 =>
bcase x22 (
(aFieldAddr PP t_history_pairs t3 2).bind fun x23 =>
(aStore 1 (AS.mk r14.2.1 (joinEsc s10.esc r14.2.2)) x23 (.bool true)).bind fun s24 =>
some (AEx.normal, [t2, t3, t15, r9.1, x17, t13, t14, t15], s24)) (
(aFieldAddr PP t_history_pairs t3 2).bind fun x25 =>
(aStore 1 (AS.mk r14.2.1 (joinEsc s10.esc r14.2.2)) x25 x17).bind fun s26 =>
some (AEx.normal, [t2, t3, t15, r9.1, x17, t13, t14, t15], s26))).bind fun r27 =>
match r27.1 with
| .normal => j1 C L n0 ((r27.2.1.getD 0 unk)) ((r27.2.1.getD 1 unk)) ((r27.2.1.getD 2 unk)) ((r27.2.1.getD 3 unk)) ((r27.2.1.getD 4 unk)) ((r27.2.1.getD 5 unk)) ((r27.2.1.getD 6 unk)) ((r27.2.1.getD 7 unk)) r27.2.2
| .exit i => if i = 2 then some (AEx.normal, [(r27.2.1.getD 0 unk), (r27.2.1.getD 1 unk), (r27.2.1.getD 5 unk), (r27.2.1.getD 6 unk), (r27.2.1.getD 7 unk)], r27.2.2) else if i = 1 then some (AEx.normal, [(r27.2.1.getD 0 unk), (r27.2.1.getD 1 unk), (r27.2.1.getD 5 unk), (r27.2.1.getD 6 unk), (r27.2.1.getD 7 unk)], r27.2.2) else some (AEx.exit i, [(r27.2.1.getD 0 unk), (r27.2.1.getD 1 unk), (r27.2.1.getD 5 unk), (r27.2.1.getD 6 unk), (r27.2.1.getD 7 unk)], r27.2.2)
| .ret => some (AEx.ret, [(r27.2.1.getD 0 unk), (r27.2.1.getD 1 unk), (r27.2.1.getD 5 unk), (r27.2.1.getD 6 unk), (r27.2.1.getD 7 unk)], r27.2.2)) (
(aBin PP .eql t_int (.tmp 29) (.const (.int .i64 1)) x19 (.int .i64 1)).bind fun x35 =>
bcase x35 (
(aFieldAddr PP t_history_pairs t3 1).bind fun x36 =>
(aLoad false 1 (AS.mk r14.2.1 (joinEsc s10.esc r14.2.2)) x36).bind fun x37 =>
(aLookup PP t_M_int_int x37 x16 true (AS.mk r14.2.1 (joinEsc s10.esc r14.2.2))).bind fun x38 =>
(pureRun PP (Instr.extract x38 0)).bind fun x39 =>
(pureRun PP (Instr.extract x38 1)).bind fun x40 =>
((aFieldAddr PP t_history_pairs t3 2).bind fun x41 =>
(aLoad false 1 (AS.mk r14.2.1 (joinEsc s10.esc r14.2.2)) x41).bind fun x42 =>
bcase x42 (
(aFieldAddr PP t_history_pairs t3 2).bind fun x43 =>
(aStore 1 (AS.mk r14.2.1 (joinEsc s10.esc r14.2.2)) x43 (.bool true)).bind fun s44 =>
some (AEx.normal, [t2, t3, t15, x16, x17, x40, t13, t14, t15], s44)) (
(aUn PP .not x17).bind fun x45 =>
bcase x45 (
(aFieldAddr PP t_history_pairs t3 2).bind fun x46 =>
(aStore 1 (AS.mk r14.2.1 (joinEsc s10.esc r14.2.2)) x46 (.bool true)).bind fun s47 =>
some (AEx.normal, [t2, t3, t15, x16, x17, x40, t13, t14, t15], s47)) (
(aFieldAddr PP t_history_pairs t3 2).bind fun x48 =>
(aStore 1 (AS.mk r14.2.1 (joinEsc s10.esc r14.2.2)) x48 x40).bind fun s49 =>
some (AEx.normal, [t2, t3, t15, x16, x17, x40, t13, t14, t15], s49)))).bind fun r50 =>
match r50.1 with
| .normal => j2 C L n0 ((r50.2.1.getD 0 unk)) ((r50.2.1.getD 1 unk)) ((r50.2.1.getD 2 unk)) ((r50.2.1.getD 3 unk)) ((r50.2.1.getD 4 unk)) ((r50.2.1.getD 5 unk)) ((r50.2.1.getD 6 unk)) ((r50.2.1.getD 7 unk)) ((r50.2.1.getD 8 unk)) r50.2.2
| .exit i => if i = 2 then some (AEx.normal, [(r50.2.1.getD 0 unk), (r50.2.1.getD 1 unk), (r50.2.1.getD 6 unk), (r50.2.1.getD 7 unk), (r50.2.1.getD 8 unk)], r50.2.2) else if i = 1 then some (AEx.normal, [(r50.2.1.getD 0 unk), (r50.2.1.getD 1 unk), (r50.2.1.getD 6 unk), (r50.2.1.getD 7 unk), (r50.2.1.getD 8 unk)], r50.2.2) else some (AEx.exit i, [(r50.2.1.getD 0 unk), (r50.2.1.getD 1 unk), (r50.2.1.getD 6 unk), (r50.2.1.getD 7 unk), (r50.2.1.getD 8 unk)], r50.2.2)
| .ret => some (AEx.ret, [(r50.2.1.getD 0 unk), (r50.2.1.getD 1 unk), (r50.2.1.getD 6 unk), (r50.2.1.getD 7 unk), (r50.2.1.getD 8 unk)], r50.2.2)) (
some (AEx.normal, [t2, t3, t13, t14, t15], AS.mk r14.2.1 (joinEsc s10.esc r14.2.2))))
else none).bind fun r57 =>
match r57.1 with
| .normal => j4 C L n0 ((r57.2.1.getD 0 unk)) ((r57.2.1.getD 1 unk)) ((r57.2.1.getD 2 unk)) ((r57.2.1.getD 3 unk)) ((r57.2.1.getD 4 unk)) r57.2.2
| .exit i => some (.inr (.exit i, [(r57.2.1.getD 0 unk), (r57.2.1.getD 1 unk)], r57.2.2))
| .ret => some (.inr (.ret, [(r57.2.1.getD 0 unk), (r57.2.1.getD 1 unk)], r57.2.2))) (
some (.inr (.exit 0, [t2, t3], s)))
noncomputable def loop3s (C : Am.Callee) (L : Loops) (n0 : Nat) : List Value × AS → Option ((List Value × AS) ⊕ (AEx × List Value × AS)) := fun s => loop3 C L n0 (s.1.getD 0 unk) (s.1.getD 1 unk) (s.1.getD 2 unk) (s.1.getD 3 unk) (s.1.getD 4 unk) s.2
noncomputable def j6 (C : Am.Callee) (L : Loops) (n0 : Nat) (t2 t3 : Value) (s : AS) : Option (Value × List Blk × Option Nat) :=
(aLoad true 3 s t3).bind fun x61 =>
(aStore 3 s t2 x61).bind fun s62 =>
((aLoad true 3 s62 t2).bind fun x64 => (some []).bind fun y65 => some (x64 :: y65)).bind fun z63 => fin PP false n0 z63 s62
noncomputable def sh (C : Am.Callee) (L : Loops) (n0 : Nat) (t0 : Value) (s : AS) : Option (Value × List Blk × Option Nat) :=
(aBox t_history_pairs ((zeroP PP t_history_pairs).getD unk) s).bind fun r1 =>
(aBuild PP t_history_pairs [(0, .map (some r1.2.H.length)), (1, .map (some (newBlk r1.2 (.map [] 0)).H.length))]).bind fun x2 =>
(aBox t_history_pairs ((zeroP PP t_history_pairs).getD unk) (newBlk (newBlk r1.2 (.map [] 0)) (.map [] 0))).bind fun r3 =>
(aStore 3 r3.2 r3.1 x2).bind fun s4 =>
((aLen PP t_L_world_Event t0 s4).bind fun x5 =>
(L n0 (loop3s C L n0) ([r1.1, r3.1, t0, x5, .int .i64 0], s4)).bind fun r59 =>
match r59.1 with
| .normal => some (AEx.normal, [(r59.2.1.getD 0 unk), (r59.2.1.getD 1 unk)], r59.2.2)
| .exit i => if i = 0 then some (AEx.normal, [(r59.2.1.getD 0 unk), (r59.2.1.getD 1 unk)], r59.2.2) else some (AEx.exit i, [(r59.2.1.getD 0 unk), (r59.2.1.getD 1 unk)], r59.2.2)
| .ret => some (AEx.ret, [(r59.2.1.getD 0 unk), (r59.2.1.getD 1 unk)], r59.2.2)).bind fun r60 =>
match r60.1 with
| .normal => j6 C L n0 ((r60.2.1.getD 0 unk)) ((r60.2.1.getD 1 unk)) r60.2.2
| .exit i => none
| .ret => ((aLoad true 3 r60.2.2 ((r60.2.1.getD 0 unk))).bind fun x67 => (some []).bind fun y68 => some (x67 :: y68)).bind fun z66 => fin PP false n0 z66 r60.2.2
def T : Tab := ⟨fun i => if i = 3 then some [2, 3, 13, 14, 15] else none, fun i => if i = 3 then some [2, 3] else none, false, fun i => if i = 9 then some [2, 3, 4, 5, 7, 13, 14, 15] else if i = 14 then some [2, 3, 4, 6, 7, 9, 13, 14, 15] else if i = 15 then some [2, 3, 4, 6, 13, 14, 15, 68] else if i = 16 then some [2, 3, 13, 14, 15] else if i = 17 then some [2, 3] else none, fun _ => false, false⟩
end history_paired
namespace span_Overlap
noncomputable def sh (C : Am.Callee) (L : Loops) (n0 : Nat) (t0 t1 : Value) (s : AS) : Option (Value × List Blk × Option Nat) :=
(aBox t_api_Span t0 s).bind fun r1 =>
(aBox t_api_Span t1 r1.2).bind fun r2 =>
(aLoad true 2 r2.2 r1.1).bind fun x3 =>
(aLoad true 2 r2.2 r2.1).bind fun x4 =>
(C n_span_Meet [x3, x4] r2.2.H).bind fun r5 =>
(pureRun PP (Instr.extract r5.1 0)).bind fun x6 =>
(pureRun PP (Instr.extract r5.1 1)).bind fun x7 =>
(aBox t_api_Span ((zeroP PP t_api_Span).getD unk) (AS.mk r5.2.1 (joinEsc r2.2.esc r5.2.2))).bind fun r8 =>
(aStore 2 r8.2 r8.1 x6).bind fun s9 =>
fin PP false n0 [x7] s9
def T : Tab := ⟨fun i => none, fun i => none, false, fun i => none, fun _ => false, false⟩
end span_Overlap
namespace history_pairs_to
noncomputable def sh (C : Am.Callee) (L : Loops) (n0 : Nat) (t0 t1 : Value) (s : AS) : Option (Value × List Blk × Option Nat) :=
(aBox t_history_pairs t0 s).bind fun r1 =>
(aFieldAddr PP t_history_pairs r1.1 1).bind fun x2 =>
(aLoad false 1 r1.2 x2).bind fun x3 =>
(aLookup PP t_M_int_int x3 t1 true r1.2).bind fun x4 =>
(pureRun PP (Instr.extract x4 0)).bind fun x5 =>
(pureRun PP (Instr.extract x4 1)).bind fun x6 =>
bcase x6 (
fin PP false n0 [x5] r1.2) (
fin PP false n0 [.int .i64 (-1)] r1.2)
def T : Tab := ⟨fun i => none, fun i => none, false, fun i => none, fun _ => false, false⟩
end history_pairs_to
namespace history_cut
noncomputable def j0 (C : Am.Callee) (L : Loops) (n0 : Nat) (t0 t4 t5 t6 t17 : Value) (s : AS) : Option (AEx × List Value × AS) :=
bcase t17 (
(aSlice PP t_api_Sector t5 none none none s).bind fun x9 =>
(aSlice PP t_L_uint8 t0 (some t6) none none s).bind fun x10 =>
eBuiltin PP .copy #[t_L_uint8, t_L_uint8] [x9, x10] s fun x11 s12 =>
some (AEx.normal, [t4, t5], s12)) (
some (AEx.normal, [t4, t5], s))
noncomputable def j1 (C : Am.Callee) (L : Loops) (n0 : Nat) (t4 t5 : Value) (s : AS) : Option (Value × List Blk × Option Nat) :=
(aLoad true 16 s t5).bind fun x14 =>
(aStore 16 s t4 x14).bind fun s15 =>
((aLoad true 16 s15 t4).bind fun x17 => (some []).bind fun y18 => some (x17 :: y18)).bind fun z16 => fin PP false n0 z16 s15
noncomputable def sh (C : Am.Callee) (L : Loops) (n0 : Nat) (t0 t1 : Value) (s : AS) : Option (Value × List Blk × Option Nat) :=
(aBox t_api_Sector ((zeroP PP t_api_Sector).getD unk) s).bind fun r1 =>
(aBox t_api_Sector ((zeroP PP t_api_Sector).getD unk) r1.2).bind fun r2 =>
((aBin PP .mul t_int (.tmp 7) (.const (.int .i64 16)) t1 (.int .i64 16)).bind fun x3 =>
((aBin PP .geq t_int (.tmp 9) (.const (.int .i64 0)) x3 (.int .i64 0)).bind fun x4 =>
bcase x4 (
(aBin PP .add t_int (.tmp 12) (.const (.int .i64 16)) x3 (.int .i64 16)).bind fun x5 =>
(aLen PP t_L_uint8 t0 r2.2).bind fun x6 =>
(aBin PP .leq t_int (.tmp 13) (.tmp 15) x5 x6).bind fun x7 =>
some (AEx.normal, [t0, r1.1, r2.1, x3, x7], r2.2)) (
some (AEx.normal, [t0, r1.1, r2.1, x3, .bool false], r2.2))).bind fun r8 =>
match r8.1 with
| .normal => j0 C L n0 ((r8.2.1.getD 0 unk)) ((r8.2.1.getD 1 unk)) ((r8.2.1.getD 2 unk)) ((r8.2.1.getD 3 unk)) ((r8.2.1.getD 4 unk)) r8.2.2
| .exit i => some (AEx.exit i, [(r8.2.1.getD 1 unk), (r8.2.1.getD 2 unk)], r8.2.2)
| .ret => some (AEx.ret, [(r8.2.1.getD 1 unk), (r8.2.1.getD 2 unk)], r8.2.2)).bind fun r13 =>
match r13.1 with
| .normal => j1 C L n0 ((r13.2.1.getD 0 unk)) ((r13.2.1.getD 1 unk)) r13.2.2
| .exit i => none
| .ret => ((aLoad true 16 r13.2.2 ((r13.2.1.getD 0 unk))).bind fun x20 => (some []).bind fun y21 => some (x20 :: y21)).bind fun z19 => fin PP false n0 z19 r13.2.2
def T : Tab := ⟨fun i => none, fun i => none, false, fun i => if i = 4 then some [0, 4, 5, 6, 17] else if i = 5 then some [4, 5] else none, fun _ => false, false⟩
end history_cut
namespace twainref04_Overlap
noncomputable def sh (C : Am.Callee) (L : Loops) (n0 : Nat) (t0 t1 : Value) (s : AS) : Option (Value × List Blk × Option Nat) :=
(aBox t_api_Span t0 s).bind fun r1 =>
(aBox t_api_Span t1 r1.2).bind fun r2 =>
(aLoad true 2 r2.2 r1.1).bind fun x3 =>
(aLoad true 2 r2.2 r2.1).bind fun x4 =>
(C n_twainref04_Meet [x3, x4] r2.2.H).bind fun r5 =>
(pureRun PP (Instr.extract r5.1 0)).bind fun x6 =>
(pureRun PP (Instr.extract r5.1 1)).bind fun x7 =>
(aBox t_api_Span ((zeroP PP t_api_Span).getD unk) (AS.mk r5.2.1 (joinEsc r2.2.esc r5.2.2))).bind fun r8 =>
(aStore 2 r8.2 r8.1 x6).bind fun s9 =>
fin PP false n0 [x7] s9
def T : Tab := ⟨fun i => none, fun i => none, false, fun i => none, fun _ => false, false⟩
end twainref04_Overlap
namespace twainref36_ended
noncomputable def j1 (C : Am.Callee) (L : Loops) (n0 : Nat) (t0 t1 t5 t26 : Value) (s : AS) : Option (AEx × List Value × AS) :=
bcase t26 (
some (AEx.ret, [t0, t1, t5, t5], s)) (
some (AEx.normal, [t0, t1, unk, t5], s))
noncomputable def j2 (C : Am.Callee) (L : Loops) (n0 : Nat) (t0 t1 t5 : Value) (s : AS) : Option ((List Value × AS) ⊕ (AEx × List Value × AS)) :=
(aBin PP .add t_int (.tmp 12) (.const (.int .i64 1)) t5 (.int .i64 1)).bind fun x12 =>
some (.inl ([t0, t1, x12], s))
noncomputable def loop2 (C : Am.Callee) (L : Loops) (n0 : Nat) (t0 t1 t5 : Value) (s : AS) : Option ((List Value × AS) ⊕ (AEx × List Value × AS)) :=
(aLen PP t_L_twainref34_Event t0 s).bind fun x2 =>
(aBin PP .lss t_int (.tmp 8) (.tmp 10) t5 x2).bind fun x3 =>
bcase x3 (
(((aIndexAddr PP t_L_twainref34_Event t0 t5).bind fun x4 =>
(aFieldAddr PP t_twainref34_Event x4 0).bind fun x5 =>
(aLoad false 1 s x5).bind fun x6 =>
(aBin PP .eql t_int (.tmp 18) (.const (.int .i64 1)) x6 (.int .i64 1)).bind fun x7 =>
bcase x7 (
(C n_twainref36_asked [t0, t5] s.H).bind fun r8 =>
(aBin PP .eql t_int (.tmp 23) (.tmp 24) r8.1 t1).bind fun x9 =>
some (AEx.normal, [t0, t1, t5, x9], AS.mk r8.2.1 (joinEsc s.esc r8.2.2))) (
some (AEx.normal, [t0, t1, t5, .bool false], s))).bind fun r10 =>
match r10.1 with
| .normal => j1 C L n0 ((r10.2.1.getD 0 unk)) ((r10.2.1.getD 1 unk)) ((r10.2.1.getD 2 unk)) ((r10.2.1.getD 3 unk)) r10.2.2
| .exit i => if i = 1 then some (AEx.normal, [(r10.2.1.getD 0 unk), (r10.2.1.getD 1 unk), unk, (r10.2.1.getD 2 unk)], r10.2.2) else some (AEx.exit i, [(r10.2.1.getD 0 unk), (r10.2.1.getD 1 unk), unk, (r10.2.1.getD 2 unk)], r10.2.2)
| .ret => some (AEx.ret, [(r10.2.1.getD 0 unk), (r10.2.1.getD 1 unk), unk, (r10.2.1.getD 2 unk)], r10.2.2)).bind fun r11 =>
match r11.1 with
| .normal => j2 C L n0 ((r11.2.1.getD 0 unk)) ((r11.2.1.getD 1 unk)) ((r11.2.1.getD 3 unk)) r11.2.2
| .exit i => some (.inr (.exit i, [(r11.2.1.getD 2 unk)], r11.2.2))
| .ret => some (.inr (.ret, [(r11.2.1.getD 2 unk)], r11.2.2))) (
some (.inr (.exit 0, [unk], s)))
noncomputable def loop2s (C : Am.Callee) (L : Loops) (n0 : Nat) : List Value × AS → Option ((List Value × AS) ⊕ (AEx × List Value × AS)) := fun s => loop2 C L n0 (s.1.getD 0 unk) (s.1.getD 1 unk) (s.1.getD 2 unk) s.2
noncomputable def j4 (C : Am.Callee) (L : Loops) (n0 : Nat) (s : AS) : Option (Value × List Blk × Option Nat) :=
fin PP false n0 [.int .i64 (-1)] s
noncomputable def sh (C : Am.Callee) (L : Loops) (n0 : Nat) (t0 t1 : Value) (s : AS) : Option (Value × List Blk × Option Nat) :=
((aBin PP .add t_int (.tmp 6) (.const (.int .i64 1)) t1 (.int .i64 1)).bind fun x1 =>
(L n0 (loop2s C L n0) ([t0, t1, x1], s)).bind fun r13 =>
match r13.1 with
| .normal => some (AEx.normal, [(r13.2.1.getD 0 unk)], r13.2.2)
| .exit i => if i = 0 then some (AEx.normal, [(r13.2.1.getD 0 unk)], r13.2.2) else some (AEx.exit i, [(r13.2.1.getD 0 unk)], r13.2.2)
| .ret => some (AEx.ret, [(r13.2.1.getD 0 unk)], r13.2.2)).bind fun r14 =>
match r14.1 with
| .normal => j4 C L n0  r14.2.2
| .exit i => none
| .ret => fin PP false n0 [(r14.2.1.getD 0 unk)] r14.2.2
def T : Tab := ⟨fun i => if i = 2 then some [0, 1, 5] else none, fun i => if i = 2 then some [4] else none, false, fun i => if i = 3 then some [0, 1, 4, 5] else if i = 5 then some [0, 1, 5, 26] else if i = 6 then some [4] else none, fun _ => false, false⟩
end twainref36_ended
namespace twainref36_sector
noncomputable def j0 (C : Am.Callee) (L : Loops) (n0 : Nat) (t0 t1 t4 t5 t16 : Value) (s : AS) : Option (AEx × List Value × AS) :=
bcase t16 (
(aLoad true 16 s t5).bind fun x9 =>
(aStore 16 s t4 x9).bind fun s10 =>
some (AEx.ret, [t0, t1, t4, t5], s10)) (
some (AEx.normal, [t0, t1, t4, t5], s))
noncomputable def loop5 (C : Am.Callee) (L : Loops) (n0 : Nat) (t0 t1 t4 t5 t18 : Value) (s : AS) : Option ((List Value × AS) ⊕ (AEx × List Value × AS)) :=
(aBin PP .lss t_int (.tmp 18) (.const (.int .i64 16)) t18 (.int .i64 16)).bind fun x12 =>
bcase x12 (
(aBin PP .mul t_int (.const (.int .i64 16)) (.tmp 23) (.int .i64 16) t1).bind fun x13 =>
(aBin PP .add t_int (.tmp 24) (.tmp 25) x13 t18).bind fun x14 =>
(aIndexAddr PP t_L_uint8 t0 x14).bind fun x15 =>
(aLoad false 1 s x15).bind fun x16 =>
(aIndexAddr PP t_api_Sector t5 t18).bind fun x17 =>
(aStore 1 s x17 x16).bind fun s18 =>
(aBin PP .add t_int (.tmp 18) (.const (.int .i64 1)) t18 (.int .i64 1)).bind fun x19 =>
some (.inl ([t0, t1, t4, t5, x19], s18))) (
some (.inr (.exit 0, [t4, t5], s)))
noncomputable def loop5s (C : Am.Callee) (L : Loops) (n0 : Nat) : List Value × AS → Option ((List Value × AS) ⊕ (AEx × List Value × AS)) := fun s => loop5 C L n0 (s.1.getD 0 unk) (s.1.getD 1 unk) (s.1.getD 2 unk) (s.1.getD 3 unk) (s.1.getD 4 unk) s.2
noncomputable def j4 (C : Am.Callee) (L : Loops) (n0 : Nat) (t4 t5 : Value) (s : AS) : Option (Value × List Blk × Option Nat) :=
(aLoad true 16 s t5).bind fun x22 =>
(aStore 16 s t4 x22).bind fun s23 =>
((aLoad true 16 s23 t4).bind fun x25 => (some []).bind fun y26 => some (x25 :: y26)).bind fun z24 => fin PP false n0 z24 s23
noncomputable def j1 (C : Am.Callee) (L : Loops) (n0 : Nat) (t0 t1 t4 t5 : Value) (s : AS) : Option (Value × List Blk × Option Nat) :=
((L n0 (loop5s C L n0) ([t0, t1, t4, t5, .int .i64 0], s)).bind fun r20 =>
match r20.1 with
| .normal => some (AEx.normal, [(r20.2.1.getD 0 unk), (r20.2.1.getD 1 unk)], r20.2.2)
| .exit i => if i = 0 then some (AEx.normal, [(r20.2.1.getD 0 unk), (r20.2.1.getD 1 unk)], r20.2.2) else some (AEx.exit i, [(r20.2.1.getD 0 unk), (r20.2.1.getD 1 unk)], r20.2.2)
| .ret => some (AEx.ret, [(r20.2.1.getD 0 unk), (r20.2.1.getD 1 unk)], r20.2.2)).bind fun r21 =>
match r21.1 with
| .normal => j4 C L n0 ((r21.2.1.getD 0 unk)) ((r21.2.1.getD 1 unk)) r21.2.2
| .exit i => none
| .ret => ((aLoad true 16 r21.2.2 ((r21.2.1.getD 0 unk))).bind fun x28 => (some []).bind fun y29 => some (x28 :: y29)).bind fun z27 => fin PP false n0 z27 r21.2.2
noncomputable def sh (C : Am.Callee) (L : Loops) (n0 : Nat) (t0 t1 : Value) (s : AS) : Option (Value × List Blk × Option Nat) :=
(aBox t_api_Sector ((zeroP PP t_api_Sector).getD unk) s).bind fun r1 =>
(aBox t_api_Sector ((zeroP PP t_api_Sector).getD unk) r1.2).bind fun r2 =>
(((aBin PP .lss t_int (.tmp 7) (.const (.int .i64 0)) t1 (.int .i64 0)).bind fun x3 =>
bcase x3 (
some (AEx.normal, [t0, t1, r1.1, r2.1, .bool true], r2.2)) (
(aLen PP t_L_uint8 t0 r2.2).bind fun x4 =>
(aBin PP .add t_int (.tmp 12) (.const (.int .i64 1)) t1 (.int .i64 1)).bind fun x5 =>
(aBin PP .mul t_int (.const (.int .i64 16)) (.tmp 13) (.int .i64 16) x5).bind fun x6 =>
(aBin PP .lss t_int (.tmp 11) (.tmp 14) x4 x6).bind fun x7 =>
some (AEx.normal, [t0, t1, r1.1, r2.1, x7], r2.2))).bind fun r8 =>
match r8.1 with
| .normal => j0 C L n0 ((r8.2.1.getD 0 unk)) ((r8.2.1.getD 1 unk)) ((r8.2.1.getD 2 unk)) ((r8.2.1.getD 3 unk)) ((r8.2.1.getD 4 unk)) r8.2.2
| .exit i => some (AEx.exit i, [(r8.2.1.getD 0 unk), (r8.2.1.getD 1 unk), (r8.2.1.getD 2 unk), (r8.2.1.getD 3 unk)], r8.2.2)
| .ret => some (AEx.ret, [(r8.2.1.getD 0 unk), (r8.2.1.getD 1 unk), (r8.2.1.getD 2 unk), (r8.2.1.getD 3 unk)], r8.2.2)).bind fun r11 =>
match r11.1 with
| .normal => j1 C L n0 ((r11.2.1.getD 0 unk)) ((r11.2.1.getD 1 unk)) ((r11.2.1.getD 2 unk)) ((r11.2.1.getD 3 unk)) r11.2.2
| .exit i => none
| .ret => ((aLoad true 16 r11.2.2 ((r11.2.1.getD 2 unk))).bind fun x31 => (some []).bind fun y32 => some (x31 :: y32)).bind fun z30 => fin PP false n0 z30 r11.2.2
def T : Tab := ⟨fun i => if i = 5 then some [0, 1, 4, 5, 18] else none, fun i => if i = 5 then some [4, 5] else none, false, fun i => if i = 3 then some [0, 1, 4, 5, 16] else if i = 4 then some [0, 1, 4, 5] else if i = 9 then some [4, 5] else none, fun _ => false, false⟩
end twainref36_sector
namespace twainref36_asked
noncomputable def j1 (C : Am.Callee) (L : Loops) (n0 : Nat) (t0 t1 t5 t42 : Value) (s : AS) : Option (AEx × List Value × AS) :=
bcase t42 (
some (AEx.ret, [t0, t1, t5, t5], s)) (
some (AEx.normal, [t0, t1, unk, t5], s))
noncomputable def j2 (C : Am.Callee) (L : Loops) (n0 : Nat) (t0 t1 t5 : Value) (s : AS) : Option ((List Value × AS) ⊕ (AEx × List Value × AS)) :=
(aBin PP .add t_int (.tmp 9) (.const (.int .i64 1)) t5 (.int .i64 1)).bind fun x22 =>
some (.inl ([t0, t1, x22], s))
noncomputable def loop2 (C : Am.Callee) (L : Loops) (n0 : Nat) (t0 t1 t5 : Value) (s : AS) : Option ((List Value × AS) ⊕ (AEx × List Value × AS)) :=
(aBin PP .lss t_int (.tmp 6) (.tmp 7) t5 t1).bind fun x1 =>
bcase x1 (
(((aIndexAddr PP t_L_twainref34_Event t0 t5).bind fun x2 =>
(aFieldAddr PP t_twainref34_Event x2 0).bind fun x3 =>
(aLoad false 1 s x3).bind fun x4 =>
(aBin PP .eql t_int (.tmp 15) (.const (.int .i64 0)) x4 (.int .i64 0)).bind fun x5 =>
bcase x5 (
(aIndexAddr PP t_L_twainref34_Event t0 t5).bind fun x6 =>
(aFieldAddr PP t_twainref34_Event x6 1).bind fun x7 =>
(aLoad false 1 s x7).bind fun x8 =>
(aIndexAddr PP t_L_twainref34_Event t0 t1).bind fun x9 =>
(aFieldAddr PP t_twainref34_Event x9 1).bind fun x10 =>
(aLoad false 1 s x10).bind fun x11 =>
(aBin PP .eql t_int (.tmp 22) (.tmp 27) x8 x11).bind fun x12 =>
bcase x12 (
(aIndexAddr PP t_L_twainref34_Event t0 t5).bind fun x13 =>
(aFieldAddr PP t_twainref34_Event x13 2).bind fun x14 =>
(aLoad false 1 s x14).bind fun x15 =>
(aIndexAddr PP t_L_twainref34_Event t0 t1).bind fun x16 =>
(aFieldAddr PP t_twainref34_Event x16 2).bind fun x17 =>
(aLoad false 1 s x17).bind fun x18 =>
(aBin PP .eql t_int (.tmp 35) (.tmp 40) x15 x18).bind fun x19 =>
some (AEx.normal, [t0, t1, t5, x19], s)) (
some (AEx.normal, [t0, t1, t5, .bool false], s))) (
some (AEx.normal, [t0, t1, t5, .bool false], s))).bind fun r20 =>
match r20.1 with
| .normal => j1 C L n0 ((r20.2.1.getD 0 unk)) ((r20.2.1.getD 1 unk)) ((r20.2.1.getD 2 unk)) ((r20.2.1.getD 3 unk)) r20.2.2
| .exit i => if i = 1 then some (AEx.normal, [(r20.2.1.getD 0 unk), (r20.2.1.getD 1 unk), unk, (r20.2.1.getD 2 unk)], r20.2.2) else some (AEx.exit i, [(r20.2.1.getD 0 unk), (r20.2.1.getD 1 unk), unk, (r20.2.1.getD 2 unk)], r20.2.2)
| .ret => some (AEx.ret, [(r20.2.1.getD 0 unk), (r20.2.1.getD 1 unk), unk, (r20.2.1.getD 2 unk)], r20.2.2)).bind fun r21 =>
match r21.1 with
| .normal => j2 C L n0 ((r21.2.1.getD 0 unk)) ((r21.2.1.getD 1 unk)) ((r21.2.1.getD 3 unk)) r21.2.2
| .exit i => some (.inr (.exit i, [(r21.2.1.getD 2 unk)], r21.2.2))
| .ret => some (.inr (.ret, [(r21.2.1.getD 2 unk)], r21.2.2))) (
some (.inr (.exit 0, [unk], s)))
noncomputable def loop2s (C : Am.Callee) (L : Loops) (n0 : Nat) : List Value × AS → Option ((List Value × AS) ⊕ (AEx × List Value × AS)) := fun s => loop2 C L n0 (s.1.getD 0 unk) (s.1.getD 1 unk) (s.1.getD 2 unk) s.2
noncomputable def j4 (C : Am.Callee) (L : Loops) (n0 : Nat) (s : AS) : Option (Value × List Blk × Option Nat) :=
fin PP false n0 [.int .i64 (-1)] s
noncomputable def sh (C : Am.Callee) (L : Loops) (n0 : Nat) (t0 t1 : Value) (s : AS) : Option (Value × List Blk × Option Nat) :=
((L n0 (loop2s C L n0) ([t0, t1, .int .i64 0], s)).bind fun r23 =>
match r23.1 with
| .normal => some (AEx.normal, [(r23.2.1.getD 0 unk)], r23.2.2)
| .exit i => if i = 0 then some (AEx.normal, [(r23.2.1.getD 0 unk)], r23.2.2) else some (AEx.exit i, [(r23.2.1.getD 0 unk)], r23.2.2)
| .ret => some (AEx.ret, [(r23.2.1.getD 0 unk)], r23.2.2)).bind fun r24 =>
match r24.1 with
| .normal => j4 C L n0  r24.2.2
| .exit i => none
| .ret => fin PP false n0 [(r24.2.1.getD 0 unk)] r24.2.2
def T : Tab := ⟨fun i => if i = 2 then some [0, 1, 5] else none, fun i => if i = 2 then some [4] else none, false, fun i => if i = 3 then some [0, 1, 4, 5] else if i = 5 then some [0, 1, 5, 42] else if i = 6 then some [4] else none, fun _ => false, false⟩
end twainref36_asked
namespace history_of
noncomputable def sh (C : Am.Callee) (L : Loops) (n0 : Nat) (t0 : Value) (s : AS) : Option (Value × List Blk × Option Nat) :=
(aBox t_world_Event t0 s).bind fun r1 =>
(aBox t_history_key ((zeroP PP t_history_key).getD unk) r1.2).bind fun r2 =>
(aFieldAddr PP t_world_Event r1.1 1).bind fun x3 =>
(aLoad false 1 r2.2 x3).bind fun x4 =>
(aFieldAddr PP t_world_Event r1.1 2).bind fun x5 =>
(aLoad false 1 r2.2 x5).bind fun x6 =>
(aBuild PP t_history_key [(0, x4), (1, x6)]).bind fun x7 =>
(aStore 2 r2.2 r2.1 x7).bind fun s8 =>
((aLoad true 2 s8 r2.1).bind fun x10 => (some []).bind fun y11 => some (x10 :: y11)).bind fun z9 => fin PP false n0 z9 s8
def T : Tab := ⟨fun i => none, fun i => none, false, fun i => none, fun _ => false, false⟩
end history_of
namespace span_Meet
noncomputable def j0 (C : Am.Callee) (L : Loops) (n0 : Nat) (t2 t3 t4 t17 : Value) (s : AS) : Option (AEx × List Value × AS) :=
bcase t17 (
(aBuild PP t_api_Span []).bind fun x11 =>
(aStore 2 s t4 x11).bind fun s12 =>
some (AEx.ret, [t2, t3, t4, .bool false], s12)) (
some (AEx.normal, [t2, t3, t4, unk], s))
noncomputable def j1 (C : Am.Callee) (L : Loops) (n0 : Nat) (t2 t3 t4 : Value) (s : AS) : Option (Value × List Blk × Option Nat) :=
(aLoad true 2 s t2).bind fun x14 =>
(aBuild PP t_span_side [(0, x14)]).bind fun x15 =>
(aLoad true 2 s t2).bind fun x16 =>
(aBuild PP t_span_side [(0, x16)]).bind fun x17 =>
(aFieldAddr PP t_api_Span t3 0).bind fun x18 =>
(aLoad false 1 s x18).bind fun x19 =>
(aLoad true 2 s t3).bind fun x20 =>
(aFn PP (.func (.func n_span_side_from) (#[x15]) (#[])) [x19]).bind fun g22 =>
(C g22.1 g22.2 s.H).bind fun r21 =>
if ((((aLoad true 2 (AS.mk r21.2.1 (joinEsc s.esc r21.2.2)) t3).bind fun x42 =>
some (veq x42 x20)) == some true) && true) = true then
(C n_span_End [x20] (AS.mk r21.2.1 (joinEsc s.esc r21.2.2)).H).bind fun r23 =>
(aFn PP (.func (.func n_span_side_to) (#[x17]) (#[])) [r23.1]).bind fun g25 =>
(C g25.1 g25.2 (AS.mk r23.2.1 (joinEsc (AS.mk r21.2.1 (joinEsc s.esc r21.2.2)).esc r23.2.2)).H).bind fun r24 =>
(aBin PP .geq t_int (.tmp 33) (.tmp 34) r21.1 r24.1).bind fun x26 =>
bcase x26 (
(aBuild PP t_api_Span []).bind fun x27 =>
(aStore 2 (AS.mk r24.2.1 (joinEsc (AS.mk r23.2.1 (joinEsc (AS.mk r21.2.1 (joinEsc s.esc r21.2.2)).esc r23.2.2)).esc r24.2.2)) t4 x27).bind fun s28 =>
((aLoad true 2 s28 t4).bind fun x30 => ((some (.bool false)).bind fun x32 => (some []).bind fun y33 => some (x32 :: y33)).bind fun y31 => some (x30 :: y31)).bind fun z29 => fin PP false n0 z29 s28) (
(aBin PP .sub t_int (.tmp 38) (.tmp 39) r24.1 r21.1).bind fun x34 =>
(aBuild PP t_api_Span [(0, r21.1), (1, x34)]).bind fun x35 =>
(aStore 2 (AS.mk r24.2.1 (joinEsc (AS.mk r23.2.1 (joinEsc (AS.mk r21.2.1 (joinEsc s.esc r21.2.2)).esc r23.2.2)).esc r24.2.2)) t4 x35).bind fun s36 =>
((aLoad true 2 s36 t4).bind fun x38 => ((some (.bool true)).bind fun x40 => (some []).bind fun y41 => some (x40 :: y41)).bind fun y39 => some (x38 :: y39)).bind fun z37 => fin PP false n0 z37 s36)
else none
noncomputable def sh (C : Am.Callee) (L : Loops) (n0 : Nat) (t0 t1 : Value) (s : AS) : Option (Value × List Blk × Option Nat) :=
(aBox t_api_Span t0 s).bind fun r1 =>
(aBox t_api_Span t1 r1.2).bind fun r2 =>
(aBox t_api_Span ((zeroP PP t_api_Span).getD unk) r2.2).bind fun r3 =>
(((aLoad true 2 r3.2 r1.1).bind fun x4 =>
(C n_span_Plain [x4] r3.2.H).bind fun r5 =>
(aUn PP .not r5.1).bind fun x6 =>
bcase x6 (
some (AEx.normal, [r1.1, r2.1, r3.1, .bool true], AS.mk r5.2.1 (joinEsc r3.2.esc r5.2.2))) (
(aLoad true 2 (AS.mk r5.2.1 (joinEsc r3.2.esc r5.2.2)) r2.1).bind fun x7 =>
(C n_span_Plain [x7] (AS.mk r5.2.1 (joinEsc r3.2.esc r5.2.2)).H).bind fun r8 =>
(aUn PP .not r8.1).bind fun x9 =>
some (AEx.normal, [r1.1, r2.1, r3.1, x9], AS.mk r8.2.1 (joinEsc (AS.mk r5.2.1 (joinEsc r3.2.esc r5.2.2)).esc r8.2.2)))).bind fun r10 =>
match r10.1 with
| .normal => j0 C L n0 ((r10.2.1.getD 0 unk)) ((r10.2.1.getD 1 unk)) ((r10.2.1.getD 2 unk)) ((r10.2.1.getD 3 unk)) r10.2.2
| .exit i => some (AEx.exit i, [(r10.2.1.getD 0 unk), (r10.2.1.getD 1 unk), (r10.2.1.getD 2 unk), unk], r10.2.2)
| .ret => some (AEx.ret, [(r10.2.1.getD 0 unk), (r10.2.1.getD 1 unk), (r10.2.1.getD 2 unk), unk], r10.2.2)).bind fun r13 =>
match r13.1 with
| .normal => j1 C L n0 ((r13.2.1.getD 0 unk)) ((r13.2.1.getD 1 unk)) ((r13.2.1.getD 2 unk)) r13.2.2
| .exit i => none
| .ret => ((aLoad true 2 r13.2.2 ((r13.2.1.getD 2 unk))).bind fun x44 => ((some ((r13.2.1.getD 3 unk))).bind fun x46 => (some []).bind fun y47 => some (x46 :: y47)).bind fun y45 => some (x44 :: y45)).bind fun z43 => fin PP false n0 z43 r13.2.2
def T : Tab := ⟨fun i => none, fun i => none, false, fun i => if i = 2 then some [2, 3, 4, 17] else if i = 3 then some [2, 3, 4, 5] else none, fun _ => false, false⟩
end span_Meet
namespace twainref04_Meet
noncomputable def j0 (C : Am.Callee) (L : Loops) (n0 : Nat) (t2 t3 t4 t15 : Value) (s : AS) : Option (AEx × List Value × AS) :=
bcase t15 (
(aBuild PP t_api_Span []).bind fun x11 =>
(aStore 2 s t4 x11).bind fun s12 =>
some (AEx.ret, [t2, t3, t4, .bool false], s12)) (
some (AEx.normal, [t2, t3, t4, unk], s))
noncomputable def j3 (C : Am.Callee) (L : Loops) (n0 : Nat) (t4 t6 t7 : Value) (s : AS) : Option (Value × List Blk × Option Nat) :=
(aBin PP .geq t_int (.tmp 42) (.tmp 43) t6 t7).bind fun x39 =>
bcase x39 (
(aBuild PP t_api_Span []).bind fun x40 =>
(aStore 2 s t4 x40).bind fun s41 =>
((aLoad true 2 s41 t4).bind fun x43 => ((some (.bool false)).bind fun x45 => (some []).bind fun y46 => some (x45 :: y46)).bind fun y44 => some (x43 :: y44)).bind fun z42 => fin PP false n0 z42 s41) (
(aBin PP .sub t_int (.tmp 47) (.tmp 48) t7 t6).bind fun x47 =>
(aBuild PP t_api_Span [(0, t6), (1, x47)]).bind fun x48 =>
(aStore 2 s t4 x48).bind fun s49 =>
((aLoad true 2 s49 t4).bind fun x51 => ((some (.bool true)).bind fun x53 => (some []).bind fun y54 => some (x53 :: y54)).bind fun y52 => some (x51 :: y52)).bind fun z50 => fin PP false n0 z50 s49)
noncomputable def j2 (C : Am.Callee) (L : Loops) (n0 : Nat) (t3 t4 t6 t7 : Value) (s : AS) : Option (Value × List Blk × Option Nat) :=
((aFieldAddr PP t_api_Span t3 0).bind fun x27 =>
(aLoad false 1 s x27).bind fun x28 =>
(aFieldAddr PP t_api_Span t3 1).bind fun x29 =>
(aLoad false 1 s x29).bind fun x30 =>
(aBin PP .add t_int (.tmp 31) (.tmp 33) x28 x30).bind fun x31 =>
(aBin PP .lss t_int (.tmp 34) (.tmp 35) x31 t7).bind fun x32 =>
bcase x32 (
(aFieldAddr PP t_api_Span t3 0).bind fun x33 =>
(aLoad false 1 s x33).bind fun x34 =>
(aFieldAddr PP t_api_Span t3 1).bind fun x35 =>
(aLoad false 1 s x35).bind fun x36 =>
(aBin PP .add t_int (.tmp 38) (.tmp 40) x34 x36).bind fun x37 =>
some (AEx.normal, [t4, t6, x37], s)) (
some (AEx.normal, [t4, t6, t7], s))).bind fun r38 =>
match r38.1 with
| .normal => j3 C L n0 ((r38.2.1.getD 0 unk)) ((r38.2.1.getD 1 unk)) ((r38.2.1.getD 2 unk)) r38.2.2
| .exit i => none
| .ret => ((aLoad true 2 r38.2.2 ((r38.2.1.getD 0 unk))).bind fun x56 => ((some unk).bind fun x58 => (some []).bind fun y59 => some (x58 :: y59)).bind fun y57 => some (x56 :: y57)).bind fun z55 => fin PP false n0 z55 r38.2.2
noncomputable def j1 (C : Am.Callee) (L : Loops) (n0 : Nat) (t2 t3 t4 : Value) (s : AS) : Option (Value × List Blk × Option Nat) :=
(aFieldAddr PP t_api_Span t2 0).bind fun x14 =>
(aLoad false 1 s x14).bind fun x15 =>
(aFieldAddr PP t_api_Span t2 0).bind fun x16 =>
(aLoad false 1 s x16).bind fun x17 =>
(aFieldAddr PP t_api_Span t2 1).bind fun x18 =>
(aLoad false 1 s x18).bind fun x19 =>
(aBin PP .add t_int (.tmp 20) (.tmp 22) x17 x19).bind fun x20 =>
((aFieldAddr PP t_api_Span t3 0).bind fun x21 =>
(aLoad false 1 s x21).bind fun x22 =>
(aBin PP .gtr t_int (.tmp 25) (.tmp 26) x22 x15).bind fun x23 =>
bcase x23 (
(aFieldAddr PP t_api_Span t3 0).bind fun x24 =>
(aLoad false 1 s x24).bind fun x25 =>
some (AEx.normal, [t3, t4, x25, x20], s)) (
some (AEx.normal, [t3, t4, x15, x20], s))).bind fun r26 =>
match r26.1 with
| .normal => j2 C L n0 ((r26.2.1.getD 0 unk)) ((r26.2.1.getD 1 unk)) ((r26.2.1.getD 2 unk)) ((r26.2.1.getD 3 unk)) r26.2.2
| .exit i => none
| .ret => ((aLoad true 2 r26.2.2 ((r26.2.1.getD 1 unk))).bind fun x61 => ((some unk).bind fun x63 => (some []).bind fun y64 => some (x63 :: y64)).bind fun y62 => some (x61 :: y62)).bind fun z60 => fin PP false n0 z60 r26.2.2
noncomputable def sh (C : Am.Callee) (L : Loops) (n0 : Nat) (t0 t1 : Value) (s : AS) : Option (Value × List Blk × Option Nat) :=
(aBox t_api_Span t0 s).bind fun r1 =>
(aBox t_api_Span t1 r1.2).bind fun r2 =>
(aBox t_api_Span ((zeroP PP t_api_Span).getD unk) r2.2).bind fun r3 =>
(((aLoad true 2 r3.2 r1.1).bind fun x4 =>
(C n_twainref04_Plain [x4] r3.2.H).bind fun r5 =>
(aUn PP .not r5.1).bind fun x6 =>
bcase x6 (
some (AEx.normal, [r1.1, r2.1, r3.1, .bool true], AS.mk r5.2.1 (joinEsc r3.2.esc r5.2.2))) (
(aLoad true 2 (AS.mk r5.2.1 (joinEsc r3.2.esc r5.2.2)) r2.1).bind fun x7 =>
(C n_twainref04_Plain [x7] (AS.mk r5.2.1 (joinEsc r3.2.esc r5.2.2)).H).bind fun r8 =>
(aUn PP .not r8.1).bind fun x9 =>
some (AEx.normal, [r1.1, r2.1, r3.1, x9], AS.mk r8.2.1 (joinEsc (AS.mk r5.2.1 (joinEsc r3.2.esc r5.2.2)).esc r8.2.2)))).bind fun r10 =>
match r10.1 with
| .normal => j0 C L n0 ((r10.2.1.getD 0 unk)) ((r10.2.1.getD 1 unk)) ((r10.2.1.getD 2 unk)) ((r10.2.1.getD 3 unk)) r10.2.2
| .exit i => some (AEx.exit i, [(r10.2.1.getD 0 unk), (r10.2.1.getD 1 unk), (r10.2.1.getD 2 unk), unk], r10.2.2)
| .ret => some (AEx.ret, [(r10.2.1.getD 0 unk), (r10.2.1.getD 1 unk), (r10.2.1.getD 2 unk), unk], r10.2.2)).bind fun r13 =>
match r13.1 with
| .normal => j1 C L n0 ((r13.2.1.getD 0 unk)) ((r13.2.1.getD 1 unk)) ((r13.2.1.getD 2 unk)) r13.2.2
| .exit i => none
| .ret => ((aLoad true 2 r13.2.2 ((r13.2.1.getD 2 unk))).bind fun x66 => ((some ((r13.2.1.getD 3 unk))).bind fun x68 => (some []).bind fun y69 => some (x68 :: y69)).bind fun y67 => some (x66 :: y67)).bind fun z65 => fin PP false n0 z65 r13.2.2
def T : Tab := ⟨fun i => none, fun i => none, false, fun i => if i = 2 then some [2, 3, 4, 15] else if i = 3 then some [2, 3, 4, 5] else if i = 6 then some [3, 4, 6, 7] else if i = 8 then some [4, 6, 7] else none, fun _ => false, false⟩
end twainref04_Meet
namespace span_Plain
noncomputable def sh (C : Am.Callee) (L : Loops) (n0 : Nat) (t0 : Value) (s : AS) : Option (Value × List Blk × Option Nat) :=
(aBox t_api_Span t0 s).bind fun r1 =>
(aFieldAddr PP t_api_Span r1.1 0).bind fun x2 =>
(aLoad false 1 r1.2 x2).bind fun x3 =>
(C n_span_within [x3] r1.2.H).bind fun r4 =>
bcase r4.1 (
(aFieldAddr PP t_api_Span r1.1 1).bind fun x5 =>
(aLoad false 1 (AS.mk r4.2.1 (joinEsc r1.2.esc r4.2.2)) x5).bind fun x6 =>
(C n_span_within [x6] (AS.mk r4.2.1 (joinEsc r1.2.esc r4.2.2)).H).bind fun r7 =>
fin PP false n0 [r7.1] (AS.mk r7.2.1 (joinEsc (AS.mk r4.2.1 (joinEsc r1.2.esc r4.2.2)).esc r7.2.2))) (
fin PP false n0 [.bool false] (AS.mk r4.2.1 (joinEsc r1.2.esc r4.2.2)))
def T : Tab := ⟨fun i => none, fun i => none, false, fun i => none, fun _ => false, false⟩
end span_Plain
namespace span_side_from
noncomputable def sh (C : Am.Callee) (L : Loops) (n0 : Nat) (t0 t1 : Value) (s : AS) : Option (Value × List Blk × Option Nat) :=
(aBox t_span_side t0 s).bind fun r1 =>
(aFieldAddr PP t_span_side r1.1 0).bind fun x2 =>
(aFieldAddr PP t_api_Span x2 0).bind fun x3 =>
(aLoad false 1 r1.2 x3).bind fun x4 =>
eBuiltin PP .max #[t_int, t_int] [x4, t1] r1.2 fun x5 s6 =>
fin PP false n0 [x5] s6
def T : Tab := ⟨fun i => none, fun i => none, false, fun i => none, fun _ => false, false⟩
end span_side_from
namespace span_side_to
noncomputable def sh (C : Am.Callee) (L : Loops) (n0 : Nat) (t0 t1 : Value) (s : AS) : Option (Value × List Blk × Option Nat) :=
(aBox t_span_side t0 s).bind fun r1 =>
(aFieldAddr PP t_span_side r1.1 0).bind fun x2 =>
(aLoad true 2 r1.2 x2).bind fun x3 =>
(C n_span_End [x3] r1.2.H).bind fun r4 =>
eBuiltin PP .min #[t_int, t_int] [r4.1, t1] (AS.mk r4.2.1 (joinEsc r1.2.esc r4.2.2)) fun x5 s6 =>
fin PP false n0 [x5] s6
def T : Tab := ⟨fun i => none, fun i => none, false, fun i => none, fun _ => false, false⟩
end span_side_to
namespace span_End
noncomputable def sh (C : Am.Callee) (L : Loops) (n0 : Nat) (t0 : Value) (s : AS) : Option (Value × List Blk × Option Nat) :=
(aBox t_api_Span t0 s).bind fun r1 =>
(aLoad true 2 r1.2 r1.1).bind fun x2 =>
(C n_span_Plain [x2] r1.2.H).bind fun r3 =>
(aUn PP .not r3.1).bind fun x4 =>
bcase x4 (
fin PP false n0 [.int .i64 0] (AS.mk r3.2.1 (joinEsc r1.2.esc r3.2.2))) (
(aFieldAddr PP t_api_Span r1.1 0).bind fun x5 =>
(aLoad false 1 (AS.mk r3.2.1 (joinEsc r1.2.esc r3.2.2)) x5).bind fun x6 =>
(aFieldAddr PP t_api_Span r1.1 1).bind fun x7 =>
(aLoad false 1 (AS.mk r3.2.1 (joinEsc r1.2.esc r3.2.2)) x7).bind fun x8 =>
(aBin PP .add t_int (.tmp 7) (.tmp 9) x6 x8).bind fun x9 =>
fin PP false n0 [x9] (AS.mk r3.2.1 (joinEsc r1.2.esc r3.2.2)))
def T : Tab := ⟨fun i => none, fun i => none, false, fun i => none, fun _ => false, false⟩
end span_End
namespace twainref04_Plain
noncomputable def sh (C : Am.Callee) (L : Loops) (n0 : Nat) (t0 : Value) (s : AS) : Option (Value × List Blk × Option Nat) :=
(aBox t_api_Span t0 s).bind fun r1 =>
(aFieldAddr PP t_api_Span r1.1 0).bind fun x2 =>
(aLoad false 1 r1.2 x2).bind fun x3 =>
(aBin PP .geq t_int (.tmp 4) (.const (.int .i64 0)) x3 (.int .i64 0)).bind fun x4 =>
bcase x4 (
(aFieldAddr PP t_api_Span r1.1 0).bind fun x5 =>
(aLoad false 1 r1.2 x5).bind fun x6 =>
(aBin PP .leq t_int (.tmp 8) (.const (.int .i64 1073741824)) x6 (.int .i64 1073741824)).bind fun x7 =>
bcase x7 (
(aFieldAddr PP t_api_Span r1.1 1).bind fun x8 =>
(aLoad false 1 r1.2 x8).bind fun x9 =>
(aBin PP .geq t_int (.tmp 13) (.const (.int .i64 0)) x9 (.int .i64 0)).bind fun x10 =>
bcase x10 (
(aFieldAddr PP t_api_Span r1.1 1).bind fun x11 =>
(aLoad false 1 r1.2 x11).bind fun x12 =>
(aBin PP .leq t_int (.tmp 18) (.const (.int .i64 1073741824)) x12 (.int .i64 1073741824)).bind fun x13 =>
fin PP false n0 [x13] r1.2) (
fin PP false n0 [.bool false] r1.2)) (
fin PP false n0 [.bool false] r1.2)) (
fin PP false n0 [.bool false] r1.2)
def T : Tab := ⟨fun i => none, fun i => none, false, fun i => none, fun _ => false, false⟩
end twainref04_Plain
namespace span_within
noncomputable def sh (C : Am.Callee) (L : Loops) (n0 : Nat) (t0 : Value) (s : AS) : Option (Value × List Blk × Option Nat) :=
(aBin PP .geq t_int (.tmp 3) (.const (.int .i64 0)) t0 (.int .i64 0)).bind fun x1 =>
bcase x1 (
(aBin PP .leq t_int (.tmp 6) (.const (.int .i64 1073741824)) t0 (.int .i64 1073741824)).bind fun x2 =>
fin PP false n0 [x2] s) (
fin PP false n0 [.bool false] s)
def T : Tab := ⟨fun i => none, fun i => none, false, fun i => none, fun _ => false, false⟩
end span_within
def TT : FuncId → Tab := fun f => if f = n_twainlaw36_HistoryTells then twainlaw36_HistoryTells.T else if f = n_twainlaw36_HistoryOrder then twainlaw36_HistoryOrder.T else if f = n_twainlaw36_Few then twainlaw36_Few.T else if f = n_twainlaw36_lives then twainlaw36_lives.T else if f = n_twainlaw36_Raw then twainlaw36_Raw.T else if f = n_twainref36_Same then twainref36_Same.T else if f = n_twainlaw36_Ops then twainlaw36_Ops.T else if f = n_history_Ops then history_Ops.T else if f = n_twainref36_Ops then twainref36_Ops.T else if f = n_twainref01_Ints then twainref01_Ints.T else if f = n_history_Open then history_Open.T else if f = n_twainref36_Open then twainref36_Open.T else if f = n_history_Odd then history_Odd.T else if f = n_twainref36_Odd then twainref36_Odd.T else if f = n_history_paired then history_paired.T else if f = n_span_Overlap then span_Overlap.T else if f = n_history_pairs_to then history_pairs_to.T else if f = n_history_cut then history_cut.T else if f = n_twainref04_Overlap then twainref04_Overlap.T else if f = n_twainref36_ended then twainref36_ended.T else if f = n_twainref36_sector then twainref36_sector.T else if f = n_twainref36_asked then twainref36_asked.T else if f = n_history_of then history_of.T else if f = n_span_Meet then span_Meet.T else if f = n_twainref04_Meet then twainref04_Meet.T else if f = n_span_Plain then span_Plain.T else if f = n_span_side_from then span_side_from.T else if f = n_span_side_to then span_side_to.T else if f = n_span_End then span_End.T else if f = n_twainref04_Plain then twainref04_Plain.T else if f = n_span_within then span_within.T else ⟨fun _ => none, fun _ => none, false, fun _ => none, fun _ => false, false⟩
def TT1 : FuncId → Tab := fun f => { TT f with lives := false }
theorem twainlaw36_HistoryTells.eq (C : Am.Callee) (L : Loops) (t0 t1 : Value) (H : List Blk) : ebody PP TT C L n_twainlaw36_HistoryTells [t0, t1] H = twainlaw36_HistoryTells.sh C L H.length t0 t1 ⟨H, none⟩ := by kernel_rfl
theorem twainlaw36_HistoryOrder.eq (C : Am.Callee) (L : Loops) (t0 t1 : Value) (H : List Blk) : ebody PP TT C L n_twainlaw36_HistoryOrder [t0, t1] H = twainlaw36_HistoryOrder.sh C L H.length t0 t1 ⟨H, none⟩ := by kernel_rfl
theorem twainlaw36_Few.eq (C : Am.Callee) (L : Loops) (t0 : Value) (H : List Blk) : ebody PP TT C L n_twainlaw36_Few [t0] H = twainlaw36_Few.sh C L H.length t0 ⟨H, none⟩ := by kernel_rfl
theorem twainlaw36_lives.eq (H : List Blk) : acall PP TT n_twainlaw36_lives [] H = some (.bool true, H, none) := by rw [acall_eq]; kernel_rfl
theorem twainlaw36_lives.lives : Lives PP n_twainlaw36_lives := lives_of (T := TT1) (fun _ => rfl) (n := 40) (by kernel_rfl)
theorem twainlaw36_Raw.eq (C : Am.Callee) (L : Loops) (t0 : Value) (H : List Blk) : ebody PP TT C L n_twainlaw36_Raw [t0] H = twainlaw36_Raw.sh C L H.length t0 ⟨H, none⟩ := by kernel_rfl
theorem twainref36_Same.eq (C : Am.Callee) (L : Loops) (t0 t1 : Value) (H : List Blk) : ebody PP TT C L n_twainref36_Same [t0, t1] H = twainref36_Same.sh C L H.length t0 t1 ⟨H, none⟩ := by kernel_rfl
theorem twainlaw36_Ops.eq (C : Am.Callee) (L : Loops) (t0 : Value) (H : List Blk) : ebody PP TT C L n_twainlaw36_Ops [t0] H = twainlaw36_Ops.sh C L H.length t0 ⟨H, none⟩ := by kernel_rfl
theorem history_Ops.eq (C : Am.Callee) (L : Loops) (t0 t1 : Value) (H : List Blk) : ebody PP TT C L n_history_Ops [t0, t1] H = history_Ops.sh C L H.length t0 t1 ⟨H, none⟩ := by kernel_rfl
theorem twainref36_Ops.eq (C : Am.Callee) (L : Loops) (t0 t1 : Value) (H : List Blk) : ebody PP TT C L n_twainref36_Ops [t0, t1] H = twainref36_Ops.sh C L H.length t0 t1 ⟨H, none⟩ := by kernel_rfl
theorem twainref01_Ints.eq (C : Am.Callee) (L : Loops) (t0 t1 : Value) (H : List Blk) : ebody PP TT C L n_twainref01_Ints [t0, t1] H = twainref01_Ints.sh C L H.length t0 t1 ⟨H, none⟩ := by kernel_rfl
theorem history_Open.eq (C : Am.Callee) (L : Loops) (t0 : Value) (H : List Blk) : ebody PP TT C L n_history_Open [t0] H = history_Open.sh C L H.length t0 ⟨H, none⟩ := by kernel_rfl
theorem twainref36_Open.eq (C : Am.Callee) (L : Loops) (t0 : Value) (H : List Blk) : ebody PP TT C L n_twainref36_Open [t0] H = twainref36_Open.sh C L H.length t0 ⟨H, none⟩ := by kernel_rfl
theorem history_Odd.eq (C : Am.Callee) (L : Loops) (t0 : Value) (H : List Blk) : ebody PP TT C L n_history_Odd [t0] H = history_Odd.sh C L H.length t0 ⟨H, none⟩ := by kernel_rfl
theorem twainref36_Odd.eq (C : Am.Callee) (L : Loops) (t0 : Value) (H : List Blk) : ebody PP TT C L n_twainref36_Odd [t0] H = twainref36_Odd.sh C L H.length t0 ⟨H, none⟩ := by kernel_rfl
theorem history_paired.eq (C : Am.Callee) (L : Loops) (t0 : Value) (H : List Blk) : ebody PP TT C L n_history_paired [t0] H = history_paired.sh C L H.length t0 ⟨H, none⟩ := by kernel_rfl
theorem span_Overlap.eq (C : Am.Callee) (L : Loops) (t0 t1 : Value) (H : List Blk) : ebody PP TT C L n_span_Overlap [t0, t1] H = span_Overlap.sh C L H.length t0 t1 ⟨H, none⟩ := by kernel_rfl
theorem history_pairs_to.eq (C : Am.Callee) (L : Loops) (t0 t1 : Value) (H : List Blk) : ebody PP TT C L n_history_pairs_to [t0, t1] H = history_pairs_to.sh C L H.length t0 t1 ⟨H, none⟩ := by kernel_rfl
theorem history_cut.eq (C : Am.Callee) (L : Loops) (t0 t1 : Value) (H : List Blk) : ebody PP TT C L n_history_cut [t0, t1] H = history_cut.sh C L H.length t0 t1 ⟨H, none⟩ := by kernel_rfl
theorem twainref04_Overlap.eq (C : Am.Callee) (L : Loops) (t0 t1 : Value) (H : List Blk) : ebody PP TT C L n_twainref04_Overlap [t0, t1] H = twainref04_Overlap.sh C L H.length t0 t1 ⟨H, none⟩ := by kernel_rfl
theorem twainref36_ended.eq (C : Am.Callee) (L : Loops) (t0 t1 : Value) (H : List Blk) : ebody PP TT C L n_twainref36_ended [t0, t1] H = twainref36_ended.sh C L H.length t0 t1 ⟨H, none⟩ := by kernel_rfl
theorem twainref36_sector.eq (C : Am.Callee) (L : Loops) (t0 t1 : Value) (H : List Blk) : ebody PP TT C L n_twainref36_sector [t0, t1] H = twainref36_sector.sh C L H.length t0 t1 ⟨H, none⟩ := by kernel_rfl
theorem twainref36_asked.eq (C : Am.Callee) (L : Loops) (t0 t1 : Value) (H : List Blk) : ebody PP TT C L n_twainref36_asked [t0, t1] H = twainref36_asked.sh C L H.length t0 t1 ⟨H, none⟩ := by kernel_rfl
theorem history_of.eq (C : Am.Callee) (L : Loops) (t0 : Value) (H : List Blk) : ebody PP TT C L n_history_of [t0] H = history_of.sh C L H.length t0 ⟨H, none⟩ := by kernel_rfl
theorem span_Meet.eq (C : Am.Callee) (L : Loops) (t0 t1 : Value) (H : List Blk) : ebody PP TT C L n_span_Meet [t0, t1] H = span_Meet.sh C L H.length t0 t1 ⟨H, none⟩ := by kernel_rfl
theorem twainref04_Meet.eq (C : Am.Callee) (L : Loops) (t0 t1 : Value) (H : List Blk) : ebody PP TT C L n_twainref04_Meet [t0, t1] H = twainref04_Meet.sh C L H.length t0 t1 ⟨H, none⟩ := by kernel_rfl
theorem span_Plain.eq (C : Am.Callee) (L : Loops) (t0 : Value) (H : List Blk) : ebody PP TT C L n_span_Plain [t0] H = span_Plain.sh C L H.length t0 ⟨H, none⟩ := by kernel_rfl
theorem span_side_from.eq (C : Am.Callee) (L : Loops) (t0 t1 : Value) (H : List Blk) : ebody PP TT C L n_span_side_from [t0, t1] H = span_side_from.sh C L H.length t0 t1 ⟨H, none⟩ := by kernel_rfl
theorem span_side_to.eq (C : Am.Callee) (L : Loops) (t0 t1 : Value) (H : List Blk) : ebody PP TT C L n_span_side_to [t0, t1] H = span_side_to.sh C L H.length t0 t1 ⟨H, none⟩ := by kernel_rfl
theorem span_End.eq (C : Am.Callee) (L : Loops) (t0 : Value) (H : List Blk) : ebody PP TT C L n_span_End [t0] H = span_End.sh C L H.length t0 ⟨H, none⟩ := by kernel_rfl
theorem twainref04_Plain.eq (C : Am.Callee) (L : Loops) (t0 : Value) (H : List Blk) : ebody PP TT C L n_twainref04_Plain [t0] H = twainref04_Plain.sh C L H.length t0 ⟨H, none⟩ := by kernel_rfl
theorem span_within.eq (C : Am.Callee) (L : Loops) (t0 : Value) (H : List Blk) : ebody PP TT C L n_span_within [t0] H = span_within.sh C L H.length t0 ⟨H, none⟩ := by kernel_rfl
theorem TT_lives : ∀ f, (TT f).lives = true → Lives PP f := by
  intro f h
  unfold TT at h
  by_cases h3 : f = n_twainlaw36_HistoryTells
  · subst h3; simp [twainlaw36_HistoryTells.T] at h
  simp only [h3, if_false] at h
  by_cases h4 : f = n_twainlaw36_HistoryOrder
  · subst h4; simp [twainlaw36_HistoryOrder.T] at h
  simp only [h4, if_false] at h
  by_cases h9 : f = n_twainlaw36_Few
  · subst h9; simp [twainlaw36_Few.T] at h
  simp only [h9, if_false] at h
  by_cases h10 : f = n_twainlaw36_lives
  · subst h10; exact twainlaw36_lives.lives
  simp only [h10, if_false] at h
  by_cases h11 : f = n_twainlaw36_Raw
  · subst h11; simp [twainlaw36_Raw.T] at h
  simp only [h11, if_false] at h
  by_cases h12 : f = n_twainref36_Same
  · subst h12; simp [twainref36_Same.T] at h
  simp only [h12, if_false] at h
  by_cases h13 : f = n_twainlaw36_Ops
  · subst h13; simp [twainlaw36_Ops.T] at h
  simp only [h13, if_false] at h
  by_cases h14 : f = n_history_Ops
  · subst h14; simp [history_Ops.T] at h
  simp only [h14, if_false] at h
  by_cases h15 : f = n_twainref36_Ops
  · subst h15; simp [twainref36_Ops.T] at h
  simp only [h15, if_false] at h
  by_cases h16 : f = n_twainref01_Ints
  · subst h16; simp [twainref01_Ints.T] at h
  simp only [h16, if_false] at h
  by_cases h17 : f = n_history_Open
  · subst h17; simp [history_Open.T] at h
  simp only [h17, if_false] at h
  by_cases h18 : f = n_twainref36_Open
  · subst h18; simp [twainref36_Open.T] at h
  simp only [h18, if_false] at h
  by_cases h19 : f = n_history_Odd
  · subst h19; simp [history_Odd.T] at h
  simp only [h19, if_false] at h
  by_cases h20 : f = n_twainref36_Odd
  · subst h20; simp [twainref36_Odd.T] at h
  simp only [h20, if_false] at h
  by_cases h37 : f = n_history_paired
  · subst h37; simp [history_paired.T] at h
  simp only [h37, if_false] at h
  by_cases h38 : f = n_span_Overlap
  · subst h38; simp [span_Overlap.T] at h
  simp only [h38, if_false] at h
  by_cases h39 : f = n_history_pairs_to
  · subst h39; simp [history_pairs_to.T] at h
  simp only [h39, if_false] at h
  by_cases h40 : f = n_history_cut
  · subst h40; simp [history_cut.T] at h
  simp only [h40, if_false] at h
  by_cases h41 : f = n_twainref04_Overlap
  · subst h41; simp [twainref04_Overlap.T] at h
  simp only [h41, if_false] at h
  by_cases h42 : f = n_twainref36_ended
  · subst h42; simp [twainref36_ended.T] at h
  simp only [h42, if_false] at h
  by_cases h43 : f = n_twainref36_sector
  · subst h43; simp [twainref36_sector.T] at h
  simp only [h43, if_false] at h
  by_cases h44 : f = n_twainref36_asked
  · subst h44; simp [twainref36_asked.T] at h
  simp only [h44, if_false] at h
  by_cases h53 : f = n_history_of
  · subst h53; simp [history_of.T] at h
  simp only [h53, if_false] at h
  by_cases h54 : f = n_span_Meet
  · subst h54; simp [span_Meet.T] at h
  simp only [h54, if_false] at h
  by_cases h55 : f = n_twainref04_Meet
  · subst h55; simp [twainref04_Meet.T] at h
  simp only [h55, if_false] at h
  by_cases h63 : f = n_span_Plain
  · subst h63; simp [span_Plain.T] at h
  simp only [h63, if_false] at h
  by_cases h64 : f = n_span_side_from
  · subst h64; simp [span_side_from.T] at h
  simp only [h64, if_false] at h
  by_cases h65 : f = n_span_side_to
  · subst h65; simp [span_side_to.T] at h
  simp only [h65, if_false] at h
  by_cases h66 : f = n_span_End
  · subst h66; simp [span_End.T] at h
  simp only [h66, if_false] at h
  by_cases h67 : f = n_twainref04_Plain
  · subst h67; simp [twainref04_Plain.T] at h
  simp only [h67, if_false] at h
  by_cases h68 : f = n_span_within
  · subst h68; simp [span_within.T] at h
  simp only [h68, if_false] at h
  simp at h
end Go.Proofs.Ytfinilnkempofaa
