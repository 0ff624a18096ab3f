/- A part of the proof: RgSh. Its conditions: none. -/
import Derived.Test.YtfinilnkempofaaAm13c
import Derived.Test.YtfinilnkempofaaChecked
set_option linter.all false
set_option linter.unusedVariables false
set_option linter.unusedSimpArgs false
set_option linter.unnecessarySimpa false
namespace Go.Proofs.Ytfinilnkempofaa
open Go Go.Am
set_option linter.unusedVariables false
noncomputable abbrev PP : Program := Try.prog
abbrev n_main_main : FuncId := 0
abbrev n_gosem_cut : FuncId := 1
abbrev n_gosem_cut_init : FuncId := 2
abbrev n_twainlaw36_HistoryTells : FuncId := 3
abbrev n_twainlaw36_HistoryOrder : FuncId := 4
abbrev n_twainlaw37_RegisterFits : FuncId := 5
abbrev n_twainlaw37_RegisterOrders : FuncId := 6
abbrev n_twainlaw49_GhostTells : FuncId := 7
abbrev n_twainlaw49_GhostOrder : FuncId := 8
abbrev n_twainlaw36_Few : FuncId := 9
abbrev n_twainlaw36_lives : FuncId := 10
abbrev n_twainlaw36_Raw : FuncId := 11
abbrev n_twainref36_Same : FuncId := 12
abbrev n_twainlaw36_Ops : FuncId := 13
abbrev n_history_Ops : FuncId := 14
abbrev n_twainref36_Ops : FuncId := 15
abbrev n_twainref01_Ints : FuncId := 16
abbrev n_history_Open : FuncId := 17
abbrev n_twainref36_Open : FuncId := 18
abbrev n_history_Odd : FuncId := 19
abbrev n_twainref36_Odd : FuncId := 20
abbrev n_twainlaw37_lives : FuncId := 21
abbrev n_register_Fits : FuncId := 22
abbrev n_twainlaw37_Raw : FuncId := 23
abbrev n_twainref37_Fits : FuncId := 24
abbrev n_register_Right : FuncId := 25
abbrev n_register_Order : FuncId := 26
abbrev n_twainlaw49_lives : FuncId := 27
abbrev n_ghost_Holds : FuncId := 28
abbrev n_twainref49_Holds : FuncId := 29
abbrev n_ghost_Values : FuncId := 30
abbrev n_twainref49_Values : FuncId := 31
abbrev n_twainlaw49_alike : FuncId := 32
abbrev n_twainref49_Image : FuncId := 33
abbrev n_ghost_Image : FuncId := 34
abbrev n_ghost_Order : FuncId := 35
abbrev n_twainref37_Order : FuncId := 36
abbrev n_history_paired : FuncId := 37
abbrev n_span_Overlap : FuncId := 38
abbrev n_history_pairs_to : FuncId := 39
abbrev n_history_cut : FuncId := 40
abbrev n_twainref04_Overlap : FuncId := 41
abbrev n_twainref36_ended : FuncId := 42
abbrev n_twainref36_sector : FuncId := 43
abbrev n_twainref36_asked : FuncId := 44
abbrev n_twainref37_place : FuncId := 45
abbrev n_twainref37_ahead : FuncId := 46
abbrev n_twainref37_must : FuncId := 47
abbrev n_register_begin : FuncId := 48
abbrev n_P_register_hunt_find : FuncId := 49
abbrev n_ghost_tells : FuncId := 50
abbrev n_twainref49_last : FuncId := 51
abbrev n_twainref37_search : FuncId := 52
abbrev n_history_of : FuncId := 53
abbrev n_span_Meet : FuncId := 54
abbrev n_twainref04_Meet : FuncId := 55
abbrev n_P_register_hunt_find_1 : FuncId := 56
abbrev n_P_register_hunt_find_1_1 : FuncId := 57
abbrev n_P_register_hunt_read : FuncId := 58
abbrev n_P_register_hunt_may : FuncId := 59
abbrev n_ghost_end : FuncId := 60
abbrev n_twainref37_whole : FuncId := 61
abbrev n_twainref37_next : FuncId := 62
abbrev n_span_Plain : FuncId := 63
abbrev n_span_side_from : FuncId := 64
abbrev n_span_side_to : FuncId := 65
abbrev n_span_End : FuncId := 66
abbrev n_twainref04_Plain : FuncId := 67
abbrev n_span_within : FuncId := 68
abbrev n_runtime_boundsError_Error : FuncId := 69
abbrev n_runtime_boundsError_RuntimeError : FuncId := 70
abbrev n_runtime_errorString_Error : FuncId := 71
abbrev n_runtime_errorString_RuntimeError : FuncId := 72
abbrev n_runtime_plainError_Error : FuncId := 73
abbrev n_runtime_plainError_RuntimeError : FuncId := 74
abbrev n_runtime_errorAddressString_Error : FuncId := 75
abbrev n_runtime_errorAddressString_RuntimeError : FuncId := 76
abbrev n_P_runtime_TypeAssertionError_Error : FuncId := 77
abbrev n_P_runtime_TypeAssertionError_RuntimeError : FuncId := 78
abbrev n_P_runtime_PanicNilError_Error : FuncId := 79
abbrev n_P_runtime_PanicNilError_RuntimeError : FuncId := 80
abbrev n_P_internal_abi_Type_Align : FuncId := 81
abbrev n_internal_runtime_maps_unhashableTypeE_d411d0 : FuncId := 82
abbrev n_internal_runtime_maps_unhashableTypeE_88efe4 : FuncId := 83
abbrev n_api_Errno_Error : FuncId := 84
abbrev n_internal_abi_Kind_String : FuncId := 85
abbrev t_unit : TypeId := 0
abbrev t_F023062 : TypeId := 1
abbrev t_int64 : TypeId := 2
abbrev t_int : TypeId := 3
abbrev t_bool : TypeId := 4
abbrev t_uint8 : TypeId := 5
abbrev t_abi_BoundsErrorCode : TypeId := 6
abbrev t_S81e5bf : TypeId := 7
abbrev t_runtime_boundsError : TypeId := 8
abbrev t_string : TypeId := 9
abbrev t_runtime_errorString : TypeId := 10
abbrev t_runtime_plainError : TypeId := 11
abbrev t_uintptr : TypeId := 12
abbrev t_S9bc4a9 : TypeId := 13
abbrev t_runtime_errorAddressString : TypeId := 14
abbrev t_P_runtime_TypeAssertionError : TypeId := 15
abbrev t_P_runtime_PanicNilError : TypeId := 16
abbrev t_P_abi_Type : TypeId := 17
abbrev t_S6875f2 : TypeId := 18
abbrev t_maps_unhashableTypeError : TypeId := 19
abbrev t_interface : TypeId := 20
abbrev t_int32 : TypeId := 21
abbrev t_L_twainref34_Event : TypeId := 22
abbrev t_F6f3dd6 : TypeId := 23
abbrev t_Fa86e39 : TypeId := 24
abbrev t_L_world_Event : TypeId := 25
abbrev t_F8299a7 : TypeId := 26
abbrev t_Fb6cfd4 : TypeId := 27
abbrev t_L_twainref36_Op : TypeId := 28
abbrev t_F021c58 : TypeId := 29
abbrev t_L_history_Op : TypeId := 30
abbrev t_F5b51bf : TypeId := 31
abbrev t_Fc0544d : TypeId := 32
abbrev t_F081862 : TypeId := 33
abbrev t_L_int : TypeId := 34
abbrev t_F09bab6 : TypeId := 35
abbrev t_Fb7e6b8 : TypeId := 36
abbrev t_F545503 : TypeId := 37
abbrev t_F016414 : TypeId := 38
abbrev t_A16_uint8 : TypeId := 39
abbrev t_api_Sector : TypeId := 40
abbrev t_S14c6fa : TypeId := 41
abbrev t_history_Op : TypeId := 42
abbrev t_S6c464c : TypeId := 43
abbrev t_api_Span : TypeId := 44
abbrev t_L_uint8 : TypeId := 45
abbrev t_S21fe5b : TypeId := 46
abbrev t_api_Request : TypeId := 47
abbrev t_S71e5a8 : TypeId := 48
abbrev t_twainref34_Event : TypeId := 49
abbrev t_F333c25 : TypeId := 50
abbrev t_F743d2f : TypeId := 51
abbrev t_F604643 : TypeId := 52
abbrev t_L_api_Sector : TypeId := 53
abbrev t_L_bool : TypeId := 54
abbrev t_twainref36_Op : TypeId := 55
abbrev t_api_Errno : TypeId := 56
abbrev t_bool_api_Errno : TypeId := 57
abbrev t_F4c64e2 : TypeId := 58
abbrev t_L_int_bool : TypeId := 59
abbrev t_F9ec66d : TypeId := 60
abbrev t_Ff9c105 : TypeId := 61
abbrev t_S7ed1c8 : TypeId := 62
abbrev t_twainlaw49_End : TypeId := 63
abbrev t_F1f9e6c : TypeId := 64
abbrev t_bool_int_bool : TypeId := 65
abbrev t_F506c4b : TypeId := 66
abbrev t_F3fd729 : TypeId := 67
abbrev t_L_api_Sector_bool : TypeId := 68
abbrev t_Fa707ec : TypeId := 69
abbrev t_F6f346b : TypeId := 70
abbrev t_bool_bool : TypeId := 71
abbrev t_Ff2cfc4 : TypeId := 72
abbrev t_F4f0245 : TypeId := 73
abbrev t_F55abdf : TypeId := 74
abbrev t_Fe25e8c : TypeId := 75
abbrev t_L_int_bool_bool : TypeId := 76
abbrev t_F9a0fc5 : TypeId := 77
abbrev t_world_Event : TypeId := 78
abbrev t_M_history_key_int : TypeId := 79
abbrev t_M_int_int : TypeId := 80
abbrev t_Sa52f72 : TypeId := 81
abbrev t_history_pairs : TypeId := 82
abbrev t_F2dcf0b : TypeId := 83
abbrev t_Fac7918 : TypeId := 84
abbrev t_F200dff : TypeId := 85
abbrev t_F957d7b : TypeId := 86
abbrev t_F98340e : TypeId := 87
abbrev t_int_bool : TypeId := 88
abbrev t_F7e62a4 : TypeId := 89
abbrev t_Fbe81f1 : TypeId := 90
abbrev t_F7b8c69 : TypeId := 91
abbrev t_P_register_hunt : TypeId := 92
abbrev t_F23a7d2 : TypeId := 93
abbrev t_F09bf95 : TypeId := 94
abbrev t_Ffe08e2 : TypeId := 95
abbrev t_F8a1ef3 : TypeId := 96
abbrev t_M_api_Sector_bool : TypeId := 97
abbrev t_F0b17ba : TypeId := 98
abbrev t_P_int : TypeId := 99
abbrev t_Sf72a03 : TypeId := 100
abbrev t_history_key : TypeId := 101
abbrev t_F64aacc : TypeId := 102
abbrev t_api_Span_bool : TypeId := 103
abbrev t_Fa95473 : TypeId := 104
abbrev t_M_register_state_bool : TypeId := 105
abbrev t_uint64 : TypeId := 106
abbrev t_L_uint64 : TypeId := 107
abbrev t_S01a35e : TypeId := 108
abbrev t_register_hunt : TypeId := 109
abbrev t_Fd15f66 : TypeId := 110
abbrev t_S27ceea : TypeId := 111
abbrev t_register_state : TypeId := 112
abbrev t_Fe2cb18 : TypeId := 113
abbrev t_Fdc1ba3 : TypeId := 114
abbrev t_F831f84 : TypeId := 115
abbrev t_Ff970bf : TypeId := 116
abbrev t_Fa8424a : TypeId := 117
abbrev t_Fdb95b1 : TypeId := 118
abbrev t_F42507d : TypeId := 119
abbrev t_S018a90 : TypeId := 120
abbrev t_span_side : TypeId := 121
abbrev t_F3f7f15 : TypeId := 122
abbrev t_F403d54 : TypeId := 123
abbrev t_F6c6759 : TypeId := 124
abbrev t_S6911b8 : TypeId := 125
abbrev t_runtime_TypeAssertionError : TypeId := 126
abbrev t_A0_P_runtime_PanicNilError : TypeId := 127
abbrev t_S674f3b : TypeId := 128
abbrev t_runtime_PanicNilError : TypeId := 129
abbrev t_F92c41c : TypeId := 130
abbrev t_uint32 : TypeId := 131
abbrev t_abi_TFlag : TypeId := 132
abbrev t_abi_Kind : TypeId := 133
abbrev t_F0a8967 : TypeId := 134
abbrev t_P_uint8 : TypeId := 135
abbrev t_abi_NameOff : TypeId := 136
abbrev t_abi_TypeOff : TypeId := 137
abbrev t_Scd6355 : TypeId := 138
abbrev t_abi_Type : TypeId := 139
abbrev t_unsafe_Pointer : TypeId := 140
namespace twainlaw37_RegisterFits
noncomputable def j0 (C : Am.Callee) (L : Loops) (n0 : Nat) (t0 t2 t4 t14 : Value) (s : AS) : Option (AEx × List Value × AS) :=
bcase t14 (
(C n_twainlaw37_lives [] s.H).bind fun r7 =>
some (AEx.ret, [t0, t2, t4, r7.1], AS.mk r7.2.1 (joinEsc s.esc r7.2.2))) (
some (AEx.normal, [t0, t2, t4, unk], s))
noncomputable def j1 (C : Am.Callee) (L : Loops) (n0 : Nat) (t0 t2 t4 : Value) (s : AS) : Option (Value × List Blk × Option Nat) :=
(aLoad true 16 s t4).bind fun x9 =>
(aLoad true 16 s t4).bind fun x10 =>
(C n_twainlaw37_Raw [t0] s.H).bind fun r11 =>
if ((((aLoad true 16 (AS.mk r11.2.1 (joinEsc s.esc r11.2.2)) t4).bind fun x18 =>
some (veq x18 x9)) == some true) && ((((aLoad true 16 (AS.mk r11.2.1 (joinEsc s.esc r11.2.2)) t4).bind fun x17 =>
some (veq x17 x10)) == some true) && true)) = true then
(C n_register_Fits [r11.1, x9, t2] (AS.mk r11.2.1 (joinEsc s.esc r11.2.2)).H).bind fun r12 =>
if ((((aLoad true 16 (AS.mk r12.2.1 (joinEsc (AS.mk r11.2.1 (joinEsc s.esc r11.2.2)).esc r12.2.2)) t4).bind fun x16 =>
some (veq x16 x10)) == some true) && true) = true then
(C n_twainref37_Fits [t0, x10, t2] (AS.mk r12.2.1 (joinEsc (AS.mk r11.2.1 (joinEsc s.esc r11.2.2)).esc r12.2.2)).H).bind fun r13 =>
(aBin PP .eql t_bool (.tmp 20) (.tmp 24) r12.1 r13.1).bind fun x14 =>
bcase x14 (
(C n_twainlaw37_lives [] (AS.mk r13.2.1 (joinEsc (AS.mk r12.2.1 (joinEsc (AS.mk r11.2.1 (joinEsc s.esc r11.2.2)).esc r12.2.2)).esc r13.2.2)).H).bind fun r15 =>
fin PP false n0 [r15.1] (AS.mk r15.2.1 (joinEsc (AS.mk r13.2.1 (joinEsc (AS.mk r12.2.1 (joinEsc (AS.mk r11.2.1 (joinEsc s.esc r11.2.2)).esc r12.2.2)).esc r13.2.2)).esc r15.2.2))) (
fin PP false n0 [.bool false] (AS.mk r13.2.1 (joinEsc (AS.mk r12.2.1 (joinEsc (AS.mk r11.2.1 (joinEsc s.esc r11.2.2)).esc r12.2.2)).esc r13.2.2)))
else none
else none
noncomputable def sh (C : Am.Callee) (L : Loops) (n0 : Nat) (t0 t1 t2 : Value) (s : AS) : Option (Value × List Blk × Option Nat) :=
(aBox t_api_Sector t1 s).bind fun r1 =>
(((aLen PP t_L_twainref36_Op t0 r1.2).bind fun x2 =>
(aBin PP .gtr t_int (.tmp 8) (.const (.int .i64 60)) x2 (.int .i64 60)).bind fun x3 =>
bcase x3 (
some (AEx.normal, [t0, t2, r1.1, .bool true], r1.2)) (
(aLen PP t_L_int t2 r1.2).bind fun x4 =>
(aBin PP .gtr t_int (.tmp 12) (.const (.int .i64 80)) x4 (.int .i64 80)).bind fun x5 =>
some (AEx.normal, [t0, t2, r1.1, x5], r1.2))).bind fun r6 =>
match r6.1 with
| .normal => j0 C L n0 ((r6.2.1.getD 0 unk)) ((r6.2.1.getD 1 unk)) ((r6.2.1.getD 2 unk)) ((r6.2.1.getD 3 unk)) r6.2.2
| .exit i => some (AEx.exit i, [(r6.2.1.getD 0 unk), (r6.2.1.getD 1 unk), (r6.2.1.getD 2 unk), unk], r6.2.2)
| .ret => some (AEx.ret, [(r6.2.1.getD 0 unk), (r6.2.1.getD 1 unk), (r6.2.1.getD 2 unk), unk], r6.2.2)).bind fun r8 =>
match r8.1 with
| .normal => j1 C L n0 ((r8.2.1.getD 0 unk)) ((r8.2.1.getD 1 unk)) ((r8.2.1.getD 2 unk)) r8.2.2
| .exit i => none
| .ret => fin PP false n0 [(r8.2.1.getD 3 unk)] r8.2.2
def T : Tab := ⟨fun i => none, fun i => none, false, fun i => if i = 2 then some [0, 2, 4, 14] else if i = 3 then some [0, 2, 4, 6] else none, fun _ => false, false⟩
end twainlaw37_RegisterFits
namespace twainlaw37_RegisterOrders
noncomputable def j0 (C : Am.Callee) (L : Loops) (n0 : Nat) (t0 t1 t2 t31 : Value) (s : AS) : Option (AEx × List Value × AS) :=
bcase t31 (
(C n_twainlaw37_lives [] s.H).bind fun r8 =>
some (AEx.ret, [t0, t1, t2, r8.1], AS.mk r8.2.1 (joinEsc s.esc r8.2.2))) (
some (AEx.normal, [t0, t1, t2, unk], s))
noncomputable def j3 (C : Am.Callee) (L : Loops) (n0 : Nat) (t1 t2 t7 t8 t9 t34 t35 t36 t61 : Value) (s : AS) : Option (AEx × List Value × AS) :=
bcase t61 (
(aLoad true 16 s t8).bind fun x34 =>
(aBin PP .mul t_int (.const (.int .i64 4)) (.tmp 64) (.int .i64 4) t9).bind fun x35 =>
(aBin PP .add t_int (.tmp 65) (.const (.int .i64 2)) x35 (.int .i64 2)).bind fun x36 =>
(aBin PP .mul t_int (.const (.int .i64 4)) (.tmp 67) (.int .i64 4) t9).bind fun x37 =>
(aBin PP .add t_int (.tmp 68) (.const (.int .i64 3)) x37 (.int .i64 3)).bind fun x38 =>
(aBuild PP t_history_Op [(1, x34), (2, x36), (3, x38)]).bind fun x39 =>
(bsl PP t_L_history_Op 1 [0] [x39] s).bind fun r40 =>
eBuiltin PP .append #[t_L_history_Op, t_L_history_Op] [t7, r40.1] r40.2 fun x41 s42 =>
some (AEx.normal, [t1, t2, x41, t8, t34, t35, t36], s42)) (
some (AEx.normal, [t1, t2, t7, t8, t34, t35, t36], s))
noncomputable def j4 (C : Am.Callee) (L : Loops) (n0 : Nat) (t1 t2 t7 t8 t34 t35 t36 : Value) (s : AS) : Option ((List Value × AS) ⊕ (AEx × List Value × AS)) :=
(aBin PP .add t_int (.tmp 36) (.const (.int .i64 1)) t36 (.int .i64 1)).bind fun x44 =>
some (.inl ([t1, t2, t7, t8, t34, t35, x44], s))
noncomputable def loop6 (C : Am.Callee) (L : Loops) (n0 : Nat) (t1 t2 t7 t8 t34 t35 t36 : Value) (s : AS) : Option ((List Value × AS) ⊕ (AEx × List Value × AS)) :=
(aBin PP .lss t_int (.tmp 36) (.tmp 35) t36 t35).bind fun x14 =>
bcase x14 (
((aIndexAddr PP t_L_api_Sector t34 t36).bind fun x15 =>
(aLoad true 16 s x15).bind fun x16 =>
(aBox t_api_Sector ((zeroP PP t_api_Sector).getD unk) s).bind fun r17 =>
(aStore 16 r17.2 r17.1 x16).bind fun s18 =>
(aLoad true 16 s18 r17.1).bind fun x19 =>
(aBin PP .mul t_int (.const (.int .i64 4)) (.tmp 43) (.int .i64 4) t36).bind fun x20 =>
(aBin PP .mul t_int (.const (.int .i64 4)) (.tmp 45) (.int .i64 4) t36).bind fun x21 =>
(aBin PP .add t_int (.tmp 46) (.const (.int .i64 1)) x21 (.int .i64 1)).bind fun x22 =>
(aBuild PP t_history_Op [(0, .bool true), (1, x19), (2, x20), (3, x22)]).bind fun x23 =>
(bsl PP t_L_history_Op 1 [0] [x23] s18).bind fun r24 =>
eBuiltin PP .append #[t_L_history_Op, t_L_history_Op] [t7, r24.1] r24.2 fun x25 s26 =>
(aLoad true 16 s26 r17.1).bind fun x27 =>
(aStore 16 s26 t8 x27).bind fun s28 =>
((aLen PP t_L_bool t1 s28).bind fun x29 =>
(aBin PP .lss t_int (.tmp 52) (.tmp 54) t36 x29).bind fun x30 =>
bcase x30 (
(aIndexAddr PP t_L_bool t1 t36).bind fun x31 =>
(aLoad false 1 s28 x31).bind fun x32 =>
some (AEx.normal, [t1, t2, x25, t8, t36, t34, t35, t36, x32], s28)) (
some (AEx.normal, [t1, t2, x25, t8, t36, t34, t35, t36, .bool false], s28))).bind fun r33 =>
match r33.1 with
| .normal => j3 C L n0 ((r33.2.1.getD 0 unk)) ((r33.2.1.getD 1 unk)) ((r33.2.1.getD 2 unk)) ((r33.2.1.getD 3 unk)) ((r33.2.1.getD 4 unk)) ((r33.2.1.getD 5 unk)) ((r33.2.1.getD 6 unk)) ((r33.2.1.getD 7 unk)) ((r33.2.1.getD 8 unk)) r33.2.2
| .exit i => if i = 1 then some (AEx.normal, [(r33.2.1.getD 0 unk), (r33.2.1.getD 1 unk), (r33.2.1.getD 2 unk), (r33.2.1.getD 3 unk), (r33.2.1.getD 5 unk), (r33.2.1.getD 6 unk), (r33.2.1.getD 7 unk)], r33.2.2) else some (AEx.exit i, [(r33.2.1.getD 0 unk), (r33.2.1.getD 1 unk), (r33.2.1.getD 2 unk), (r33.2.1.getD 3 unk), (r33.2.1.getD 5 unk), (r33.2.1.getD 6 unk), (r33.2.1.getD 7 unk)], r33.2.2)
| .ret => some (AEx.ret, [(r33.2.1.getD 0 unk), (r33.2.1.getD 1 unk), (r33.2.1.getD 2 unk), (r33.2.1.getD 3 unk), (r33.2.1.getD 5 unk), (r33.2.1.getD 6 unk), (r33.2.1.getD 7 unk)], r33.2.2)).bind fun r43 =>
match r43.1 with
| .normal => j4 C L n0 ((r43.2.1.getD 0 unk)) ((r43.2.1.getD 1 unk)) ((r43.2.1.getD 2 unk)) ((r43.2.1.getD 3 unk)) ((r43.2.1.getD 4 unk)) ((r43.2.1.getD 5 unk)) ((r43.2.1.getD 6 unk)) r43.2.2
| .exit i => some (.inr (.exit i, [(r43.2.1.getD 1 unk), (r43.2.1.getD 2 unk)], r43.2.2))
| .ret => some (.inr (.ret, [(r43.2.1.getD 1 unk), (r43.2.1.getD 2 unk)], r43.2.2))) (
some (.inr (.exit 0, [t2, t7], s)))
noncomputable def loop6s (C : Am.Callee) (L : Loops) (n0 : Nat) : List Value × AS → Option ((List Value × AS) ⊕ (AEx × List Value × AS)) := fun s => loop6 C L n0 (s.1.getD 0 unk) (s.1.getD 1 unk) (s.1.getD 2 unk) (s.1.getD 3 unk) (s.1.getD 4 unk) (s.1.getD 5 unk) (s.1.getD 6 unk) s.2
noncomputable def loop14 (C : Am.Callee) (L : Loops) (n0 : Nat) (t7 t74 t75 t76 : Value) (s : AS) : Option ((List Value × AS) ⊕ (AEx × List Value × AS)) :=
(aBin PP .lss t_int (.tmp 76) (.tmp 75) t76 t75).bind fun x48 =>
bcase x48 (
(aIndexAddr PP t_L_twainref36_Op t74 t76).bind fun x49 =>
(aLoad true 19 s x49).bind fun x50 =>
(aBox t_twainref36_Op ((zeroP PP t_twainref36_Op).getD unk) s).bind fun r51 =>
(aStore 19 r51.2 r51.1 x50).bind fun s52 =>
(aFieldAddr PP t_twainref36_Op r51.1 1).bind fun x53 =>
(aLoad true 16 s52 x53).bind fun x54 =>
(aFieldAddr PP t_twainref36_Op r51.1 2).bind fun x55 =>
(aLoad false 1 s52 x55).bind fun x56 =>
(aBuild PP t_history_Op [(0, .bool true), (1, x54), (2, x56), (3, .int .i64 (-1))]).bind fun x57 =>
(bsl PP t_L_history_Op 1 [0] [x57] s52).bind fun r58 =>
eBuiltin PP .append #[t_L_history_Op, t_L_history_Op] [t7, r58.1] r58.2 fun x59 s60 =>
(aBin PP .add t_int (.tmp 76) (.const (.int .i64 1)) t76 (.int .i64 1)).bind fun x61 =>
some (.inl ([x59, t74, t75, x61], s60))) (
some (.inr (.exit 2, [t7], s)))
noncomputable def loop14s (C : Am.Callee) (L : Loops) (n0 : Nat) : List Value × AS → Option ((List Value × AS) ⊕ (AEx × List Value × AS)) := fun s => loop14 C L n0 (s.1.getD 0 unk) (s.1.getD 1 unk) (s.1.getD 2 unk) (s.1.getD 3 unk) s.2
noncomputable def j9 (C : Am.Callee) (L : Loops) (n0 : Nat) (t7 : Value) (s : AS) : Option (Value × List Blk × Option Nat) :=
(aLen PP t_L_history_Op t7 s).bind fun x64 =>
(aBin PP .gtr t_int (.tmp 90) (.const (.int .i64 60)) x64 (.int .i64 60)).bind fun x65 =>
bcase x65 (
(aBuild PP t_api_Sector []).bind fun x66 =>
(C n_register_Right [t7, x66] s.H).bind fun r67 =>
(pureRun PP (Instr.extract r67.1 0)).bind fun x68 =>
(pureRun PP (Instr.extract r67.1 1)).bind fun x69 =>
(aBin PP .eql t_api_Errno (.tmp 98) (.const (.int .i64 11)) x69 (.int .i64 11)).bind fun x70 =>
bcase x70 (
(C n_twainlaw37_lives [] (AS.mk r67.2.1 (joinEsc s.esc r67.2.2)).H).bind fun r71 =>
fin PP false n0 [r71.1] (AS.mk r71.2.1 (joinEsc (AS.mk r67.2.1 (joinEsc s.esc r67.2.2)).esc r71.2.2))) (
fin PP false n0 [.bool false] (AS.mk r67.2.1 (joinEsc s.esc r67.2.2)))) (
(aBuild PP t_api_Sector []).bind fun x72 =>
(C n_register_Right [t7, x72] s.H).bind fun r73 =>
(pureRun PP (Instr.extract r73.1 0)).bind fun x74 =>
(pureRun PP (Instr.extract r73.1 1)).bind fun x75 =>
(aBuild PP t_api_Sector []).bind fun x76 =>
(C n_register_Order [t7, x76] (AS.mk r73.2.1 (joinEsc s.esc r73.2.2)).H).bind fun r77 =>
(pureRun PP (Instr.extract r77.1 0)).bind fun x78 =>
(pureRun PP (Instr.extract r77.1 1)).bind fun x79 =>
(aBin PP .eql t_api_Errno (.tmp 115) (.const (.int .i64 0)) x75 (.int .i64 0)).bind fun x80 =>
bcase x80 (
bcase x74 (
bcase x79 (
(aBuild PP t_api_Sector []).bind fun x81 =>
(C n_register_Fits [t7, x81, x78] (AS.mk r77.2.1 (joinEsc (AS.mk r73.2.1 (joinEsc s.esc r73.2.2)).esc r77.2.2)).H).bind fun r82 =>
bcase r82.1 (
(C n_twainlaw37_lives [] (AS.mk r82.2.1 (joinEsc (AS.mk r77.2.1 (joinEsc (AS.mk r73.2.1 (joinEsc s.esc r73.2.2)).esc r77.2.2)).esc r82.2.2)).H).bind fun r83 =>
fin PP false n0 [r83.1] (AS.mk r83.2.1 (joinEsc (AS.mk r82.2.1 (joinEsc (AS.mk r77.2.1 (joinEsc (AS.mk r73.2.1 (joinEsc s.esc r73.2.2)).esc r77.2.2)).esc r82.2.2)).esc r83.2.2))) (
fin PP false n0 [.bool false] (AS.mk r82.2.1 (joinEsc (AS.mk r77.2.1 (joinEsc (AS.mk r73.2.1 (joinEsc s.esc r73.2.2)).esc r77.2.2)).esc r82.2.2)))) (
fin PP false n0 [.bool false] (AS.mk r77.2.1 (joinEsc (AS.mk r73.2.1 (joinEsc s.esc r73.2.2)).esc r77.2.2)))) (
fin PP false n0 [.bool false] (AS.mk r77.2.1 (joinEsc (AS.mk r73.2.1 (joinEsc s.esc r73.2.2)).esc r77.2.2)))) (
fin PP false n0 [.bool false] (AS.mk r77.2.1 (joinEsc (AS.mk r73.2.1 (joinEsc s.esc r73.2.2)).esc r77.2.2))))
noncomputable def j6 (C : Am.Callee) (L : Loops) (n0 : Nat) (t2 t7 : Value) (s : AS) : Option (Value × List Blk × Option Nat) :=
((aLen PP t_L_twainref36_Op t2 s).bind fun x47 =>
(L n0 (loop14s C L n0) ([t7, t2, x47, .int .i64 0], s)).bind fun r62 =>
match r62.1 with
| .normal => some (AEx.normal, [(r62.2.1.getD 0 unk)], r62.2.2)
| .exit i => if i = 2 then some (AEx.normal, [(r62.2.1.getD 0 unk)], r62.2.2) else some (AEx.exit i, [(r62.2.1.getD 0 unk)], r62.2.2)
| .ret => some (AEx.ret, [(r62.2.1.getD 0 unk)], r62.2.2)).bind fun r63 =>
match r63.1 with
| .normal => j9 C L n0 (((jFrz PP n0 r63.2.1 r63.2.2 true).1.getD 0 unk)) ((jFrz PP n0 r63.2.1 r63.2.2 true).2)
| .exit i => none
| .ret => fin PP false n0 [unk] r63.2.2
noncomputable def j1 (C : Am.Callee) (L : Loops) (n0 : Nat) (t0 t1 t2 : Value) (s : AS) : Option (Value × List Blk × Option Nat) :=
(aBuild PP t_api_Sector []).bind fun x10 =>
(aBox t_api_Sector ((zeroP PP t_api_Sector).getD unk) s).bind fun r11 =>
(aStore 16 r11.2 r11.1 x10).bind fun s12 =>
((aLen PP t_L_api_Sector t0 s12).bind fun x13 =>
(L n0 (loop6s C L n0) ([t1, t2, .slice none 0 0, r11.1, t0, x13, .int .i64 0], s12)).bind fun r45 =>
match r45.1 with
| .normal => some (AEx.normal, [(r45.2.1.getD 0 unk), (r45.2.1.getD 1 unk)], r45.2.2)
| .exit i => if i = 0 then some (AEx.normal, [(r45.2.1.getD 0 unk), (r45.2.1.getD 1 unk)], r45.2.2) else some (AEx.exit i, [(r45.2.1.getD 0 unk), (r45.2.1.getD 1 unk)], r45.2.2)
| .ret => some (AEx.ret, [(r45.2.1.getD 0 unk), (r45.2.1.getD 1 unk)], r45.2.2)).bind fun r46 =>
match r46.1 with
| .normal => j6 C L n0 ((r46.2.1.getD 0 unk)) ((r46.2.1.getD 1 unk)) r46.2.2
| .exit i => none
| .ret => fin PP false n0 [unk] r46.2.2
noncomputable def sh (C : Am.Callee) (L : Loops) (n0 : Nat) (t0 t1 t2 : Value) (s : AS) : Option (Value × List Blk × Option Nat) :=
(((aLen PP t_L_api_Sector t0 s).bind fun x1 =>
(aBin PP .gtr t_int (.tmp 20) (.const (.int .i64 30)) x1 (.int .i64 30)).bind fun x2 =>
bcase x2 (
some (AEx.normal, [t0, t1, t2, .bool true], s)) (
(aLen PP t_L_bool t1 s).bind fun x3 =>
(aBin PP .gtr t_int (.tmp 24) (.const (.int .i64 30)) x3 (.int .i64 30)).bind fun x4 =>
bcase x4 (
some (AEx.normal, [t0, t1, t2, .bool true], s)) (
(aLen PP t_L_twainref36_Op t2 s).bind fun x5 =>
(aBin PP .gtr t_int (.tmp 29) (.const (.int .i64 6)) x5 (.int .i64 6)).bind fun x6 =>
some (AEx.normal, [t0, t1, t2, x6], s)))).bind fun r7 =>
match r7.1 with
| .normal => j0 C L n0 ((r7.2.1.getD 0 unk)) ((r7.2.1.getD 1 unk)) ((r7.2.1.getD 2 unk)) ((r7.2.1.getD 3 unk)) r7.2.2
| .exit i => some (AEx.exit i, [(r7.2.1.getD 0 unk), (r7.2.1.getD 1 unk), (r7.2.1.getD 2 unk), unk], r7.2.2)
| .ret => some (AEx.ret, [(r7.2.1.getD 0 unk), (r7.2.1.getD 1 unk), (r7.2.1.getD 2 unk), unk], r7.2.2)).bind fun r9 =>
match r9.1 with
| .normal => j1 C L n0 ((r9.2.1.getD 0 unk)) ((r9.2.1.getD 1 unk)) ((r9.2.1.getD 2 unk)) r9.2.2
| .exit i => none
| .ret => fin PP false n0 [(r9.2.1.getD 3 unk)] r9.2.2
def T : Tab := ⟨fun i => if i = 6 then some [1, 2, 7, 8, 34, 35, 36] else if i = 14 then some [7, 74, 75, 76] else none, fun i => if i = 6 then some [2, 7] else if i = 14 then some [7] else none, false, fun i => if i = 2 then some [0, 1, 2, 31] else if i = 3 then some [0, 1, 2, 6] else if i = 11 then some [1, 2, 7, 8, 9, 34, 35, 36, 61] else if i = 12 then some [1, 2, 7, 8, 34, 35, 36] else if i = 13 then some [2, 7] else if i = 18 then some [7] else none, fun i => i == 18, false⟩
end twainlaw37_RegisterOrders
namespace twainlaw37_lives
noncomputable def sh (C : Am.Callee) (L : Loops) (n0 : Nat) (s : AS) : Option (Value × List Blk × Option Nat) :=
(aBuild PP t_history_Op [(3, .int .i64 1)]).bind fun x1 =>
(bsl PP t_L_history_Op 1 [0] [x1] s).bind fun r2 =>
(aBuild PP t_api_Sector []).bind fun x3 =>
(C n_register_Right [r2.1, x3] r2.2.H).bind fun r4 =>
(pureRun PP (Instr.extract r4.1 0)).bind fun x5 =>
(pureRun PP (Instr.extract r4.1 1)).bind fun x6 =>
(aBuild PP t_api_Sector [(0, .int .u8 1)]).bind fun x7 =>
(aBuild PP t_history_Op [(3, .int .i64 1), (1, x7)]).bind fun x8 =>
(bsl PP t_L_history_Op 1 [0] [x8] (AS.mk r4.2.1 (joinEsc r2.2.esc r4.2.2))).bind fun r9 =>
(aBuild PP t_api_Sector []).bind fun x10 =>
(C n_register_Right [r9.1, x10] r9.2.H).bind fun r11 =>
(pureRun PP (Instr.extract r11.1 0)).bind fun x12 =>
(pureRun PP (Instr.extract r11.1 1)).bind fun x13 =>
bcase x5 (
(aBin PP .eql t_api_Errno (.tmp 22) (.const (.int .i64 0)) x6 (.int .i64 0)).bind fun x14 =>
bcase x14 (
(aUn PP .not x12).bind fun x15 =>
bcase x15 (
(aBin PP .eql t_api_Errno (.tmp 30) (.const (.int .i64 0)) x13 (.int .i64 0)).bind fun x16 =>
fin PP false n0 [x16] (AS.mk r11.2.1 (joinEsc r9.2.esc r11.2.2))) (
fin PP false n0 [.bool false] (AS.mk r11.2.1 (joinEsc r9.2.esc r11.2.2)))) (
fin PP false n0 [.bool false] (AS.mk r11.2.1 (joinEsc r9.2.esc r11.2.2)))) (
fin PP false n0 [.bool false] (AS.mk r11.2.1 (joinEsc r9.2.esc r11.2.2)))
def T : Tab := ⟨fun i => none, fun i => none, false, fun i => none, fun _ => false, true⟩
end twainlaw37_lives
namespace register_Fits
noncomputable def j1 (C : Am.Callee) (L : Loops) (n0 : Nat) (t0 t7 t8 t9 t10 t22 t23 t24 t36 : Value) (s : AS) : Option (AEx × List Value × AS) :=
bcase t36 (
some (AEx.ret, [t0, .bool false, t7, t8, t9, t10, t22, t23, t24], s)) (
some (AEx.normal, [t0, unk, t7, t8, t9, t10, t22, t23, t24], s))
noncomputable def j2 (C : Am.Callee) (L : Loops) (n0 : Nat) (t0 t7 t8 t22 t23 t24 : Value) (s : AS) : Option ((List Value × AS) ⊕ (AEx × List Value × AS)) :=
(aBin PP .add t_int (.tmp 24) (.const (.int .i64 1)) t24 (.int .i64 1)).bind fun x14 =>
some (.inl ([t0, t7, t8, t22, t23, x14], s))
noncomputable def j3 (C : Am.Callee) (L : Loops) (n0 : Nat) (t0 t7 t8 t9 t10 t22 t23 t24 : Value) (s : AS) : Option ((List Value × AS) ⊕ (AEx × List Value × AS)) :=
(aLookup PP t_M_int_int t7 t10 true s).bind fun x15 =>
(pureRun PP (Instr.extract x15 0)).bind fun x16 =>
(pureRun PP (Instr.extract x15 1)).bind fun x17 =>
bcase x17 (
some (.inr (.ret, [t0, .bool false, t7], s))) (
(aMapUpdate PP t_M_int_int t7 t10 t9 s).bind fun s18 =>
(aIndexAddr PP t_L_history_Op t0 t10).bind fun x19 =>
(aLoad true 19 s18 x19).bind fun x20 =>
(aBox t_history_Op ((zeroP PP t_history_Op).getD unk) s18).bind fun r21 =>
(aStore 19 r21.2 r21.1 x20).bind fun s22 =>
(aFieldAddr PP t_history_Op r21.1 0).bind fun x23 =>
(aLoad false 1 s22 x23).bind fun x24 =>
bcase x24 (
(aFieldAddr PP t_history_Op r21.1 1).bind fun x25 =>
(aLoad true 16 s22 x25).bind fun x26 =>
(aStore 16 s22 t8 x26).bind fun s27 =>
j2 C L n0 t0 t7 t8 t22 t23 t24 s27) (
(aFieldAddr PP t_history_Op r21.1 1).bind fun x28 =>
(aLoad true 16 s22 x28).bind fun x29 =>
(aLoad true 16 s22 t8).bind fun x30 =>
(aBin PP .neq t_api_Sector (.tmp 58) (.tmp 59) x29 x30).bind fun x31 =>
bcase x31 (
some (.inr (.ret, [t0, .bool false, t7], s22))) (
j2 C L n0 t0 t7 t8 t22 t23 t24 s22)))
noncomputable def loop4 (C : Am.Callee) (L : Loops) (n0 : Nat) (t0 t7 t8 t22 t23 t24 : Value) (s : AS) : Option ((List Value × AS) ⊕ (AEx × List Value × AS)) :=
(aBin PP .lss t_int (.tmp 24) (.tmp 23) t24 t23).bind fun x6 =>
bcase x6 (
(aIndexAddr PP t_L_int t22 t24).bind fun x7 =>
(aLoad false 1 s x7).bind fun x8 =>
(((aBin PP .lss t_int (.tmp 29) (.const (.int .i64 0)) x8 (.int .i64 0)).bind fun x9 =>
bcase x9 (
some (AEx.normal, [t0, t7, t8, t24, x8, t22, t23, t24, .bool true], s)) (
(aLen PP t_L_history_Op t0 s).bind fun x10 =>
(aBin PP .geq t_int (.tmp 32) (.tmp 34) x8 x10).bind fun x11 =>
some (AEx.normal, [t0, t7, t8, t24, x8, t22, t23, t24, x11], s))).bind fun r12 =>
match r12.1 with
| .normal => j1 C L n0 ((r12.2.1.getD 0 unk)) ((r12.2.1.getD 1 unk)) ((r12.2.1.getD 2 unk)) ((r12.2.1.getD 3 unk)) ((r12.2.1.getD 4 unk)) ((r12.2.1.getD 5 unk)) ((r12.2.1.getD 6 unk)) ((r12.2.1.getD 7 unk)) ((r12.2.1.getD 8 unk)) r12.2.2
| .exit i => some (AEx.exit i, [(r12.2.1.getD 0 unk), unk, (r12.2.1.getD 1 unk), (r12.2.1.getD 2 unk), (r12.2.1.getD 3 unk), (r12.2.1.getD 4 unk), (r12.2.1.getD 5 unk), (r12.2.1.getD 6 unk), (r12.2.1.getD 7 unk)], r12.2.2)
| .ret => some (AEx.ret, [(r12.2.1.getD 0 unk), unk, (r12.2.1.getD 1 unk), (r12.2.1.getD 2 unk), (r12.2.1.getD 3 unk), (r12.2.1.getD 4 unk), (r12.2.1.getD 5 unk), (r12.2.1.getD 6 unk), (r12.2.1.getD 7 unk)], r12.2.2)).bind fun r13 =>
match r13.1 with
| .normal => j3 C L n0 ((r13.2.1.getD 0 unk)) ((r13.2.1.getD 2 unk)) ((r13.2.1.getD 3 unk)) ((r13.2.1.getD 4 unk)) ((r13.2.1.getD 5 unk)) ((r13.2.1.getD 6 unk)) ((r13.2.1.getD 7 unk)) ((r13.2.1.getD 8 unk)) r13.2.2
| .exit i => if i = 1 then j2 C L n0 ((r13.2.1.getD 0 unk)) ((r13.2.1.getD 2 unk)) ((r13.2.1.getD 3 unk)) ((r13.2.1.getD 6 unk)) ((r13.2.1.getD 7 unk)) ((r13.2.1.getD 8 unk)) r13.2.2 else some (.inr (.exit i, [(r13.2.1.getD 0 unk), (r13.2.1.getD 1 unk), (r13.2.1.getD 2 unk)], r13.2.2))
| .ret => some (.inr (.ret, [(r13.2.1.getD 0 unk), (r13.2.1.getD 1 unk), (r13.2.1.getD 2 unk)], r13.2.2))) (
some (.inr (.exit 0, [t0, unk, t7], s)))
noncomputable def loop4s (C : Am.Callee) (L : Loops) (n0 : Nat) : List Value × AS → Option ((List Value × AS) ⊕ (AEx × List Value × AS)) := fun s => loop4 C L n0 (s.1.getD 0 unk) (s.1.getD 1 unk) (s.1.getD 2 unk) (s.1.getD 3 unk) (s.1.getD 4 unk) (s.1.getD 5 unk) s.2
noncomputable def j7 (C : Am.Callee) (L : Loops) (n0 : Nat) (t0 t7 t15 t16 t17 t62 t63 t64 t86 : Value) (s : AS) : Option (AEx × List Value × AS) :=
bcase t86 (
some (AEx.ret, [t0, .bool false, t7, t15, t16, t17, t62, t63, t64], s)) (
some (AEx.normal, [t0, unk, t7, t15, t16, t17, t62, t63, t64], s))
noncomputable def j10 (C : Am.Callee) (L : Loops) (n0 : Nat) {R : Type} (k' : (List Value × AS) ⊕ (AEx × List Value × AS) → Option R) (t0 t7 t15 t16 t17 t62 t63 t64 t88 t115 : Value) (s : AS) : Option R :=
bcase t115 (
k' (.inr (.ret, [t0, .bool false, t7, t62, t63, t64], s))) (
k' (.inl ([t0, t7, t15, t16, t17, t62, t63, t64, t88], s)))
noncomputable def loop25 (C : Am.Callee) (L : Loops) (n0 : Nat) {R : Type} (k' : (List Value × AS) ⊕ (AEx × List Value × AS) → Option R) (t0 t7 t15 t16 t17 t62 t63 t64 t88 : Value) (s : AS) : Option R :=
(aNext t88 s).bind fun q53 => L.all q53.1 fun i54 =>
(pureRun PP (Instr.extract ((q53.2 i54).1) 0)).bind fun x55 =>
bcase x55 (
(aEntry t88 ((q53.2 i54).2)).bind fun x56 =>
(pureRun PP (Instr.extract x56 0)).bind fun x57 =>
(pureRun PP (Instr.extract x56 1)).bind fun x58 =>
((aFieldAddr PP t_history_Op t15 3).bind fun x59 =>
(aLoad false 1 ((q53.2 i54).2) x59).bind fun x60 =>
(aBin PP .geq t_int (.tmp 95) (.const (.int .i64 0)) x60 (.int .i64 0)).bind fun x61 =>
bcase x61 (
(aFieldAddr PP t_history_Op t15 3).bind fun x62 =>
(aLoad false 1 ((q53.2 i54).2) x62).bind fun x63 =>
(aIndexAddr PP t_L_history_Op t0 x57).bind fun x64 =>
(aFieldAddr PP t_history_Op x64 2).bind fun x65 =>
(aLoad false 1 ((q53.2 i54).2) x65).bind fun x66 =>
(aBin PP .lss t_int (.tmp 99) (.tmp 104) x63 x66).bind fun x67 =>
bcase x67 (
(aUn PP .not t17).bind fun x68 =>
bcase x68 (
some (AEx.normal, [t0, t7, t15, t16, t17, t62, t63, t64, t88, .bool true], (q53.2 i54).2)) (
(aBin PP .gtr t_int (.tmp 111) (.tmp 112) t16 x58).bind fun x69 =>
some (AEx.normal, [t0, t7, t15, t16, t17, t62, t63, t64, t88, x69], (q53.2 i54).2))) (
some (AEx.normal, [t0, t7, t15, t16, t17, t62, t63, t64, t88, .bool false], (q53.2 i54).2))) (
some (AEx.normal, [t0, t7, t15, t16, t17, t62, t63, t64, t88, .bool false], (q53.2 i54).2))).bind fun r70 =>
match r70.1 with
| .normal => j10 C L n0 k' ((r70.2.1.getD 0 unk)) ((r70.2.1.getD 1 unk)) ((r70.2.1.getD 2 unk)) ((r70.2.1.getD 3 unk)) ((r70.2.1.getD 4 unk)) ((r70.2.1.getD 5 unk)) ((r70.2.1.getD 6 unk)) ((r70.2.1.getD 7 unk)) ((r70.2.1.getD 8 unk)) ((r70.2.1.getD 9 unk)) r70.2.2
| .exit i => if i = 6 then k' (.inl ([(r70.2.1.getD 0 unk), (r70.2.1.getD 1 unk), (r70.2.1.getD 2 unk), (r70.2.1.getD 3 unk), (r70.2.1.getD 4 unk), (r70.2.1.getD 5 unk), (r70.2.1.getD 6 unk), (r70.2.1.getD 7 unk), (r70.2.1.getD 8 unk)], r70.2.2)) else k' (.inr (.exit i, [(r70.2.1.getD 0 unk), unk, (r70.2.1.getD 1 unk), (r70.2.1.getD 5 unk), (r70.2.1.getD 6 unk), (r70.2.1.getD 7 unk)], r70.2.2))
| .ret => k' (.inr (.ret, [(r70.2.1.getD 0 unk), unk, (r70.2.1.getD 1 unk), (r70.2.1.getD 5 unk), (r70.2.1.getD 6 unk), (r70.2.1.getD 7 unk)], r70.2.2))) (
k' (.inr (.exit 5, [t0, unk, t7, t62, t63, t64], (q53.2 i54).2)))
noncomputable def loop25s (C : Am.Callee) (L : Loops) (n0 : Nat) {R : Type} : ((List Value × AS) ⊕ (AEx × List Value × AS) → Option R) → List Value × AS → Option R := fun k' s => loop25 C L n0 k' (s.1.getD 0 unk) (s.1.getD 1 unk) (s.1.getD 2 unk) (s.1.getD 3 unk) (s.1.getD 4 unk) (s.1.getD 5 unk) (s.1.getD 6 unk) (s.1.getD 7 unk) (s.1.getD 8 unk) s.2
noncomputable def j8 (C : Am.Callee) (L : Loops) (n0 : Nat) (t0 t7 t15 t16 t17 t62 t63 t64 : Value) (s : AS) : Option (AEx × List Value × AS) :=
(aRange PP t_M_int_int t7 s).bind fun r52 =>
L.any n0 (loop25s C L n0) ([t0, t7, t15, t16, t17, t62, t63, t64, r52.1], r52.2) fun r71 =>
match r71.1 with
| .normal => some (AEx.normal, [((gc n0 r71.2.1 r71.2.2).1.getD 0 unk), ((gc n0 r71.2.1 r71.2.2).1.getD 1 unk), ((gc n0 r71.2.1 r71.2.2).1.getD 2 unk), ((gc n0 r71.2.1 r71.2.2).1.getD 3 unk), ((gc n0 r71.2.1 r71.2.2).1.getD 4 unk), ((gc n0 r71.2.1 r71.2.2).1.getD 5 unk)], (gc n0 r71.2.1 r71.2.2).2)
| .exit i => if i = 5 then some (AEx.normal, [((gc n0 r71.2.1 r71.2.2).1.getD 0 unk), ((gc n0 r71.2.1 r71.2.2).1.getD 1 unk), ((gc n0 r71.2.1 r71.2.2).1.getD 2 unk), ((gc n0 r71.2.1 r71.2.2).1.getD 3 unk), ((gc n0 r71.2.1 r71.2.2).1.getD 4 unk), ((gc n0 r71.2.1 r71.2.2).1.getD 5 unk)], (gc n0 r71.2.1 r71.2.2).2) else if i = 4 then some (AEx.normal, [((gc n0 r71.2.1 r71.2.2).1.getD 0 unk), ((gc n0 r71.2.1 r71.2.2).1.getD 1 unk), ((gc n0 r71.2.1 r71.2.2).1.getD 2 unk), ((gc n0 r71.2.1 r71.2.2).1.getD 3 unk), ((gc n0 r71.2.1 r71.2.2).1.getD 4 unk), ((gc n0 r71.2.1 r71.2.2).1.getD 5 unk)], (gc n0 r71.2.1 r71.2.2).2) else some (AEx.exit i, [((gc n0 r71.2.1 r71.2.2).1.getD 0 unk), ((gc n0 r71.2.1 r71.2.2).1.getD 1 unk), ((gc n0 r71.2.1 r71.2.2).1.getD 2 unk), ((gc n0 r71.2.1 r71.2.2).1.getD 3 unk), ((gc n0 r71.2.1 r71.2.2).1.getD 4 unk), ((gc n0 r71.2.1 r71.2.2).1.getD 5 unk)], (gc n0 r71.2.1 r71.2.2).2)
| .ret => some (AEx.ret, [((gc n0 r71.2.1 r71.2.2).1.getD 0 unk), ((gc n0 r71.2.1 r71.2.2).1.getD 1 unk), ((gc n0 r71.2.1 r71.2.2).1.getD 2 unk), ((gc n0 r71.2.1 r71.2.2).1.getD 3 unk), ((gc n0 r71.2.1 r71.2.2).1.getD 4 unk), ((gc n0 r71.2.1 r71.2.2).1.getD 5 unk)], (gc n0 r71.2.1 r71.2.2).2)
noncomputable def j12 (C : Am.Callee) (L : Loops) (n0 : Nat) (t0 t7 t62 t63 t64 : Value) (s : AS) : Option ((List Value × AS) ⊕ (AEx × List Value × AS)) :=
(aBin PP .add t_int (.tmp 64) (.const (.int .i64 1)) t64 (.int .i64 1)).bind fun x73 =>
some (.inl ([t0, t7, t62, t63, x73], s))
noncomputable def loop19 (C : Am.Callee) (L : Loops) (n0 : Nat) (t0 t7 t62 t63 t64 : Value) (s : AS) : Option ((List Value × AS) ⊕ (AEx × List Value × AS)) :=
(aBin PP .lss t_int (.tmp 64) (.tmp 63) t64 t63).bind fun x35 =>
bcase x35 (
((aIndexAddr PP t_L_history_Op t62 t64).bind fun x36 =>
(aLoad true 19 s x36).bind fun x37 =>
(aBox t_history_Op ((zeroP PP t_history_Op).getD unk) s).bind fun r38 =>
(aStore 19 r38.2 r38.1 x37).bind fun s39 =>
(aLookup PP t_M_int_int t7 t64 true s39).bind fun x40 =>
(pureRun PP (Instr.extract x40 0)).bind fun x41 =>
(pureRun PP (Instr.extract x40 1)).bind fun x42 =>
(((aUn PP .not x42).bind fun x43 =>
bcase x43 (
(aFieldAddr PP t_history_Op r38.1 0).bind fun x44 =>
(aLoad false 1 s39 x44).bind fun x45 =>
(aUn PP .not x45).bind fun x46 =>
bcase x46 (
some (AEx.normal, [t0, t7, r38.1, x41, x42, t62, t63, t64, .bool true], s39)) (
(aFieldAddr PP t_history_Op r38.1 3).bind fun x47 =>
(aLoad false 1 s39 x47).bind fun x48 =>
(aBin PP .geq t_int (.tmp 83) (.const (.int .i64 0)) x48 (.int .i64 0)).bind fun x49 =>
some (AEx.normal, [t0, t7, r38.1, x41, x42, t62, t63, t64, x49], s39))) (
some (AEx.normal, [t0, t7, r38.1, x41, x42, t62, t63, t64, .bool false], s39))).bind fun r50 =>
match r50.1 with
| .normal => j7 C L n0 ((r50.2.1.getD 0 unk)) ((r50.2.1.getD 1 unk)) ((r50.2.1.getD 2 unk)) ((r50.2.1.getD 3 unk)) ((r50.2.1.getD 4 unk)) ((r50.2.1.getD 5 unk)) ((r50.2.1.getD 6 unk)) ((r50.2.1.getD 7 unk)) ((r50.2.1.getD 8 unk)) r50.2.2
| .exit i => some (AEx.exit i, [(r50.2.1.getD 0 unk), unk, (r50.2.1.getD 1 unk), (r50.2.1.getD 2 unk), (r50.2.1.getD 3 unk), (r50.2.1.getD 4 unk), (r50.2.1.getD 5 unk), (r50.2.1.getD 6 unk), (r50.2.1.getD 7 unk)], r50.2.2)
| .ret => some (AEx.ret, [(r50.2.1.getD 0 unk), unk, (r50.2.1.getD 1 unk), (r50.2.1.getD 2 unk), (r50.2.1.getD 3 unk), (r50.2.1.getD 4 unk), (r50.2.1.getD 5 unk), (r50.2.1.getD 6 unk), (r50.2.1.getD 7 unk)], r50.2.2)).bind fun r51 =>
match r51.1 with
| .normal => j8 C L n0 ((r51.2.1.getD 0 unk)) ((r51.2.1.getD 2 unk)) ((r51.2.1.getD 3 unk)) ((r51.2.1.getD 4 unk)) ((r51.2.1.getD 5 unk)) ((r51.2.1.getD 6 unk)) ((r51.2.1.getD 7 unk)) ((r51.2.1.getD 8 unk)) r51.2.2
| .exit i => if i = 4 then some (AEx.normal, [(r51.2.1.getD 0 unk), (r51.2.1.getD 1 unk), (r51.2.1.getD 2 unk), (r51.2.1.getD 6 unk), (r51.2.1.getD 7 unk), (r51.2.1.getD 8 unk)], r51.2.2) else some (AEx.exit i, [(r51.2.1.getD 0 unk), (r51.2.1.getD 1 unk), (r51.2.1.getD 2 unk), (r51.2.1.getD 6 unk), (r51.2.1.getD 7 unk), (r51.2.1.getD 8 unk)], r51.2.2)
| .ret => some (AEx.ret, [(r51.2.1.getD 0 unk), (r51.2.1.getD 1 unk), (r51.2.1.getD 2 unk), (r51.2.1.getD 6 unk), (r51.2.1.getD 7 unk), (r51.2.1.getD 8 unk)], r51.2.2)).bind fun r72 =>
match r72.1 with
| .normal => j12 C L n0 ((r72.2.1.getD 0 unk)) ((r72.2.1.getD 2 unk)) ((r72.2.1.getD 3 unk)) ((r72.2.1.getD 4 unk)) ((r72.2.1.getD 5 unk)) r72.2.2
| .exit i => some (.inr (.exit i, [(r72.2.1.getD 1 unk)], r72.2.2))
| .ret => some (.inr (.ret, [(r72.2.1.getD 1 unk)], r72.2.2))) (
some (.inr (.exit 3, [unk], s)))
noncomputable def loop19s (C : Am.Callee) (L : Loops) (n0 : Nat) : List Value × AS → Option ((List Value × AS) ⊕ (AEx × List Value × AS)) := fun s => loop19 C L n0 (s.1.getD 0 unk) (s.1.getD 1 unk) (s.1.getD 2 unk) (s.1.getD 3 unk) (s.1.getD 4 unk) s.2
noncomputable def j14 (C : Am.Callee) (L : Loops) (n0 : Nat) (s : AS) : Option (Value × List Blk × Option Nat) :=
fin PP false n0 [.bool true] s
noncomputable def j5 (C : Am.Callee) (L : Loops) (n0 : Nat) (t0 t7 : Value) (s : AS) : Option (Value × List Blk × Option Nat) :=
((aLen PP t_L_history_Op t0 s).bind fun x34 =>
(L n0 (loop19s C L n0) ([t0, t7, t0, x34, .int .i64 0], s)).bind fun r74 =>
match r74.1 with
| .normal => some (AEx.normal, [(r74.2.1.getD 0 unk)], r74.2.2)
| .exit i => if i = 3 then some (AEx.normal, [(r74.2.1.getD 0 unk)], r74.2.2) else some (AEx.exit i, [(r74.2.1.getD 0 unk)], r74.2.2)
| .ret => some (AEx.ret, [(r74.2.1.getD 0 unk)], r74.2.2)).bind fun r75 =>
match r75.1 with
| .normal => j14 C L n0  r75.2.2
| .exit i => none
| .ret => fin PP false n0 [(r75.2.1.getD 0 unk)] r75.2.2
noncomputable def sh (C : Am.Callee) (L : Loops) (n0 : Nat) (t0 t1 t2 : Value) (s : AS) : Option (Value × List Blk × Option Nat) :=
(aBox t_api_Sector t1 s).bind fun r1 =>
(aLoad true 16 (newBlk r1.2 (.map [] 0)) r1.1).bind fun x2 =>
(aBox t_api_Sector ((zeroP PP t_api_Sector).getD unk) (newBlk r1.2 (.map [] 0))).bind fun r3 =>
(aStore 16 r3.2 r3.1 x2).bind fun s4 =>
((aLen PP t_L_int t2 s4).bind fun x5 =>
(L n0 (loop4s C L n0) ([t0, .map (some r1.2.H.length), r3.1, t2, x5, .int .i64 0], s4)).bind fun r32 =>
match r32.1 with
| .normal => some (AEx.normal, [(r32.2.1.getD 0 unk), (r32.2.1.getD 1 unk), (r32.2.1.getD 2 unk)], r32.2.2)
| .exit i => if i = 0 then some (AEx.normal, [(r32.2.1.getD 0 unk), (r32.2.1.getD 1 unk), (r32.2.1.getD 2 unk)], r32.2.2) else some (AEx.exit i, [(r32.2.1.getD 0 unk), (r32.2.1.getD 1 unk), (r32.2.1.getD 2 unk)], r32.2.2)
| .ret => some (AEx.ret, [(r32.2.1.getD 0 unk), (r32.2.1.getD 1 unk), (r32.2.1.getD 2 unk)], r32.2.2)).bind fun r33 =>
match r33.1 with
| .normal => j5 C L n0 ((r33.2.1.getD 0 unk)) ((r33.2.1.getD 2 unk)) r33.2.2
| .exit i => none
| .ret => fin PP false n0 [(r33.2.1.getD 1 unk)] r33.2.2
def T : Tab := ⟨fun i => if i = 4 then some [0, 7, 8, 22, 23, 24] else if i = 19 then some [0, 7, 62, 63, 64] else if i = 25 then some [0, 7, 15, 16, 17, 62, 63, 64, 88] else none, fun i => if i = 4 then some [0, 6, 7] else if i = 19 then some [6] else if i = 25 then some [0, 6, 7, 62, 63, 64] else none, false, fun i => if i = 7 then some [0, 7, 8, 9, 10, 22, 23, 24, 36] else if i = 8 then some [0, 6, 7, 8, 9, 10, 22, 23, 24] else if i = 18 then some [0, 6, 7] else if i = 23 then some [0, 7, 15, 16, 17, 62, 63, 64, 86] else if i = 24 then some [0, 6, 7, 15, 16, 17, 62, 63, 64] else if i = 28 then some [0, 7, 15, 16, 17, 62, 63, 64, 88, 115] else if i = 29 then some [0, 6, 7, 62, 63, 64] else if i = 30 then some [6] else none, fun _ => false, false⟩
end register_Fits
namespace twainlaw37_Raw
noncomputable def loop3 (C : Am.Callee) (L : Loops) (n0 : Nat) (t3 t6 t7 t8 : Value) (s : AS) : Option ((List Value × AS) ⊕ (AEx × List Value × AS)) :=
(aBin PP .lss t_int (.tmp 8) (.tmp 7) t8 t7).bind fun x2 =>
bcase x2 (
(aIndexAddr PP t_L_twainref36_Op t6 t8).bind fun x3 =>
(aLoad true 19 s x3).bind fun x4 =>
(aBox t_twainref36_Op ((zeroP PP t_twainref36_Op).getD unk) s).bind fun r5 =>
(aStore 19 r5.2 r5.1 x4).bind fun s6 =>
(aLoad true 19 s6 r5.1).bind fun x7 =>
(bsl PP t_L_history_Op 1 [0] [x7] s6).bind fun r8 =>
eBuiltin PP .append #[t_L_history_Op, t_L_history_Op] [t3, r8.1] r8.2 fun x9 s10 =>
(aBin PP .add t_int (.tmp 8) (.const (.int .i64 1)) t8 (.int .i64 1)).bind fun x11 =>
some (.inl ([x9, t6, t7, x11], s10))) (
some (.inr (.exit 0, [t3], s)))
noncomputable def loop3s (C : Am.Callee) (L : Loops) (n0 : Nat) : List Value × AS → Option ((List Value × AS) ⊕ (AEx × List Value × AS)) := fun s => loop3 C L n0 (s.1.getD 0 unk) (s.1.getD 1 unk) (s.1.getD 2 unk) (s.1.getD 3 unk) s.2
noncomputable def j2 (C : Am.Callee) (L : Loops) (n0 : Nat) (t3 : Value) (s : AS) : Option (Value × List Blk × Option Nat) :=
fin PP false n0 [t3] s
noncomputable def sh (C : Am.Callee) (L : Loops) (n0 : Nat) (t0 : Value) (s : AS) : Option (Value × List Blk × Option Nat) :=
((aLen PP t_L_twainref36_Op t0 s).bind fun x1 =>
(L n0 (loop3s C L n0) ([.slice none 0 0, t0, x1, .int .i64 0], s)).bind fun r12 =>
match r12.1 with
| .normal => some (AEx.normal, [(r12.2.1.getD 0 unk)], r12.2.2)
| .exit i => if i = 0 then some (AEx.normal, [(r12.2.1.getD 0 unk)], r12.2.2) else some (AEx.exit i, [(r12.2.1.getD 0 unk)], r12.2.2)
| .ret => some (AEx.ret, [(r12.2.1.getD 0 unk)], r12.2.2)).bind fun r13 =>
match r13.1 with
| .normal => j2 C L n0 ((r13.2.1.getD 0 unk)) r13.2.2
| .exit i => none
| .ret => fin PP false n0 [unk] r13.2.2
def T : Tab := ⟨fun i => if i = 3 then some [3, 6, 7, 8] else none, fun i => if i = 3 then some [3] else none, false, fun i => if i = 7 then some [3] else none, fun _ => false, false⟩
end twainlaw37_Raw
namespace twainref37_Fits
noncomputable def j1 (C : Am.Callee) (L : Loops) (n0 : Nat) (t0 t2 t7 t8 t9 t17 t18 t19 t38 : Value) (s : AS) : Option (AEx × List Value × AS) :=
bcase t38 (
some (AEx.ret, [t0, t2, .bool false, t7, t8, t9, t17, t18, t19], s)) (
some (AEx.normal, [t0, t2, unk, t7, t8, t9, t17, t18, t19], s))
noncomputable def j3 (C : Am.Callee) (L : Loops) (n0 : Nat) (t0 t2 t7 t8 t10 t17 t18 t19 t51 : Value) (s : AS) : Option (AEx × List Value × AS) :=
bcase t51 (
some (AEx.ret, [t0, t2, .bool false, t7, t8, t10, t17, t18, t19], s)) (
some (AEx.normal, [t0, t2, unk, t7, t8, t10, t17, t18, t19], s))
noncomputable def j7 (C : Am.Callee) (L : Loops) (n0 : Nat) (t0 t2 t7 t8 t10 t17 t18 t19 t56 t57 t58 t77 : Value) (s : AS) : Option (AEx × List Value × AS) :=
bcase t77 (
some (AEx.ret, [t0, t2, .bool false, t7, t8, t10, t17, t18, t19, t56, t57, t58], s)) (
some (AEx.normal, [t0, t2, unk, t7, t8, t10, t17, t18, t19, t56, t57, t58], s))
noncomputable def j8 (C : Am.Callee) (L : Loops) (n0 : Nat) (t0 t2 t7 t8 t10 t17 t18 t19 t56 t57 t58 : Value) (s : AS) : Option ((List Value × AS) ⊕ (AEx × List Value × AS)) :=
(aBin PP .add t_int (.tmp 58) (.const (.int .i64 1)) t58 (.int .i64 1)).bind fun x49 =>
some (.inl ([t0, t2, t7, t8, t10, t17, t18, t19, t56, t57, x49], s))
noncomputable def loop13 (C : Am.Callee) (L : Loops) (n0 : Nat) (t0 t2 t7 t8 t10 t17 t18 t19 t56 t57 t58 : Value) (s : AS) : Option ((List Value × AS) ⊕ (AEx × List Value × AS)) :=
(aBin PP .lss t_int (.tmp 58) (.tmp 57) t58 t57).bind fun x36 =>
bcase x36 (
((aIndexAddr PP t_L_twainref36_Op t56 t58).bind fun x37 =>
(aLoad true 19 s x37).bind fun x38 =>
(aBox t_twainref36_Op ((zeroP PP t_twainref36_Op).getD unk) s).bind fun r39 =>
(aStore 19 r39.2 r39.1 x38).bind fun s40 =>
(C n_twainref37_place [t2, t58] s40.H).bind fun r41 =>
((aLoad true 19 (AS.mk r41.2.1 (joinEsc s40.esc r41.2.2)) r39.1).bind fun x42 =>
(aLoad true 19 (AS.mk r41.2.1 (joinEsc s40.esc r41.2.2)) t10).bind fun x43 =>
(C n_twainref37_ahead [x42, x43] (AS.mk r41.2.1 (joinEsc s40.esc r41.2.2)).H).bind fun r44 =>
bcase r44.1 (
(aBin PP .lss t_int (.tmp 70) (.const (.int .i64 0)) r41.1 (.int .i64 0)).bind fun x45 =>
bcase x45 (
some (AEx.normal, [t0, t2, t7, t8, t10, t17, t18, t19, t56, t57, t58, .bool true], AS.mk r44.2.1 (joinEsc (AS.mk r41.2.1 (joinEsc s40.esc r41.2.2)).esc r44.2.2))) (
(aBin PP .gtr t_int (.tmp 73) (.tmp 74) r41.1 t8).bind fun x46 =>
some (AEx.normal, [t0, t2, t7, t8, t10, t17, t18, t19, t56, t57, t58, x46], AS.mk r44.2.1 (joinEsc (AS.mk r41.2.1 (joinEsc s40.esc r41.2.2)).esc r44.2.2)))) (
some (AEx.normal, [t0, t2, t7, t8, t10, t17, t18, t19, t56, t57, t58, .bool false], AS.mk r44.2.1 (joinEsc (AS.mk r41.2.1 (joinEsc s40.esc r41.2.2)).esc r44.2.2)))).bind fun r47 =>
match r47.1 with
| .normal => j7 C L n0 ((r47.2.1.getD 0 unk)) ((r47.2.1.getD 1 unk)) ((r47.2.1.getD 2 unk)) ((r47.2.1.getD 3 unk)) ((r47.2.1.getD 4 unk)) ((r47.2.1.getD 5 unk)) ((r47.2.1.getD 6 unk)) ((r47.2.1.getD 7 unk)) ((r47.2.1.getD 8 unk)) ((r47.2.1.getD 9 unk)) ((r47.2.1.getD 10 unk)) ((r47.2.1.getD 11 unk)) r47.2.2
| .exit i => if i = 3 then some (AEx.normal, [(r47.2.1.getD 0 unk), (r47.2.1.getD 1 unk), unk, (r47.2.1.getD 2 unk), (r47.2.1.getD 3 unk), (r47.2.1.getD 4 unk), (r47.2.1.getD 5 unk), (r47.2.1.getD 6 unk), (r47.2.1.getD 7 unk), (r47.2.1.getD 8 unk), (r47.2.1.getD 9 unk), (r47.2.1.getD 10 unk)], r47.2.2) else some (AEx.exit i, [(r47.2.1.getD 0 unk), (r47.2.1.getD 1 unk), unk, (r47.2.1.getD 2 unk), (r47.2.1.getD 3 unk), (r47.2.1.getD 4 unk), (r47.2.1.getD 5 unk), (r47.2.1.getD 6 unk), (r47.2.1.getD 7 unk), (r47.2.1.getD 8 unk), (r47.2.1.getD 9 unk), (r47.2.1.getD 10 unk)], r47.2.2)
| .ret => some (AEx.ret, [(r47.2.1.getD 0 unk), (r47.2.1.getD 1 unk), unk, (r47.2.1.getD 2 unk), (r47.2.1.getD 3 unk), (r47.2.1.getD 4 unk), (r47.2.1.getD 5 unk), (r47.2.1.getD 6 unk), (r47.2.1.getD 7 unk), (r47.2.1.getD 8 unk), (r47.2.1.getD 9 unk), (r47.2.1.getD 10 unk)], r47.2.2)).bind fun r48 =>
match r48.1 with
| .normal => j8 C L n0 ((r48.2.1.getD 0 unk)) ((r48.2.1.getD 1 unk)) ((r48.2.1.getD 3 unk)) ((r48.2.1.getD 4 unk)) ((r48.2.1.getD 5 unk)) ((r48.2.1.getD 6 unk)) ((r48.2.1.getD 7 unk)) ((r48.2.1.getD 8 unk)) ((r48.2.1.getD 9 unk)) ((r48.2.1.getD 10 unk)) ((r48.2.1.getD 11 unk)) r48.2.2
| .exit i => some (.inr (.exit i, [(r48.2.1.getD 0 unk), (r48.2.1.getD 1 unk), (r48.2.1.getD 2 unk), (r48.2.1.getD 3 unk), (r48.2.1.getD 6 unk), (r48.2.1.getD 7 unk), (r48.2.1.getD 8 unk)], r48.2.2))
| .ret => some (.inr (.ret, [(r48.2.1.getD 0 unk), (r48.2.1.getD 1 unk), (r48.2.1.getD 2 unk), (r48.2.1.getD 3 unk), (r48.2.1.getD 6 unk), (r48.2.1.getD 7 unk), (r48.2.1.getD 8 unk)], r48.2.2))) (
some (.inr (.exit 2, [t0, t2, unk, t7, t17, t18, t19], s)))
noncomputable def loop13s (C : Am.Callee) (L : Loops) (n0 : Nat) : List Value × AS → Option ((List Value × AS) ⊕ (AEx × List Value × AS)) := fun s => loop13 C L n0 (s.1.getD 0 unk) (s.1.getD 1 unk) (s.1.getD 2 unk) (s.1.getD 3 unk) (s.1.getD 4 unk) (s.1.getD 5 unk) (s.1.getD 6 unk) (s.1.getD 7 unk) (s.1.getD 8 unk) (s.1.getD 9 unk) (s.1.getD 10 unk) s.2
noncomputable def j5 (C : Am.Callee) (L : Loops) (n0 : Nat) (t0 t2 t7 t8 t10 t17 t18 t19 : Value) (s : AS) : Option (AEx × List Value × AS) :=
(aLen PP t_L_twainref36_Op t0 s).bind fun x35 =>
(L n0 (loop13s C L n0) ([t0, t2, t7, t8, t10, t17, t18, t19, t0, x35, .int .i64 0], s)).bind fun r50 =>
match r50.1 with
| .normal => some (AEx.normal, [(r50.2.1.getD 0 unk), (r50.2.1.getD 1 unk), (r50.2.1.getD 2 unk), (r50.2.1.getD 3 unk), (r50.2.1.getD 4 unk), (r50.2.1.getD 5 unk), (r50.2.1.getD 6 unk)], r50.2.2)
| .exit i => if i = 2 then some (AEx.normal, [(r50.2.1.getD 0 unk), (r50.2.1.getD 1 unk), (r50.2.1.getD 2 unk), (r50.2.1.getD 3 unk), (r50.2.1.getD 4 unk), (r50.2.1.getD 5 unk), (r50.2.1.getD 6 unk)], r50.2.2) else if i = 1 then some (AEx.normal, [(r50.2.1.getD 0 unk), (r50.2.1.getD 1 unk), (r50.2.1.getD 2 unk), (r50.2.1.getD 3 unk), (r50.2.1.getD 4 unk), (r50.2.1.getD 5 unk), (r50.2.1.getD 6 unk)], r50.2.2) else some (AEx.exit i, [(r50.2.1.getD 0 unk), (r50.2.1.getD 1 unk), (r50.2.1.getD 2 unk), (r50.2.1.getD 3 unk), (r50.2.1.getD 4 unk), (r50.2.1.getD 5 unk), (r50.2.1.getD 6 unk)], r50.2.2)
| .ret => some (AEx.ret, [(r50.2.1.getD 0 unk), (r50.2.1.getD 1 unk), (r50.2.1.getD 2 unk), (r50.2.1.getD 3 unk), (r50.2.1.getD 4 unk), (r50.2.1.getD 5 unk), (r50.2.1.getD 6 unk)], r50.2.2)
noncomputable def j4 (C : Am.Callee) (L : Loops) (n0 : Nat) (t0 t2 t7 t8 t10 t17 t18 t19 : Value) (s : AS) : Option (AEx × List Value × AS) :=
((aFieldAddr PP t_twainref36_Op t10 0).bind fun x29 =>
(aLoad false 1 s x29).bind fun x30 =>
bcase x30 (
(aFieldAddr PP t_twainref36_Op t10 1).bind fun x31 =>
(aLoad true 16 s x31).bind fun x32 =>
(aStore 16 s t7 x32).bind fun s33 =>
some (AEx.normal, [t0, t2, t7, t8, t10, t17, t18, t19], s33)) (
some (AEx.normal, [t0, t2, t7, t8, t10, t17, t18, t19], s))).bind fun r34 =>
match r34.1 with
| .normal => j5 C L n0 ((r34.2.1.getD 0 unk)) ((r34.2.1.getD 1 unk)) ((r34.2.1.getD 2 unk)) ((r34.2.1.getD 3 unk)) ((r34.2.1.getD 4 unk)) ((r34.2.1.getD 5 unk)) ((r34.2.1.getD 6 unk)) ((r34.2.1.getD 7 unk)) r34.2.2
| .exit i => if i = 1 then some (AEx.normal, [(r34.2.1.getD 0 unk), (r34.2.1.getD 1 unk), unk, (r34.2.1.getD 2 unk), (r34.2.1.getD 5 unk), (r34.2.1.getD 6 unk), (r34.2.1.getD 7 unk)], r34.2.2) else some (AEx.exit i, [(r34.2.1.getD 0 unk), (r34.2.1.getD 1 unk), unk, (r34.2.1.getD 2 unk), (r34.2.1.getD 5 unk), (r34.2.1.getD 6 unk), (r34.2.1.getD 7 unk)], r34.2.2)
| .ret => some (AEx.ret, [(r34.2.1.getD 0 unk), (r34.2.1.getD 1 unk), unk, (r34.2.1.getD 2 unk), (r34.2.1.getD 5 unk), (r34.2.1.getD 6 unk), (r34.2.1.getD 7 unk)], r34.2.2)
noncomputable def j2 (C : Am.Callee) (L : Loops) (n0 : Nat) (t0 t2 t7 t8 t9 t17 t18 t19 : Value) (s : AS) : Option (AEx × List Value × AS) :=
(aIndexAddr PP t_L_twainref36_Op t0 t9).bind fun x16 =>
(aLoad true 19 s x16).bind fun x17 =>
(aBox t_twainref36_Op ((zeroP PP t_twainref36_Op).getD unk) s).bind fun r18 =>
(aStore 19 r18.2 r18.1 x17).bind fun s19 =>
(((aFieldAddr PP t_twainref36_Op r18.1 0).bind fun x20 =>
(aLoad false 1 s19 x20).bind fun x21 =>
(aUn PP .not x21).bind fun x22 =>
bcase x22 (
(aFieldAddr PP t_twainref36_Op r18.1 1).bind fun x23 =>
(aLoad true 16 s19 x23).bind fun x24 =>
(aLoad true 16 s19 t7).bind fun x25 =>
(aBin PP .neq t_api_Sector (.tmp 48) (.tmp 49) x24 x25).bind fun x26 =>
some (AEx.normal, [t0, t2, t7, t8, r18.1, t17, t18, t19, x26], s19)) (
some (AEx.normal, [t0, t2, t7, t8, r18.1, t17, t18, t19, .bool false], s19))).bind fun r27 =>
match r27.1 with
| .normal => j3 C L n0 ((r27.2.1.getD 0 unk)) ((r27.2.1.getD 1 unk)) ((r27.2.1.getD 2 unk)) ((r27.2.1.getD 3 unk)) ((r27.2.1.getD 4 unk)) ((r27.2.1.getD 5 unk)) ((r27.2.1.getD 6 unk)) ((r27.2.1.getD 7 unk)) ((r27.2.1.getD 8 unk)) r27.2.2
| .exit i => some (AEx.exit i, [(r27.2.1.getD 0 unk), (r27.2.1.getD 1 unk), unk, (r27.2.1.getD 2 unk), (r27.2.1.getD 3 unk), (r27.2.1.getD 4 unk), (r27.2.1.getD 5 unk), (r27.2.1.getD 6 unk), (r27.2.1.getD 7 unk)], r27.2.2)
| .ret => some (AEx.ret, [(r27.2.1.getD 0 unk), (r27.2.1.getD 1 unk), unk, (r27.2.1.getD 2 unk), (r27.2.1.getD 3 unk), (r27.2.1.getD 4 unk), (r27.2.1.getD 5 unk), (r27.2.1.getD 6 unk), (r27.2.1.getD 7 unk)], r27.2.2)).bind fun r28 =>
match r28.1 with
| .normal => j4 C L n0 ((r28.2.1.getD 0 unk)) ((r28.2.1.getD 1 unk)) ((r28.2.1.getD 3 unk)) ((r28.2.1.getD 4 unk)) ((r28.2.1.getD 5 unk)) ((r28.2.1.getD 6 unk)) ((r28.2.1.getD 7 unk)) ((r28.2.1.getD 8 unk)) r28.2.2
| .exit i => if i = 1 then some (AEx.normal, [(r28.2.1.getD 0 unk), (r28.2.1.getD 1 unk), (r28.2.1.getD 2 unk), (r28.2.1.getD 3 unk), (r28.2.1.getD 6 unk), (r28.2.1.getD 7 unk), (r28.2.1.getD 8 unk)], r28.2.2) else some (AEx.exit i, [(r28.2.1.getD 0 unk), (r28.2.1.getD 1 unk), (r28.2.1.getD 2 unk), (r28.2.1.getD 3 unk), (r28.2.1.getD 6 unk), (r28.2.1.getD 7 unk), (r28.2.1.getD 8 unk)], r28.2.2)
| .ret => some (AEx.ret, [(r28.2.1.getD 0 unk), (r28.2.1.getD 1 unk), (r28.2.1.getD 2 unk), (r28.2.1.getD 3 unk), (r28.2.1.getD 6 unk), (r28.2.1.getD 7 unk), (r28.2.1.getD 8 unk)], r28.2.2)
noncomputable def j10 (C : Am.Callee) (L : Loops) (n0 : Nat) (t0 t2 t7 t17 t18 t19 : Value) (s : AS) : Option ((List Value × AS) ⊕ (AEx × List Value × AS)) :=
(aBin PP .add t_int (.tmp 19) (.const (.int .i64 1)) t19 (.int .i64 1)).bind fun x52 =>
some (.inl ([t0, t2, t7, t17, t18, x52], s))
noncomputable def loop3 (C : Am.Callee) (L : Loops) (n0 : Nat) (t0 t2 t7 t17 t18 t19 : Value) (s : AS) : Option ((List Value × AS) ⊕ (AEx × List Value × AS)) :=
(aBin PP .lss t_int (.tmp 19) (.tmp 18) t19 t18).bind fun x6 =>
bcase x6 (
((aIndexAddr PP t_L_int t17 t19).bind fun x7 =>
(aLoad false 1 s x7).bind fun x8 =>
(((aBin PP .lss t_int (.tmp 24) (.const (.int .i64 0)) x8 (.int .i64 0)).bind fun x9 =>
bcase x9 (
some (AEx.normal, [t0, t2, t7, t19, x8, t17, t18, t19, .bool true], s)) (
(aLen PP t_L_twainref36_Op t0 s).bind fun x10 =>
(aBin PP .geq t_int (.tmp 27) (.tmp 29) x8 x10).bind fun x11 =>
bcase x11 (
some (AEx.normal, [t0, t2, t7, t19, x8, t17, t18, t19, .bool true], s)) (
(C n_twainref37_place [t2, x8] s.H).bind fun r12 =>
(aBin PP .neq t_int (.tmp 35) (.tmp 36) r12.1 t19).bind fun x13 =>
some (AEx.normal, [t0, t2, t7, t19, x8, t17, t18, t19, x13], AS.mk r12.2.1 (joinEsc s.esc r12.2.2))))).bind fun r14 =>
match r14.1 with
| .normal => j1 C L n0 ((r14.2.1.getD 0 unk)) ((r14.2.1.getD 1 unk)) ((r14.2.1.getD 2 unk)) ((r14.2.1.getD 3 unk)) ((r14.2.1.getD 4 unk)) ((r14.2.1.getD 5 unk)) ((r14.2.1.getD 6 unk)) ((r14.2.1.getD 7 unk)) ((r14.2.1.getD 8 unk)) r14.2.2
| .exit i => some (AEx.exit i, [(r14.2.1.getD 0 unk), (r14.2.1.getD 1 unk), unk, (r14.2.1.getD 2 unk), (r14.2.1.getD 3 unk), (r14.2.1.getD 4 unk), (r14.2.1.getD 5 unk), (r14.2.1.getD 6 unk), (r14.2.1.getD 7 unk)], r14.2.2)
| .ret => some (AEx.ret, [(r14.2.1.getD 0 unk), (r14.2.1.getD 1 unk), unk, (r14.2.1.getD 2 unk), (r14.2.1.getD 3 unk), (r14.2.1.getD 4 unk), (r14.2.1.getD 5 unk), (r14.2.1.getD 6 unk), (r14.2.1.getD 7 unk)], r14.2.2)).bind fun r15 =>
match r15.1 with
| .normal => j2 C L n0 ((r15.2.1.getD 0 unk)) ((r15.2.1.getD 1 unk)) ((r15.2.1.getD 3 unk)) ((r15.2.1.getD 4 unk)) ((r15.2.1.getD 5 unk)) ((r15.2.1.getD 6 unk)) ((r15.2.1.getD 7 unk)) ((r15.2.1.getD 8 unk)) r15.2.2
| .exit i => if i = 1 then some (AEx.normal, [(r15.2.1.getD 0 unk), (r15.2.1.getD 1 unk), (r15.2.1.getD 2 unk), (r15.2.1.getD 3 unk), (r15.2.1.getD 6 unk), (r15.2.1.getD 7 unk), (r15.2.1.getD 8 unk)], r15.2.2) else some (AEx.exit i, [(r15.2.1.getD 0 unk), (r15.2.1.getD 1 unk), (r15.2.1.getD 2 unk), (r15.2.1.getD 3 unk), (r15.2.1.getD 6 unk), (r15.2.1.getD 7 unk), (r15.2.1.getD 8 unk)], r15.2.2)
| .ret => some (AEx.ret, [(r15.2.1.getD 0 unk), (r15.2.1.getD 1 unk), (r15.2.1.getD 2 unk), (r15.2.1.getD 3 unk), (r15.2.1.getD 6 unk), (r15.2.1.getD 7 unk), (r15.2.1.getD 8 unk)], r15.2.2)).bind fun r51 =>
match r51.1 with
| .normal => j10 C L n0 ((r51.2.1.getD 0 unk)) ((r51.2.1.getD 1 unk)) ((r51.2.1.getD 3 unk)) ((r51.2.1.getD 4 unk)) ((r51.2.1.getD 5 unk)) ((r51.2.1.getD 6 unk)) r51.2.2
| .exit i => some (.inr (.exit i, [(r51.2.1.getD 0 unk), (r51.2.1.getD 1 unk), (r51.2.1.getD 2 unk)], r51.2.2))
| .ret => some (.inr (.ret, [(r51.2.1.getD 0 unk), (r51.2.1.getD 1 unk), (r51.2.1.getD 2 unk)], r51.2.2))) (
some (.inr (.exit 0, [t0, t2, unk], s)))
noncomputable def loop3s (C : Am.Callee) (L : Loops) (n0 : Nat) : List Value × AS → Option ((List Value × AS) ⊕ (AEx × List Value × AS)) := fun s => loop3 C L n0 (s.1.getD 0 unk) (s.1.getD 1 unk) (s.1.getD 2 unk) (s.1.getD 3 unk) (s.1.getD 4 unk) (s.1.getD 5 unk) s.2
noncomputable def j14 (C : Am.Callee) (L : Loops) (n0 : Nat) (t2 t80 t81 t82 t94 : Value) (s : AS) : Option (AEx × List Value × AS) :=
bcase t94 (
some (AEx.ret, [t2, .bool false, t80, t81, t82], s)) (
some (AEx.normal, [t2, unk, t80, t81, t82], s))
noncomputable def j15 (C : Am.Callee) (L : Loops) (n0 : Nat) (t2 t80 t81 t82 : Value) (s : AS) : Option ((List Value × AS) ⊕ (AEx × List Value × AS)) :=
(aBin PP .add t_int (.tmp 82) (.const (.int .i64 1)) t82 (.int .i64 1)).bind fun x67 =>
some (.inl ([t2, t80, t81, x67], s))
noncomputable def loop21 (C : Am.Callee) (L : Loops) (n0 : Nat) (t2 t80 t81 t82 : Value) (s : AS) : Option ((List Value × AS) ⊕ (AEx × List Value × AS)) :=
(aBin PP .lss t_int (.tmp 82) (.tmp 81) t82 t81).bind fun x56 =>
bcase x56 (
((aIndexAddr PP t_L_twainref36_Op t80 t82).bind fun x57 =>
(aLoad true 19 s x57).bind fun x58 =>
(aBox t_twainref36_Op ((zeroP PP t_twainref36_Op).getD unk) s).bind fun r59 =>
(aStore 19 r59.2 r59.1 x58).bind fun s60 =>
((aLoad true 19 s60 r59.1).bind fun x61 =>
(C n_twainref37_must [x61] s60.H).bind fun r62 =>
bcase r62.1 (
(C n_twainref37_place [t2, t82] (AS.mk r62.2.1 (joinEsc s60.esc r62.2.2)).H).bind fun r63 =>
(aBin PP .lss t_int (.tmp 92) (.const (.int .i64 0)) r63.1 (.int .i64 0)).bind fun x64 =>
some (AEx.normal, [t2, t80, t81, t82, x64], AS.mk r63.2.1 (joinEsc (AS.mk r62.2.1 (joinEsc s60.esc r62.2.2)).esc r63.2.2))) (
some (AEx.normal, [t2, t80, t81, t82, .bool false], AS.mk r62.2.1 (joinEsc s60.esc r62.2.2)))).bind fun r65 =>
match r65.1 with
| .normal => j14 C L n0 ((r65.2.1.getD 0 unk)) ((r65.2.1.getD 1 unk)) ((r65.2.1.getD 2 unk)) ((r65.2.1.getD 3 unk)) ((r65.2.1.getD 4 unk)) r65.2.2
| .exit i => if i = 5 then some (AEx.normal, [(r65.2.1.getD 0 unk), unk, (r65.2.1.getD 1 unk), (r65.2.1.getD 2 unk), (r65.2.1.getD 3 unk)], r65.2.2) else some (AEx.exit i, [(r65.2.1.getD 0 unk), unk, (r65.2.1.getD 1 unk), (r65.2.1.getD 2 unk), (r65.2.1.getD 3 unk)], r65.2.2)
| .ret => some (AEx.ret, [(r65.2.1.getD 0 unk), unk, (r65.2.1.getD 1 unk), (r65.2.1.getD 2 unk), (r65.2.1.getD 3 unk)], r65.2.2)).bind fun r66 =>
match r66.1 with
| .normal => j15 C L n0 ((r66.2.1.getD 0 unk)) ((r66.2.1.getD 2 unk)) ((r66.2.1.getD 3 unk)) ((r66.2.1.getD 4 unk)) r66.2.2
| .exit i => some (.inr (.exit i, [(r66.2.1.getD 1 unk)], r66.2.2))
| .ret => some (.inr (.ret, [(r66.2.1.getD 1 unk)], r66.2.2))) (
some (.inr (.exit 4, [unk], s)))
noncomputable def loop21s (C : Am.Callee) (L : Loops) (n0 : Nat) : List Value × AS → Option ((List Value × AS) ⊕ (AEx × List Value × AS)) := fun s => loop21 C L n0 (s.1.getD 0 unk) (s.1.getD 1 unk) (s.1.getD 2 unk) (s.1.getD 3 unk) s.2
noncomputable def j17 (C : Am.Callee) (L : Loops) (n0 : Nat) (s : AS) : Option (Value × List Blk × Option Nat) :=
fin PP false n0 [.bool true] s
noncomputable def j12 (C : Am.Callee) (L : Loops) (n0 : Nat) (t0 t2 : Value) (s : AS) : Option (Value × List Blk × Option Nat) :=
((aLen PP t_L_twainref36_Op t0 s).bind fun x55 =>
(L n0 (loop21s C L n0) ([t2, t0, x55, .int .i64 0], s)).bind fun r68 =>
match r68.1 with
| .normal => some (AEx.normal, [(r68.2.1.getD 0 unk)], r68.2.2)
| .exit i => if i = 4 then some (AEx.normal, [(r68.2.1.getD 0 unk)], r68.2.2) else some (AEx.exit i, [(r68.2.1.getD 0 unk)], r68.2.2)
| .ret => some (AEx.ret, [(r68.2.1.getD 0 unk)], r68.2.2)).bind fun r69 =>
match r69.1 with
| .normal => j17 C L n0  r69.2.2
| .exit i => none
| .ret => fin PP false n0 [(r69.2.1.getD 0 unk)] r69.2.2
noncomputable def sh (C : Am.Callee) (L : Loops) (n0 : Nat) (t0 t1 t2 : Value) (s : AS) : Option (Value × List Blk × Option Nat) :=
(aBox t_api_Sector t1 s).bind fun r1 =>
(aLoad true 16 r1.2 r1.1).bind fun x2 =>
(aBox t_api_Sector ((zeroP PP t_api_Sector).getD unk) r1.2).bind fun r3 =>
(aStore 16 r3.2 r3.1 x2).bind fun s4 =>
((aLen PP t_L_int t2 s4).bind fun x5 =>
(L n0 (loop3s C L n0) ([t0, t2, r3.1, t2, x5, .int .i64 0], s4)).bind fun r53 =>
match r53.1 with
| .normal => some (AEx.normal, [(r53.2.1.getD 0 unk), (r53.2.1.getD 1 unk), (r53.2.1.getD 2 unk)], r53.2.2)
| .exit i => if i = 0 then some (AEx.normal, [(r53.2.1.getD 0 unk), (r53.2.1.getD 1 unk), (r53.2.1.getD 2 unk)], r53.2.2) else some (AEx.exit i, [(r53.2.1.getD 0 unk), (r53.2.1.getD 1 unk), (r53.2.1.getD 2 unk)], r53.2.2)
| .ret => some (AEx.ret, [(r53.2.1.getD 0 unk), (r53.2.1.getD 1 unk), (r53.2.1.getD 2 unk)], r53.2.2)).bind fun r54 =>
match r54.1 with
| .normal => j12 C L n0 ((r54.2.1.getD 0 unk)) ((r54.2.1.getD 1 unk)) r54.2.2
| .exit i => none
| .ret => fin PP false n0 [(r54.2.1.getD 2 unk)] r54.2.2
def T : Tab := ⟨fun i => if i = 3 then some [0, 2, 7, 17, 18, 19] else if i = 13 then some [0, 2, 7, 8, 10, 17, 18, 19, 56, 57, 58] else if i = 21 then some [2, 80, 81, 82] else none, fun i => if i = 3 then some [0, 2, 6] else if i = 13 then some [0, 2, 6, 7, 17, 18, 19] else if i = 21 then some [6] else none, false, fun i => if i = 6 then some [0, 2, 7, 8, 9, 17, 18, 19, 38] else if i = 7 then some [0, 2, 6, 7, 8, 9, 17, 18, 19] else if i = 9 then some [0, 2, 7, 8, 10, 17, 18, 19, 51] else if i = 10 then some [0, 2, 6, 7, 8, 10, 17, 18, 19] else if i = 12 then some [0, 2, 7, 8, 10, 17, 18, 19] else if i = 17 then some [0, 2, 7, 8, 10, 17, 18, 19, 56, 57, 58, 77] else if i = 18 then some [0, 2, 6, 7, 8, 10, 17, 18, 19, 56, 57, 58] else if i = 19 then some [0, 2, 6, 7, 17, 18, 19] else if i = 20 then some [0, 2, 6] else if i = 24 then some [2, 80, 81, 82, 94] else if i = 25 then some [2, 6, 80, 81, 82] else if i = 26 then some [6] else none, fun _ => false, false⟩
end twainref37_Fits
namespace register_Right
noncomputable def sh (C : Am.Callee) (L : Loops) (n0 : Nat) (t0 t1 : Value) (s : AS) : Option (Value × List Blk × Option Nat) :=
(aBox t_api_Sector t1 s).bind fun r1 =>
(aLen PP t_L_history_Op t0 r1.2).bind fun x2 =>
(aBin PP .gtr t_int (.tmp 9) (.const (.int .i64 60)) x2 (.int .i64 60)).bind fun x3 =>
bcase x3 (
fin PP false n0 [.bool false, .int .i64 11] r1.2) (
(aLoad true 16 r1.2 r1.1).bind fun x4 =>
(C n_register_Order [t0, x4] r1.2.H).bind fun r5 =>
(pureRun PP (Instr.extract r5.1 0)).bind fun x6 =>
(pureRun PP (Instr.extract r5.1 1)).bind fun x7 =>
fin PP false n0 [x7, .int .i64 0] (AS.mk r5.2.1 (joinEsc r1.2.esc r5.2.2)))
def T : Tab := ⟨fun i => none, fun i => none, false, fun i => none, fun _ => false, false⟩
end register_Right
namespace register_Order
noncomputable def sh (C : Am.Callee) (L : Loops) (n0 : Nat) (t0 t1 : Value) (s : AS) : Option (Value × List Blk × Option Nat) :=
(aBox t_api_Sector t1 s).bind fun r1 =>
(aLen PP t_L_history_Op t0 r1.2).bind fun x2 =>
(aBin PP .gtr t_int (.tmp 7) (.const (.int .i64 60)) x2 (.int .i64 60)).bind fun x3 =>
bcase x3 (
fin PP false n0 [.slice none 0 0, .bool false] r1.2) (
(aLoad true 16 r1.2 r1.1).bind fun x4 =>
(C n_register_begin [t0] r1.2.H).bind fun r5 =>
if ((((aLoad true 16 (AS.mk r5.2.1 (joinEsc r1.2.esc r5.2.2)) r1.1).bind fun x9 =>
some (veq x9 x4)) == some true) && true) = true then
(C n_P_register_hunt_find [r5.1, x4] (AS.mk r5.2.1 (joinEsc r1.2.esc r5.2.2)).H).bind fun r6 =>
(pureRun PP (Instr.extract r6.1 0)).bind fun x7 =>
(pureRun PP (Instr.extract r6.1 1)).bind fun x8 =>
fin PP false n0 [x7, x8] (AS.mk r6.2.1 (joinEsc (AS.mk r5.2.1 (joinEsc r1.2.esc r5.2.2)).esc r6.2.2))
else none)
def T : Tab := ⟨fun i => none, fun i => none, false, fun i => none, fun _ => false, false⟩
end register_Order
namespace twainref37_Order
noncomputable def sh (C : Am.Callee) (L : Loops) (n0 : Nat) (t0 t1 : Value) (s : AS) : Option (Value × List Blk × Option Nat) :=
(aBox t_api_Sector t1 s).bind fun r1 =>
(aBox t_int ((zeroP PP t_int).getD unk) r1.2).bind fun r2 =>
(aStore 1 r2.2 r2.1 (.int .i64 20000)).bind fun s3 =>
(aLoad true 16 s3 r1.1).bind fun x4 =>
(C n_twainref37_search [t0, .slice none 0 0, x4, r2.1] s3.H).bind fun r5 =>
(pureRun PP (Instr.extract r5.1 0)).bind fun x6 =>
(pureRun PP (Instr.extract r5.1 1)).bind fun x7 =>
bcase x7 (
fin PP false n0 [x6, x7, .bool true] (AS.mk r5.2.1 (joinEsc s3.esc r5.2.2))) (
(aLoad false 1 (AS.mk r5.2.1 (joinEsc s3.esc r5.2.2)) r2.1).bind fun x8 =>
(aBin PP .gtr t_int (.tmp 20) (.const (.int .i64 0)) x8 (.int .i64 0)).bind fun x9 =>
fin PP false n0 [x6, x7, x9] (AS.mk r5.2.1 (joinEsc s3.esc r5.2.2)))
def T : Tab := ⟨fun i => none, fun i => none, false, fun i => none, fun _ => false, false⟩
end twainref37_Order
namespace twainref37_place
noncomputable def loop2 (C : Am.Callee) (L : Loops) (n0 : Nat) (t1 t7 t8 t9 : Value) (s : AS) : Option ((List Value × AS) ⊕ (AEx × List Value × AS)) :=
(aBin PP .lss t_int (.tmp 9) (.tmp 8) t9 t8).bind fun x2 =>
bcase x2 (
(aIndexAddr PP t_L_int t7 t9).bind fun x3 =>
(aLoad false 1 s x3).bind fun x4 =>
(aBin PP .eql t_int (.tmp 14) (.tmp 15) x4 t1).bind fun x5 =>
bcase x5 (
some (.inr (.ret, [t9], s))) (
(aBin PP .add t_int (.tmp 9) (.const (.int .i64 1)) t9 (.int .i64 1)).bind fun x6 =>
some (.inl ([t1, t7, t8, x6], s)))) (
some (.inr (.exit 0, [unk], s)))
noncomputable def loop2s (C : Am.Callee) (L : Loops) (n0 : Nat) : List Value × AS → Option ((List Value × AS) ⊕ (AEx × List Value × AS)) := fun s => loop2 C L n0 (s.1.getD 0 unk) (s.1.getD 1 unk) (s.1.getD 2 unk) (s.1.getD 3 unk) s.2
noncomputable def j2 (C : Am.Callee) (L : Loops) (n0 : Nat) (s : AS) : Option (Value × List Blk × Option Nat) :=
fin PP false n0 [.int .i64 (-1)] s
noncomputable def sh (C : Am.Callee) (L : Loops) (n0 : Nat) (t0 t1 : Value) (s : AS) : Option (Value × List Blk × Option Nat) :=
((aLen PP t_L_int t0 s).bind fun x1 =>
(L n0 (loop2s C L n0) ([t1, t0, x1, .int .i64 0], s)).bind fun r7 =>
match r7.1 with
| .normal => some (AEx.normal, [(r7.2.1.getD 0 unk)], r7.2.2)
| .exit i => if i = 0 then some (AEx.normal, [(r7.2.1.getD 0 unk)], r7.2.2) else some (AEx.exit i, [(r7.2.1.getD 0 unk)], r7.2.2)
| .ret => some (AEx.ret, [(r7.2.1.getD 0 unk)], r7.2.2)).bind fun r8 =>
match r8.1 with
| .normal => j2 C L n0  r8.2.2
| .exit i => none
| .ret => fin PP false n0 [(r8.2.1.getD 0 unk)] r8.2.2
def T : Tab := ⟨fun i => if i = 2 then some [1, 7, 8, 9] else none, fun i => if i = 2 then some [4] else none, false, fun i => if i = 7 then some [4] else none, fun _ => false, false⟩
end twainref37_place
namespace twainref37_ahead
noncomputable def sh (C : Am.Callee) (L : Loops) (n0 : Nat) (t0 t1 : Value) (s : AS) : Option (Value × List Blk × Option Nat) :=
(aBox t_twainref36_Op t0 s).bind fun r1 =>
(aBox t_twainref36_Op t1 r1.2).bind fun r2 =>
(aFieldAddr PP t_twainref36_Op r1.1 3).bind fun x3 =>
(aLoad false 1 r2.2 x3).bind fun x4 =>
(aBin PP .geq t_int (.tmp 6) (.const (.int .i64 0)) x4 (.int .i64 0)).bind fun x5 =>
bcase x5 (
(aFieldAddr PP t_twainref36_Op r1.1 3).bind fun x6 =>
(aLoad false 1 r2.2 x6).bind fun x7 =>
(aFieldAddr PP t_twainref36_Op r2.1 2).bind fun x8 =>
(aLoad false 1 r2.2 x8).bind fun x9 =>
(aBin PP .lss t_int (.tmp 10) (.tmp 12) x7 x9).bind fun x10 =>
fin PP false n0 [x10] r2.2) (
fin PP false n0 [.bool false] r2.2)
def T : Tab := ⟨fun i => none, fun i => none, false, fun i => none, fun _ => false, false⟩
end twainref37_ahead
namespace twainref37_must
noncomputable def sh (C : Am.Callee) (L : Loops) (n0 : Nat) (t0 : Value) (s : AS) : Option (Value × List Blk × Option Nat) :=
(aBox t_twainref36_Op t0 s).bind fun r1 =>
(aFieldAddr PP t_twainref36_Op r1.1 0).bind fun x2 =>
(aLoad false 1 r1.2 x2).bind fun x3 =>
(aUn PP .not x3).bind fun x4 =>
bcase x4 (
fin PP false n0 [.bool true] r1.2) (
(aFieldAddr PP t_twainref36_Op r1.1 3).bind fun x5 =>
(aLoad false 1 r1.2 x5).bind fun x6 =>
(aBin PP .geq t_int (.tmp 8) (.const (.int .i64 0)) x6 (.int .i64 0)).bind fun x7 =>
fin PP false n0 [x7] r1.2)
def T : Tab := ⟨fun i => none, fun i => none, false, fun i => none, fun _ => false, false⟩
end twainref37_must
namespace register_begin
noncomputable def j1 (C : Am.Callee) (L : Loops) (n0 : Nat) (t0 t3 t4 t5 t13 t14 t15 t27 : Value) (s : AS) : Option (AEx × List Value × AS) :=
bcase t27 (
(aNil t3).bind fun x16 =>
(aFieldAddr PP t_register_hunt x16 1).bind fun x17 =>
(aLoad false 1 s x17).bind fun x18 =>
(aBin PP .shl t_uint64 (.const (.int .u64 1)) (.tmp 32) (.int .u64 1) t4).bind fun x19 =>
(aBin PP .or t_uint64 (.tmp 31) (.tmp 33) x18 x19).bind fun x20 =>
(aNil t3).bind fun x21 =>
(aFieldAddr PP t_register_hunt x21 1).bind fun x22 =>
(aStore 1 s x22 x20).bind fun s23 =>
some (AEx.normal, [t0, t3, t4, t5, t13, t14, t15], s23)) (
some (AEx.normal, [t0, t3, t4, t5, t13, t14, t15], s))
noncomputable def j4 (C : Am.Callee) (L : Loops) (n0 : Nat) (t0 t3 t4 t5 t6 t7 t13 t14 t15 t37 t38 t39 t58 : Value) (s : AS) : Option (AEx × List Value × AS) :=
bcase t58 (
(aBin PP .shl t_uint64 (.const (.int .u64 1)) (.tmp 60) (.int .u64 1) t7).bind fun x41 =>
(aBin PP .or t_uint64 (.tmp 59) (.tmp 61) t6 x41).bind fun x42 =>
some (AEx.normal, [t0, t3, t4, t5, x42, t13, t14, t15, t37, t38, t39], s)) (
some (AEx.normal, [t0, t3, t4, t5, t6, t13, t14, t15, t37, t38, t39], s))
noncomputable def j5 (C : Am.Callee) (L : Loops) (n0 : Nat) (t0 t3 t4 t5 t6 t13 t14 t15 t37 t38 t39 : Value) (s : AS) : Option ((List Value × AS) ⊕ (AEx × List Value × AS)) :=
(aBin PP .add t_int (.tmp 39) (.const (.int .i64 1)) t39 (.int .i64 1)).bind fun x44 =>
some (.inl ([t0, t3, t4, t5, t6, t13, t14, t15, t37, t38, x44], s))
noncomputable def loop9 (C : Am.Callee) (L : Loops) (n0 : Nat) (t0 t3 t4 t5 t6 t13 t14 t15 t37 t38 t39 : Value) (s : AS) : Option ((List Value × AS) ⊕ (AEx × List Value × AS)) :=
(aBin PP .lss t_int (.tmp 39) (.tmp 38) t39 t38).bind fun x26 =>
bcase x26 (
((aIndexAddr PP t_L_history_Op t37 t39).bind fun x27 =>
(aLoad true 19 s x27).bind fun x28 =>
(aBox t_history_Op ((zeroP PP t_history_Op).getD unk) s).bind fun r29 =>
(aStore 19 r29.2 r29.1 x28).bind fun s30 =>
((aBin PP .neq t_int (.tmp 44) (.tmp 45) t39 t4).bind fun x31 =>
bcase x31 (
(aFieldAddr PP t_history_Op r29.1 3).bind fun x32 =>
(aLoad false 1 s30 x32).bind fun x33 =>
(aBin PP .geq t_int (.tmp 49) (.const (.int .i64 0)) x33 (.int .i64 0)).bind fun x34 =>
bcase x34 (
(aFieldAddr PP t_history_Op r29.1 3).bind fun x35 =>
(aLoad false 1 s30 x35).bind fun x36 =>
(aFieldAddr PP t_history_Op t5 2).bind fun x37 =>
(aLoad false 1 s30 x37).bind fun x38 =>
(aBin PP .lss t_int (.tmp 54) (.tmp 56) x36 x38).bind fun x39 =>
some (AEx.normal, [t0, t3, t4, t5, t6, t39, t13, t14, t15, t37, t38, t39, x39], s30)) (
some (AEx.normal, [t0, t3, t4, t5, t6, t39, t13, t14, t15, t37, t38, t39, .bool false], s30))) (
some (AEx.normal, [t0, t3, t4, t5, t6, t39, t13, t14, t15, t37, t38, t39, .bool false], s30))).bind fun r40 =>
match r40.1 with
| .normal => j4 C L n0 ((r40.2.1.getD 0 unk)) ((r40.2.1.getD 1 unk)) ((r40.2.1.getD 2 unk)) ((r40.2.1.getD 3 unk)) ((r40.2.1.getD 4 unk)) ((r40.2.1.getD 5 unk)) ((r40.2.1.getD 6 unk)) ((r40.2.1.getD 7 unk)) ((r40.2.1.getD 8 unk)) ((r40.2.1.getD 9 unk)) ((r40.2.1.getD 10 unk)) ((r40.2.1.getD 11 unk)) ((r40.2.1.getD 12 unk)) r40.2.2
| .exit i => if i = 3 then some (AEx.normal, [(r40.2.1.getD 0 unk), (r40.2.1.getD 1 unk), (r40.2.1.getD 2 unk), (r40.2.1.getD 3 unk), (r40.2.1.getD 4 unk), (r40.2.1.getD 6 unk), (r40.2.1.getD 7 unk), (r40.2.1.getD 8 unk), (r40.2.1.getD 9 unk), (r40.2.1.getD 10 unk), (r40.2.1.getD 11 unk)], r40.2.2) else some (AEx.exit i, [(r40.2.1.getD 0 unk), (r40.2.1.getD 1 unk), (r40.2.1.getD 2 unk), (r40.2.1.getD 3 unk), (r40.2.1.getD 4 unk), (r40.2.1.getD 6 unk), (r40.2.1.getD 7 unk), (r40.2.1.getD 8 unk), (r40.2.1.getD 9 unk), (r40.2.1.getD 10 unk), (r40.2.1.getD 11 unk)], r40.2.2)
| .ret => some (AEx.ret, [(r40.2.1.getD 0 unk), (r40.2.1.getD 1 unk), (r40.2.1.getD 2 unk), (r40.2.1.getD 3 unk), (r40.2.1.getD 4 unk), (r40.2.1.getD 6 unk), (r40.2.1.getD 7 unk), (r40.2.1.getD 8 unk), (r40.2.1.getD 9 unk), (r40.2.1.getD 10 unk), (r40.2.1.getD 11 unk)], r40.2.2)).bind fun r43 =>
match r43.1 with
| .normal => j5 C L n0 ((r43.2.1.getD 0 unk)) ((r43.2.1.getD 1 unk)) ((r43.2.1.getD 2 unk)) ((r43.2.1.getD 3 unk)) ((r43.2.1.getD 4 unk)) ((r43.2.1.getD 5 unk)) ((r43.2.1.getD 6 unk)) ((r43.2.1.getD 7 unk)) ((r43.2.1.getD 8 unk)) ((r43.2.1.getD 9 unk)) ((r43.2.1.getD 10 unk)) r43.2.2
| .exit i => some (.inr (.exit i, [(r43.2.1.getD 0 unk), (r43.2.1.getD 1 unk), (r43.2.1.getD 4 unk), (r43.2.1.getD 5 unk), (r43.2.1.getD 6 unk), (r43.2.1.getD 7 unk)], r43.2.2))
| .ret => some (.inr (.ret, [(r43.2.1.getD 0 unk), (r43.2.1.getD 1 unk), (r43.2.1.getD 4 unk), (r43.2.1.getD 5 unk), (r43.2.1.getD 6 unk), (r43.2.1.getD 7 unk)], r43.2.2))) (
some (.inr (.exit 2, [t0, t3, t6, t13, t14, t15], s)))
noncomputable def loop9s (C : Am.Callee) (L : Loops) (n0 : Nat) : List Value × AS → Option ((List Value × AS) ⊕ (AEx × List Value × AS)) := fun s => loop9 C L n0 (s.1.getD 0 unk) (s.1.getD 1 unk) (s.1.getD 2 unk) (s.1.getD 3 unk) (s.1.getD 4 unk) (s.1.getD 5 unk) (s.1.getD 6 unk) (s.1.getD 7 unk) (s.1.getD 8 unk) (s.1.getD 9 unk) (s.1.getD 10 unk) s.2
noncomputable def j7 (C : Am.Callee) (L : Loops) (n0 : Nat) (t0 t3 t6 t13 t14 t15 : Value) (s : AS) : Option (AEx × List Value × AS) :=
(aNil t3).bind fun x47 =>
(aFieldAddr PP t_register_hunt x47 2).bind fun x48 =>
(aLoad false 1 s x48).bind fun x49 =>
(bsl PP t_L_uint64 1 [0] [t6] s).bind fun r50 =>
eBuiltin PP .append #[t_L_uint64, t_L_uint64] [x49, r50.1] r50.2 fun x51 s52 =>
(aNil t3).bind fun x53 =>
(aFieldAddr PP t_register_hunt x53 2).bind fun x54 =>
(aStore 1 s52 x54 x51).bind fun s55 =>
some (AEx.normal, [t0, t3, t13, t14, t15], s55)
noncomputable def j2 (C : Am.Callee) (L : Loops) (n0 : Nat) (t0 t3 t4 t5 t13 t14 t15 : Value) (s : AS) : Option (AEx × List Value × AS) :=
((aLen PP t_L_history_Op t0 s).bind fun x25 =>
(L n0 (loop9s C L n0) ([t0, t3, t4, t5, .int .u64 0, t13, t14, t15, t0, x25, .int .i64 0], s)).bind fun r45 =>
match r45.1 with
| .normal => some (AEx.normal, [(r45.2.1.getD 0 unk), (r45.2.1.getD 1 unk), (r45.2.1.getD 2 unk), (r45.2.1.getD 3 unk), (r45.2.1.getD 4 unk), (r45.2.1.getD 5 unk)], r45.2.2)
| .exit i => if i = 2 then some (AEx.normal, [(r45.2.1.getD 0 unk), (r45.2.1.getD 1 unk), (r45.2.1.getD 2 unk), (r45.2.1.getD 3 unk), (r45.2.1.getD 4 unk), (r45.2.1.getD 5 unk)], r45.2.2) else some (AEx.exit i, [(r45.2.1.getD 0 unk), (r45.2.1.getD 1 unk), (r45.2.1.getD 2 unk), (r45.2.1.getD 3 unk), (r45.2.1.getD 4 unk), (r45.2.1.getD 5 unk)], r45.2.2)
| .ret => some (AEx.ret, [(r45.2.1.getD 0 unk), (r45.2.1.getD 1 unk), (r45.2.1.getD 2 unk), (r45.2.1.getD 3 unk), (r45.2.1.getD 4 unk), (r45.2.1.getD 5 unk)], r45.2.2)).bind fun r46 =>
match r46.1 with
| .normal => j7 C L n0 ((r46.2.1.getD 0 unk)) ((r46.2.1.getD 1 unk)) ((r46.2.1.getD 2 unk)) ((r46.2.1.getD 3 unk)) ((r46.2.1.getD 4 unk)) ((r46.2.1.getD 5 unk)) r46.2.2
| .exit i => if i = 1 then some (AEx.normal, [(r46.2.1.getD 0 unk), (r46.2.1.getD 1 unk), (r46.2.1.getD 3 unk), (r46.2.1.getD 4 unk), (r46.2.1.getD 5 unk)], r46.2.2) else some (AEx.exit i, [(r46.2.1.getD 0 unk), (r46.2.1.getD 1 unk), (r46.2.1.getD 3 unk), (r46.2.1.getD 4 unk), (r46.2.1.getD 5 unk)], r46.2.2)
| .ret => some (AEx.ret, [(r46.2.1.getD 0 unk), (r46.2.1.getD 1 unk), (r46.2.1.getD 3 unk), (r46.2.1.getD 4 unk), (r46.2.1.getD 5 unk)], r46.2.2)
noncomputable def j8 (C : Am.Callee) (L : Loops) (n0 : Nat) (t0 t3 t13 t14 t15 : Value) (s : AS) : Option ((List Value × AS) ⊕ (AEx × List Value × AS)) :=
(aBin PP .add t_int (.tmp 15) (.const (.int .i64 1)) t15 (.int .i64 1)).bind fun x57 =>
some (.inl ([t0, t3, t13, t14, x57], s))
noncomputable def loop3 (C : Am.Callee) (L : Loops) (n0 : Nat) (t0 t3 t13 t14 t15 : Value) (s : AS) : Option ((List Value × AS) ⊕ (AEx × List Value × AS)) :=
(aBin PP .lss t_int (.tmp 15) (.tmp 14) t15 t14).bind fun x4 =>
bcase x4 (
((aIndexAddr PP t_L_history_Op t13 t15).bind fun x5 =>
(aLoad true 19 s x5).bind fun x6 =>
(aBox t_history_Op ((zeroP PP t_history_Op).getD unk) s).bind fun r7 =>
(aStore 19 r7.2 r7.1 x6).bind fun s8 =>
(((aFieldAddr PP t_history_Op r7.1 0).bind fun x9 =>
(aLoad false 1 s8 x9).bind fun x10 =>
(aUn PP .not x10).bind fun x11 =>
bcase x11 (
some (AEx.normal, [t0, t3, t15, r7.1, t13, t14, t15, .bool true], s8)) (
(aFieldAddr PP t_history_Op r7.1 3).bind fun x12 =>
(aLoad false 1 s8 x12).bind fun x13 =>
(aBin PP .geq t_int (.tmp 25) (.const (.int .i64 0)) x13 (.int .i64 0)).bind fun x14 =>
some (AEx.normal, [t0, t3, t15, r7.1, t13, t14, t15, x14], s8))).bind fun r15 =>
match r15.1 with
| .normal => j1 C L n0 ((r15.2.1.getD 0 unk)) ((r15.2.1.getD 1 unk)) ((r15.2.1.getD 2 unk)) ((r15.2.1.getD 3 unk)) ((r15.2.1.getD 4 unk)) ((r15.2.1.getD 5 unk)) ((r15.2.1.getD 6 unk)) ((r15.2.1.getD 7 unk)) r15.2.2
| .exit i => some (AEx.exit i, [(r15.2.1.getD 0 unk), (r15.2.1.getD 1 unk), (r15.2.1.getD 2 unk), (r15.2.1.getD 3 unk), (r15.2.1.getD 4 unk), (r15.2.1.getD 5 unk), (r15.2.1.getD 6 unk)], r15.2.2)
| .ret => some (AEx.ret, [(r15.2.1.getD 0 unk), (r15.2.1.getD 1 unk), (r15.2.1.getD 2 unk), (r15.2.1.getD 3 unk), (r15.2.1.getD 4 unk), (r15.2.1.getD 5 unk), (r15.2.1.getD 6 unk)], r15.2.2)).bind fun r24 =>
match r24.1 with
| .normal => j2 C L n0 ((r24.2.1.getD 0 unk)) ((r24.2.1.getD 1 unk)) ((r24.2.1.getD 2 unk)) ((r24.2.1.getD 3 unk)) ((r24.2.1.getD 4 unk)) ((r24.2.1.getD 5 unk)) ((r24.2.1.getD 6 unk)) r24.2.2
| .exit i => if i = 1 then some (AEx.normal, [(r24.2.1.getD 0 unk), (r24.2.1.getD 1 unk), (r24.2.1.getD 4 unk), (r24.2.1.getD 5 unk), (r24.2.1.getD 6 unk)], r24.2.2) else some (AEx.exit i, [(r24.2.1.getD 0 unk), (r24.2.1.getD 1 unk), (r24.2.1.getD 4 unk), (r24.2.1.getD 5 unk), (r24.2.1.getD 6 unk)], r24.2.2)
| .ret => some (AEx.ret, [(r24.2.1.getD 0 unk), (r24.2.1.getD 1 unk), (r24.2.1.getD 4 unk), (r24.2.1.getD 5 unk), (r24.2.1.getD 6 unk)], r24.2.2)).bind fun r56 =>
match r56.1 with
| .normal => j8 C L n0 ((r56.2.1.getD 0 unk)) ((r56.2.1.getD 1 unk)) ((r56.2.1.getD 2 unk)) ((r56.2.1.getD 3 unk)) ((r56.2.1.getD 4 unk)) r56.2.2
| .exit i => some (.inr (.exit i, [(r56.2.1.getD 1 unk)], r56.2.2))
| .ret => some (.inr (.ret, [(r56.2.1.getD 1 unk)], r56.2.2))) (
some (.inr (.exit 0, [t3], s)))
noncomputable def loop3s (C : Am.Callee) (L : Loops) (n0 : Nat) : List Value × AS → Option ((List Value × AS) ⊕ (AEx × List Value × AS)) := fun s => loop3 C L n0 (s.1.getD 0 unk) (s.1.getD 1 unk) (s.1.getD 2 unk) (s.1.getD 3 unk) (s.1.getD 4 unk) s.2
noncomputable def j10 (C : Am.Callee) (L : Loops) (n0 : Nat) (t3 : Value) (s : AS) : Option (Value × List Blk × Option Nat) :=
fin PP false n0 [t3] s
noncomputable def sh (C : Am.Callee) (L : Loops) (n0 : Nat) (t0 : Value) (s : AS) : Option (Value × List Blk × Option Nat) :=
(aBuild PP t_register_hunt [(0, t0), (3, .map (some s.H.length))]).bind fun x1 =>
(aBox t_register_hunt x1 (newBlk s (.map [] 0))).bind fun r2 =>
((aLen PP t_L_history_Op t0 r2.2).bind fun x3 =>
(L n0 (loop3s C L n0) ([t0, r2.1, t0, x3, .int .i64 0], r2.2)).bind fun r58 =>
match r58.1 with
| .normal => some (AEx.normal, [(r58.2.1.getD 0 unk)], r58.2.2)
| .exit i => if i = 0 then some (AEx.normal, [(r58.2.1.getD 0 unk)], r58.2.2) else some (AEx.exit i, [(r58.2.1.getD 0 unk)], r58.2.2)
| .ret => some (AEx.ret, [(r58.2.1.getD 0 unk)], r58.2.2)).bind fun r59 =>
match r59.1 with
| .normal => j10 C L n0 ((r59.2.1.getD 0 unk)) r59.2.2
| .exit i => none
| .ret => fin PP false n0 [unk] r59.2.2
def T : Tab := ⟨fun i => if i = 3 then some [0, 3, 13, 14, 15] else if i = 9 then some [0, 3, 4, 5, 6, 13, 14, 15, 37, 38, 39] else none, fun i => if i = 3 then some [3] else if i = 9 then some [0, 3, 6, 13, 14, 15] else none, false, fun i => if i = 6 then some [0, 3, 4, 5, 13, 14, 15, 27] else if i = 7 then some [0, 3, 4, 5, 13, 14, 15] else if i = 12 then some [0, 3, 4, 5, 6, 7, 13, 14, 15, 37, 38, 39, 58] else if i = 13 then some [0, 3, 4, 5, 6, 13, 14, 15, 37, 38, 39] else if i = 14 then some [0, 3, 6, 13, 14, 15] else if i = 15 then some [0, 3, 13, 14, 15] else if i = 16 then some [3] else none, fun _ => false, false⟩
end register_begin
namespace P_register_hunt_find
noncomputable def sh (C : Am.Callee) (L : Loops) (n0 : Nat) (t0 t1 : Value) (s : AS) : Option (Value × List Blk × Option Nat) :=
(aBox t_P_register_hunt t0 s).bind fun r1 =>
(aBox t_api_Sector t1 r1.2).bind fun r2 =>
(aBox t_L_int ((zeroP PP t_L_int).getD unk) r2.2).bind fun r3 =>
(aBox t_Fd15f66 ((zeroP PP t_Fd15f66).getD unk) r3.2).bind fun r4 =>
(aStore 1 r4.2 r4.1 (.func (.func n_P_register_hunt_find_1) (#[]) (#[r1.1, r3.1, r4.1]))).bind fun s5 =>
(aLoad false 1 s5 r4.1).bind fun x6 =>
(aLoad true 16 s5 r2.1).bind fun x7 =>
(aBuild PP t_register_state [(1, x7)]).bind fun x8 =>
(aFn PP x6 [x8]).bind fun g10 =>
(C g10.1 g10.2 s5.H).bind fun r9 =>
(aUn PP .not r9.1).bind fun x11 =>
bcase x11 (
fin PP false n0 [.slice none 0 0, .bool false] (AS.mk r9.2.1 (joinEsc s5.esc r9.2.2))) (
(aLoad false 1 (AS.mk r9.2.1 (joinEsc s5.esc r9.2.2)) r3.1).bind fun x12 =>
fin PP false n0 [x12, .bool true] (AS.mk r9.2.1 (joinEsc s5.esc r9.2.2)))
def T : Tab := ⟨fun i => none, fun i => none, false, fun i => none, fun _ => false, false⟩
end P_register_hunt_find
namespace twainref37_search
noncomputable def j1 (C : Am.Callee) (L : Loops) (n0 : Nat) (t0 t1 t3 t6 t10 t20 t21 t35 : Value) (s : AS) : Option (AEx × List Value × AS) :=
bcase t35 (
some (AEx.exit 1, [t0, t1, t3, t6, t10, t20, t21], s)) (
some (AEx.normal, [t0, t1, t3, t6, t10, t20, t21], s))
noncomputable def j3 (C : Am.Callee) (L : Loops) (n0 : Nat) (t0 t1 t3 t6 t10 t11 t20 t21 : Value) (s : AS) : Option (AEx × List Value × AS) :=
(bsl PP t_L_int 0 [] [] s).bind fun r28 =>
eBuiltin PP .append #[t_L_int, t_L_int] [r28.1, t1] r28.2 fun x29 s30 =>
(bsl PP t_L_int 1 [0] [t10] s30).bind fun r31 =>
eBuiltin PP .append #[t_L_int, t_L_int] [x29, r31.1] r31.2 fun x32 s33 =>
(aLoad true 16 s33 t11).bind fun x34 =>
(C n_twainref37_search [t0, x32, x34, t3] s33.H).bind fun r35 =>
(pureRun PP (Instr.extract r35.1 0)).bind fun x36 =>
(pureRun PP (Instr.extract r35.1 1)).bind fun x37 =>
bcase x37 (
some (AEx.ret, [t0, t1, t3, t6, x36, .bool true, t20, t21], AS.mk r35.2.1 (joinEsc s33.esc r35.2.2))) (
some (AEx.normal, [t0, t1, t3, t6, unk, unk, t20, t21], AS.mk r35.2.1 (joinEsc s33.esc r35.2.2)))
noncomputable def j2 (C : Am.Callee) (L : Loops) (n0 : Nat) (t0 t1 t3 t6 t10 t20 t21 : Value) (s : AS) : Option (AEx × List Value × AS) :=
(aNil t3).bind fun x12 =>
(aLoad false 1 s x12).bind fun x13 =>
(aBin PP .sub t_int (.tmp 38) (.const (.int .i64 1)) x13 (.int .i64 1)).bind fun x14 =>
(aNil t3).bind fun x15 =>
(aStore 1 s x15 x14).bind fun s16 =>
(aLoad true 16 s16 t6).bind fun x17 =>
(aBox t_api_Sector ((zeroP PP t_api_Sector).getD unk) s16).bind fun r18 =>
(aStore 16 r18.2 r18.1 x17).bind fun s19 =>
((aIndexAddr PP t_L_twainref36_Op t0 t10).bind fun x20 =>
(aFieldAddr PP t_twainref36_Op x20 0).bind fun x21 =>
(aLoad false 1 s19 x21).bind fun x22 =>
bcase x22 (
(aIndexAddr PP t_L_twainref36_Op t0 t10).bind fun x23 =>
(aFieldAddr PP t_twainref36_Op x23 1).bind fun x24 =>
(aLoad true 16 s19 x24).bind fun x25 =>
(aStore 16 s19 r18.1 x25).bind fun s26 =>
some (AEx.normal, [t0, t1, t3, t6, t10, r18.1, t20, t21], s26)) (
some (AEx.normal, [t0, t1, t3, t6, t10, r18.1, t20, t21], s19))).bind fun r27 =>
match r27.1 with
| .normal => j3 C L n0 ((r27.2.1.getD 0 unk)) ((r27.2.1.getD 1 unk)) ((r27.2.1.getD 2 unk)) ((r27.2.1.getD 3 unk)) ((r27.2.1.getD 4 unk)) ((r27.2.1.getD 5 unk)) ((r27.2.1.getD 6 unk)) ((r27.2.1.getD 7 unk)) r27.2.2
| .exit i => if i = 1 then some (AEx.normal, [(r27.2.1.getD 0 unk), (r27.2.1.getD 1 unk), (r27.2.1.getD 2 unk), (r27.2.1.getD 3 unk), unk, unk, (r27.2.1.getD 6 unk), (r27.2.1.getD 7 unk)], r27.2.2) else some (AEx.exit i, [(r27.2.1.getD 0 unk), (r27.2.1.getD 1 unk), (r27.2.1.getD 2 unk), (r27.2.1.getD 3 unk), unk, unk, (r27.2.1.getD 6 unk), (r27.2.1.getD 7 unk)], r27.2.2)
| .ret => some (AEx.ret, [(r27.2.1.getD 0 unk), (r27.2.1.getD 1 unk), (r27.2.1.getD 2 unk), (r27.2.1.getD 3 unk), unk, unk, (r27.2.1.getD 6 unk), (r27.2.1.getD 7 unk)], r27.2.2)
noncomputable def j4 (C : Am.Callee) (L : Loops) (n0 : Nat) (t0 t1 t3 t6 t20 t21 : Value) (s : AS) : Option ((List Value × AS) ⊕ (AEx × List Value × AS)) :=
(aBin PP .add t_int (.tmp 21) (.const (.int .i64 1)) t21 (.int .i64 1)).bind fun x39 =>
some (.inl ([t0, t1, t3, t6, t20, x39], s))
noncomputable def loop4 (C : Am.Callee) (L : Loops) (n0 : Nat) (t0 t1 t3 t6 t20 t21 : Value) (s : AS) : Option ((List Value × AS) ⊕ (AEx × List Value × AS)) :=
(aBin PP .lss t_int (.tmp 21) (.tmp 20) t21 t20).bind fun x4 =>
bcase x4 (
(((aNil t3).bind fun x5 =>
(aLoad false 1 s x5).bind fun x6 =>
(aBin PP .leq t_int (.tmp 26) (.const (.int .i64 0)) x6 (.int .i64 0)).bind fun x7 =>
bcase x7 (
j1 C L n0 t0 t1 t3 t6 t21 t20 t21 (.bool true) s) (
(aLoad true 16 s t6).bind fun x8 =>
(C n_twainref37_next [t0, t1, t21, x8] s.H).bind fun r9 =>
(aUn PP .not r9.1).bind fun x10 =>
j1 C L n0 t0 t1 t3 t6 t21 t20 t21 x10 (AS.mk r9.2.1 (joinEsc s.esc r9.2.2)))).bind fun r11 =>
match r11.1 with
| .normal => j2 C L n0 ((r11.2.1.getD 0 unk)) ((r11.2.1.getD 1 unk)) ((r11.2.1.getD 2 unk)) ((r11.2.1.getD 3 unk)) ((r11.2.1.getD 4 unk)) ((r11.2.1.getD 5 unk)) ((r11.2.1.getD 6 unk)) r11.2.2
| .exit i => if i = 1 then some (AEx.normal, [(r11.2.1.getD 0 unk), (r11.2.1.getD 1 unk), (r11.2.1.getD 2 unk), (r11.2.1.getD 3 unk), unk, unk, (r11.2.1.getD 5 unk), (r11.2.1.getD 6 unk)], r11.2.2) else some (AEx.exit i, [(r11.2.1.getD 0 unk), (r11.2.1.getD 1 unk), (r11.2.1.getD 2 unk), (r11.2.1.getD 3 unk), unk, unk, (r11.2.1.getD 5 unk), (r11.2.1.getD 6 unk)], r11.2.2)
| .ret => some (AEx.ret, [(r11.2.1.getD 0 unk), (r11.2.1.getD 1 unk), (r11.2.1.getD 2 unk), (r11.2.1.getD 3 unk), unk, unk, (r11.2.1.getD 5 unk), (r11.2.1.getD 6 unk)], r11.2.2)).bind fun r38 =>
match r38.1 with
| .normal => j4 C L n0 ((r38.2.1.getD 0 unk)) ((r38.2.1.getD 1 unk)) ((r38.2.1.getD 2 unk)) ((r38.2.1.getD 3 unk)) ((r38.2.1.getD 6 unk)) ((r38.2.1.getD 7 unk)) r38.2.2
| .exit i => some (.inr (.exit i, [(r38.2.1.getD 4 unk), (r38.2.1.getD 5 unk)], r38.2.2))
| .ret => some (.inr (.ret, [(r38.2.1.getD 4 unk), (r38.2.1.getD 5 unk)], r38.2.2))) (
some (.inr (.exit 0, [unk, unk], s)))
noncomputable def loop4s (C : Am.Callee) (L : Loops) (n0 : Nat) : List Value × AS → Option ((List Value × AS) ⊕ (AEx × List Value × AS)) := fun s => loop4 C L n0 (s.1.getD 0 unk) (s.1.getD 1 unk) (s.1.getD 2 unk) (s.1.getD 3 unk) (s.1.getD 4 unk) (s.1.getD 5 unk) s.2
noncomputable def j6 (C : Am.Callee) (L : Loops) (n0 : Nat) (s : AS) : Option (Value × List Blk × Option Nat) :=
fin PP false n0 [.slice none 0 0, .bool false] s
noncomputable def sh (C : Am.Callee) (L : Loops) (n0 : Nat) (t0 t1 t2 t3 : Value) (s : AS) : Option (Value × List Blk × Option Nat) :=
(aBox t_api_Sector t2 s).bind fun r1 =>
(C n_twainref37_whole [t0, t1] r1.2.H).bind fun r2 =>
bcase r2.1 (
fin PP false n0 [t1, .bool true] (AS.mk r2.2.1 (joinEsc r1.2.esc r2.2.2))) (
((aLen PP t_L_twainref36_Op t0 (AS.mk r2.2.1 (joinEsc r1.2.esc r2.2.2))).bind fun x3 =>
(L n0 (loop4s C L n0) ([t0, t1, t3, r1.1, x3, .int .i64 0], AS.mk r2.2.1 (joinEsc r1.2.esc r2.2.2))).bind fun r40 =>
match r40.1 with
| .normal => some (AEx.normal, [(r40.2.1.getD 0 unk), (r40.2.1.getD 1 unk)], r40.2.2)
| .exit i => if i = 0 then some (AEx.normal, [(r40.2.1.getD 0 unk), (r40.2.1.getD 1 unk)], r40.2.2) else some (AEx.exit i, [(r40.2.1.getD 0 unk), (r40.2.1.getD 1 unk)], r40.2.2)
| .ret => some (AEx.ret, [(r40.2.1.getD 0 unk), (r40.2.1.getD 1 unk)], r40.2.2)).bind fun r41 =>
match r41.1 with
| .normal => j6 C L n0  r41.2.2
| .exit i => none
| .ret => fin PP false n0 [(r41.2.1.getD 0 unk), (r41.2.1.getD 1 unk)] r41.2.2)
def T : Tab := ⟨fun i => if i = 4 then some [0, 1, 3, 6, 20, 21] else none, fun i => if i = 4 then some [8, 9] else none, false, fun i => if i = 7 then some [0, 1, 3, 6, 10, 20, 21] else if i = 11 then some [0, 1, 3, 6, 10, 11, 20, 21] else if i = 16 then some [0, 1, 3, 6, 8, 9, 20, 21] else if i = 17 then some [8, 9] else none, fun _ => false, false⟩
end twainref37_search
namespace P_register_hunt_find_1
noncomputable def j1 (C : Am.Callee) (L : Loops) (n0 : Nat) (t1 t4 t6 t46 t47 t48 t67 : Value) (s : AS) : Option (AEx × List Value × AS) :=
bcase t67 (
some (AEx.ret, [t1, t4, .bool true, t6, t46, t47, t48], s)) (
some (AEx.normal, [t1, t4, unk, t6, t46, t47, t48], s))
noncomputable def j2 (C : Am.Callee) (L : Loops) (n0 : Nat) (t1 t4 t6 t46 t47 t48 : Value) (s : AS) : Option ((List Value × AS) ⊕ (AEx × List Value × AS)) :=
(aBin PP .add t_int (.tmp 48) (.const (.int .i64 1)) t48 (.int .i64 1)).bind fun x52 =>
some (.inl ([t1, t4, t6, t46, t47, x52], s))
noncomputable def loop11 (C : Am.Callee) (L : Loops) (n0 : Nat) (t1 t4 t6 t46 t47 t48 : Value) (s : AS) : Option ((List Value × AS) ⊕ (AEx × List Value × AS)) :=
(aBin PP .lss t_int (.tmp 48) (.tmp 47) t48 t47).bind fun x36 =>
bcase x36 (
((aIndexAddr PP t_L_history_Op t46 t48).bind fun x37 =>
(aLoad true 19 s x37).bind fun x38 =>
(aBox t_history_Op ((zeroP PP t_history_Op).getD unk) s).bind fun r39 =>
(aStore 19 r39.2 r39.1 x38).bind fun s40 =>
((aFieldAddr PP t_history_Op r39.1 0).bind fun x41 =>
(aLoad false 1 s40 x41).bind fun x42 =>
bcase x42 (
(aLoad false 1 s40 t1).bind fun x43 =>
(aLoad true 17 s40 t4).bind fun x44 =>
(C n_P_register_hunt_may [x43, x44, t48] s40.H).bind fun r45 =>
bcase r45.1 (
(aFieldAddr PP t_history_Op r39.1 1).bind fun x46 =>
(aLoad true 16 (AS.mk r45.2.1 (joinEsc s40.esc r45.2.2)) x46).bind fun x47 =>
(aFn PP t6 [t48, x47]).bind fun g49 =>
(C g49.1 g49.2 (AS.mk r45.2.1 (joinEsc s40.esc r45.2.2)).H).bind fun r48 =>
some (AEx.normal, [t1, t4, t6, t46, t47, t48, r48.1], AS.mk r48.2.1 (joinEsc (AS.mk r45.2.1 (joinEsc s40.esc r45.2.2)).esc r48.2.2))) (
some (AEx.normal, [t1, t4, t6, t46, t47, t48, .bool false], AS.mk r45.2.1 (joinEsc s40.esc r45.2.2)))) (
some (AEx.normal, [t1, t4, t6, t46, t47, t48, .bool false], s40))).bind fun r50 =>
match r50.1 with
| .normal => j1 C L n0 ((r50.2.1.getD 0 unk)) ((r50.2.1.getD 1 unk)) ((r50.2.1.getD 2 unk)) ((r50.2.1.getD 3 unk)) ((r50.2.1.getD 4 unk)) ((r50.2.1.getD 5 unk)) ((r50.2.1.getD 6 unk)) r50.2.2
| .exit i => if i = 1 then some (AEx.normal, [(r50.2.1.getD 0 unk), (r50.2.1.getD 1 unk), unk, (r50.2.1.getD 2 unk), (r50.2.1.getD 3 unk), (r50.2.1.getD 4 unk), (r50.2.1.getD 5 unk)], r50.2.2) else some (AEx.exit i, [(r50.2.1.getD 0 unk), (r50.2.1.getD 1 unk), unk, (r50.2.1.getD 2 unk), (r50.2.1.getD 3 unk), (r50.2.1.getD 4 unk), (r50.2.1.getD 5 unk)], r50.2.2)
| .ret => some (AEx.ret, [(r50.2.1.getD 0 unk), (r50.2.1.getD 1 unk), unk, (r50.2.1.getD 2 unk), (r50.2.1.getD 3 unk), (r50.2.1.getD 4 unk), (r50.2.1.getD 5 unk)], r50.2.2)).bind fun r51 =>
match r51.1 with
| .normal => j2 C L n0 ((r51.2.1.getD 0 unk)) ((r51.2.1.getD 1 unk)) ((r51.2.1.getD 3 unk)) ((r51.2.1.getD 4 unk)) ((r51.2.1.getD 5 unk)) ((r51.2.1.getD 6 unk)) r51.2.2
| .exit i => some (.inr (.exit i, [(r51.2.1.getD 2 unk)], r51.2.2))
| .ret => some (.inr (.ret, [(r51.2.1.getD 2 unk)], r51.2.2))) (
some (.inr (.exit 0, [unk], s)))
noncomputable def loop11s (C : Am.Callee) (L : Loops) (n0 : Nat) : List Value × AS → Option ((List Value × AS) ⊕ (AEx × List Value × AS)) := fun s => loop11 C L n0 (s.1.getD 0 unk) (s.1.getD 1 unk) (s.1.getD 2 unk) (s.1.getD 3 unk) (s.1.getD 4 unk) (s.1.getD 5 unk) s.2
noncomputable def j4 (C : Am.Callee) (L : Loops) (n0 : Nat) (s : AS) : Option (Value × List Blk × Option Nat) :=
fin PP false n0 [.bool false] s
noncomputable def sh (C : Am.Callee) (L : Loops) (n0 : Nat) (t0 t1 t2 t3 : Value) (s : AS) : Option (Value × List Blk × Option Nat) :=
(aBox t_register_state t0 s).bind fun r1 =>
(aLoad false 1 r1.2 t1).bind fun x2 =>
(aNil x2).bind fun x3 =>
(aFieldAddr PP t_register_hunt x3 1).bind fun x4 =>
(aLoad false 1 r1.2 x4).bind fun x5 =>
(aFieldAddr PP t_register_state r1.1 0).bind fun x6 =>
(aLoad false 1 r1.2 x6).bind fun x7 =>
(aBin PP .andNot t_uint64 (.tmp 14) (.tmp 16) x5 x7).bind fun x8 =>
(aBin PP .eql t_uint64 (.tmp 17) (.const (.int .u64 0)) x8 (.int .u64 0)).bind fun x9 =>
bcase x9 (
fin PP false n0 [.bool true] r1.2) (
(aLoad false 1 r1.2 t1).bind fun x10 =>
(aNil x10).bind fun x11 =>
(aFieldAddr PP t_register_hunt x11 3).bind fun x12 =>
(aLoad false 1 r1.2 x12).bind fun x13 =>
(aLoad true 17 r1.2 r1.1).bind fun x14 =>
(aLookup PP t_M_register_state_bool x13 x14 false r1.2).bind fun x15 =>
bcase x15 (
fin PP false n0 [.bool false] r1.2) (
(aLoad false 1 r1.2 t1).bind fun x16 =>
(aNil x16).bind fun x17 =>
(aFieldAddr PP t_register_hunt x17 3).bind fun x18 =>
(aLoad false 1 r1.2 x18).bind fun x19 =>
(aLoad true 17 r1.2 r1.1).bind fun x20 =>
(aMapUpdate PP t_M_register_state_bool x19 x20 (.bool true) r1.2).bind fun s21 =>
(aLoad false 1 s21 t1).bind fun x22 =>
(aLoad true 17 s21 r1.1).bind fun x23 =>
(C n_P_register_hunt_read [x22, x23] s21.H).bind fun r24 =>
(pureRun PP (Instr.extract r24.1 0)).bind fun x25 =>
(pureRun PP (Instr.extract r24.1 1)).bind fun x26 =>
bcase x26 (
(aFieldAddr PP t_register_state r1.1 1).bind fun x27 =>
(aLoad true 16 (AS.mk r24.2.1 (joinEsc s21.esc r24.2.2)) x27).bind fun x28 =>
(aFn PP (.func (.func n_P_register_hunt_find_1_1) (#[]) (#[t2, t3, r1.1])) [x25, x28]).bind fun g30 =>
(C g30.1 g30.2 (AS.mk r24.2.1 (joinEsc s21.esc r24.2.2)).H).bind fun r29 =>
fin PP false n0 [r29.1] (AS.mk r29.2.1 (joinEsc (AS.mk r24.2.1 (joinEsc s21.esc r24.2.2)).esc r29.2.2))) (
((aLoad false 1 (AS.mk r24.2.1 (joinEsc s21.esc r24.2.2)) t1).bind fun x31 =>
(aNil x31).bind fun x32 =>
(aFieldAddr PP t_register_hunt x32 0).bind fun x33 =>
(aLoad false 1 (AS.mk r24.2.1 (joinEsc s21.esc r24.2.2)) x33).bind fun x34 =>
(aLen PP t_L_history_Op x34 (AS.mk r24.2.1 (joinEsc s21.esc r24.2.2))).bind fun x35 =>
(L n0 (loop11s C L n0) ([t1, r1.1, .func (.func n_P_register_hunt_find_1_1) (#[]) (#[t2, t3, r1.1]), x34, x35, .int .i64 0], AS.mk r24.2.1 (joinEsc s21.esc r24.2.2))).bind fun r53 =>
match r53.1 with
| .normal => some (AEx.normal, [(r53.2.1.getD 0 unk)], r53.2.2)
| .exit i => if i = 0 then some (AEx.normal, [(r53.2.1.getD 0 unk)], r53.2.2) else some (AEx.exit i, [(r53.2.1.getD 0 unk)], r53.2.2)
| .ret => some (AEx.ret, [(r53.2.1.getD 0 unk)], r53.2.2)).bind fun r54 =>
match r54.1 with
| .normal => j4 C L n0  r54.2.2
| .exit i => none
| .ret => fin PP false n0 [(r54.2.1.getD 0 unk)] r54.2.2)))
def T : Tab := ⟨fun i => if i = 11 then some [1, 4, 6, 46, 47, 48] else none, fun i => if i = 11 then some [5] else none, false, fun i => if i = 14 then some [1, 4, 6, 46, 47, 48, 67] else if i = 15 then some [1, 4, 5, 6, 46, 47, 48] else if i = 16 then some [5] else none, fun _ => false, false⟩
end P_register_hunt_find_1
namespace P_register_hunt_find_1_1
noncomputable def sh (C : Am.Callee) (L : Loops) (n0 : Nat) (t0 t1 t2 t3 t4 : Value) (s : AS) : Option (Value × List Blk × Option Nat) :=
(aBox t_api_Sector t1 s).bind fun r1 =>
(aLoad false 1 r1.2 t2).bind fun x2 =>
(bsl PP t_L_int 1 [0] [t0] r1.2).bind fun r3 =>
eBuiltin PP .append #[t_L_int, t_L_int] [x2, r3.1] r3.2 fun x4 s5 =>
(aStore 1 s5 t2 x4).bind fun s6 =>
(aLoad false 1 s6 t3).bind fun x7 =>
(aFieldAddr PP t_register_state t4 0).bind fun x8 =>
(aLoad false 1 s6 x8).bind fun x9 =>
(aBin PP .shl t_uint64 (.const (.int .u64 1)) (.tmp 15) (.int .u64 1) t0).bind fun x10 =>
(aBin PP .or t_uint64 (.tmp 14) (.tmp 16) x9 x10).bind fun x11 =>
(aLoad true 16 s6 r1.1).bind fun x12 =>
(aBuild PP t_register_state [(0, x11), (1, x12)]).bind fun x13 =>
(aFn PP x7 [x13]).bind fun g15 =>
(C g15.1 g15.2 s6.H).bind fun r14 =>
bcase r14.1 (
fin PP false n0 [.bool true] (AS.mk r14.2.1 (joinEsc s6.esc r14.2.2))) (
(aLoad false 1 (AS.mk r14.2.1 (joinEsc s6.esc r14.2.2)) t2).bind fun x16 =>
(aLoad false 1 (AS.mk r14.2.1 (joinEsc s6.esc r14.2.2)) t2).bind fun x17 =>
(aLen PP t_L_int x17 (AS.mk r14.2.1 (joinEsc s6.esc r14.2.2))).bind fun x18 =>
(aBin PP .sub t_int (.tmp 23) (.const (.int .i64 1)) x18 (.int .i64 1)).bind fun x19 =>
(aSlice PP t_L_int x16 none (some x19) none (AS.mk r14.2.1 (joinEsc s6.esc r14.2.2))).bind fun x20 =>
(aStore 1 (AS.mk r14.2.1 (joinEsc s6.esc r14.2.2)) t2 x20).bind fun s21 =>
fin PP false n0 [.bool false] s21)
def T : Tab := ⟨fun i => none, fun i => none, false, fun i => none, fun _ => false, false⟩
end P_register_hunt_find_1_1
namespace P_register_hunt_read
noncomputable def j1 (C : Am.Callee) (L : Loops) (n0 : Nat) (t0 t3 t6 t11 t12 t13 t33 : Value) (s : AS) : Option (AEx × List Value × AS) :=
bcase t33 (
some (AEx.ret, [t0, t3, t6, .bool true, t11, t12, t13], s)) (
some (AEx.normal, [t0, t3, unk, unk, t11, t12, t13], s))
noncomputable def j2 (C : Am.Callee) (L : Loops) (n0 : Nat) (t0 t3 t11 t12 t13 : Value) (s : AS) : Option ((List Value × AS) ⊕ (AEx × List Value × AS)) :=
(aBin PP .add t_int (.tmp 13) (.const (.int .i64 1)) t13 (.int .i64 1)).bind fun x23 =>
some (.inl ([t0, t3, t11, t12, x23], s))
noncomputable def loop2 (C : Am.Callee) (L : Loops) (n0 : Nat) (t0 t3 t11 t12 t13 : Value) (s : AS) : Option ((List Value × AS) ⊕ (AEx × List Value × AS)) :=
(aBin PP .lss t_int (.tmp 13) (.tmp 12) t13 t12).bind fun x6 =>
bcase x6 (
((aIndexAddr PP t_L_history_Op t11 t13).bind fun x7 =>
(aLoad true 19 s x7).bind fun x8 =>
(aBox t_history_Op ((zeroP PP t_history_Op).getD unk) s).bind fun r9 =>
(aStore 19 r9.2 r9.1 x8).bind fun s10 =>
((aFieldAddr PP t_history_Op r9.1 0).bind fun x11 =>
(aLoad false 1 s10 x11).bind fun x12 =>
(aUn PP .not x12).bind fun x13 =>
bcase x13 (
(aFieldAddr PP t_history_Op r9.1 1).bind fun x14 =>
(aLoad true 16 s10 x14).bind fun x15 =>
(aFieldAddr PP t_register_state t3 1).bind fun x16 =>
(aLoad true 16 s10 x16).bind fun x17 =>
(aBin PP .eql t_api_Sector (.tmp 23) (.tmp 25) x15 x17).bind fun x18 =>
bcase x18 (
(aLoad true 17 s10 t3).bind fun x19 =>
(C n_P_register_hunt_may [t0, x19, t13] s10.H).bind fun r20 =>
some (AEx.normal, [t0, t3, t13, t11, t12, t13, r20.1], AS.mk r20.2.1 (joinEsc s10.esc r20.2.2))) (
some (AEx.normal, [t0, t3, t13, t11, t12, t13, .bool false], s10))) (
some (AEx.normal, [t0, t3, t13, t11, t12, t13, .bool false], s10))).bind fun r21 =>
match r21.1 with
| .normal => j1 C L n0 ((r21.2.1.getD 0 unk)) ((r21.2.1.getD 1 unk)) ((r21.2.1.getD 2 unk)) ((r21.2.1.getD 3 unk)) ((r21.2.1.getD 4 unk)) ((r21.2.1.getD 5 unk)) ((r21.2.1.getD 6 unk)) r21.2.2
| .exit i => if i = 1 then some (AEx.normal, [(r21.2.1.getD 0 unk), (r21.2.1.getD 1 unk), unk, unk, (r21.2.1.getD 3 unk), (r21.2.1.getD 4 unk), (r21.2.1.getD 5 unk)], r21.2.2) else some (AEx.exit i, [(r21.2.1.getD 0 unk), (r21.2.1.getD 1 unk), unk, unk, (r21.2.1.getD 3 unk), (r21.2.1.getD 4 unk), (r21.2.1.getD 5 unk)], r21.2.2)
| .ret => some (AEx.ret, [(r21.2.1.getD 0 unk), (r21.2.1.getD 1 unk), unk, unk, (r21.2.1.getD 3 unk), (r21.2.1.getD 4 unk), (r21.2.1.getD 5 unk)], r21.2.2)).bind fun r22 =>
match r22.1 with
| .normal => j2 C L n0 ((r22.2.1.getD 0 unk)) ((r22.2.1.getD 1 unk)) ((r22.2.1.getD 4 unk)) ((r22.2.1.getD 5 unk)) ((r22.2.1.getD 6 unk)) r22.2.2
| .exit i => some (.inr (.exit i, [(r22.2.1.getD 2 unk), (r22.2.1.getD 3 unk)], r22.2.2))
| .ret => some (.inr (.ret, [(r22.2.1.getD 2 unk), (r22.2.1.getD 3 unk)], r22.2.2))) (
some (.inr (.exit 0, [unk, unk], s)))
noncomputable def loop2s (C : Am.Callee) (L : Loops) (n0 : Nat) : List Value × AS → Option ((List Value × AS) ⊕ (AEx × List Value × AS)) := fun s => loop2 C L n0 (s.1.getD 0 unk) (s.1.getD 1 unk) (s.1.getD 2 unk) (s.1.getD 3 unk) (s.1.getD 4 unk) s.2
noncomputable def j4 (C : Am.Callee) (L : Loops) (n0 : Nat) (s : AS) : Option (Value × List Blk × Option Nat) :=
fin PP false n0 [.int .i64 0, .bool false] s
noncomputable def sh (C : Am.Callee) (L : Loops) (n0 : Nat) (t0 t1 : Value) (s : AS) : Option (Value × List Blk × Option Nat) :=
(aBox t_register_state t1 s).bind fun r1 =>
((aNil t0).bind fun x2 =>
(aFieldAddr PP t_register_hunt x2 0).bind fun x3 =>
(aLoad false 1 r1.2 x3).bind fun x4 =>
(aLen PP t_L_history_Op x4 r1.2).bind fun x5 =>
(L n0 (loop2s C L n0) ([t0, r1.1, x4, x5, .int .i64 0], r1.2)).bind fun r24 =>
match r24.1 with
| .normal => some (AEx.normal, [(r24.2.1.getD 0 unk), (r24.2.1.getD 1 unk)], r24.2.2)
| .exit i => if i = 0 then some (AEx.normal, [(r24.2.1.getD 0 unk), (r24.2.1.getD 1 unk)], r24.2.2) else some (AEx.exit i, [(r24.2.1.getD 0 unk), (r24.2.1.getD 1 unk)], r24.2.2)
| .ret => some (AEx.ret, [(r24.2.1.getD 0 unk), (r24.2.1.getD 1 unk)], r24.2.2)).bind fun r25 =>
match r25.1 with
| .normal => j4 C L n0  r25.2.2
| .exit i => none
| .ret => fin PP false n0 [(r25.2.1.getD 0 unk), (r25.2.1.getD 1 unk)] r25.2.2
def T : Tab := ⟨fun i => if i = 2 then some [0, 3, 11, 12, 13] else none, fun i => if i = 2 then some [4, 5] else none, false, fun i => if i = 5 then some [0, 3, 6, 11, 12, 13, 33] else if i = 6 then some [0, 3, 4, 5, 11, 12, 13] else if i = 7 then some [4, 5] else none, fun _ => false, false⟩
end P_register_hunt_read
namespace P_register_hunt_may
noncomputable def sh (C : Am.Callee) (L : Loops) (n0 : Nat) (t0 t1 t2 : Value) (s : AS) : Option (Value × List Blk × Option Nat) :=
(aBox t_register_state t1 s).bind fun r1 =>
(aFieldAddr PP t_register_state r1.1 0).bind fun x2 =>
(aLoad false 1 r1.2 x2).bind fun x3 =>
(aBin PP .shr t_uint64 (.tmp 8) (.tmp 9) x3 t2).bind fun x4 =>
(aBin PP .and t_uint64 (.tmp 10) (.const (.int .u64 1)) x4 (.int .u64 1)).bind fun x5 =>
(aBin PP .eql t_uint64 (.tmp 11) (.const (.int .u64 0)) x5 (.int .u64 0)).bind fun x6 =>
bcase x6 (
(aNil t0).bind fun x7 =>
(aFieldAddr PP t_register_hunt x7 2).bind fun x8 =>
(aLoad false 1 r1.2 x8).bind fun x9 =>
(aIndexAddr PP t_L_uint64 x9 t2).bind fun x10 =>
(aLoad false 1 r1.2 x10).bind fun x11 =>
(aFieldAddr PP t_register_state r1.1 0).bind fun x12 =>
(aLoad false 1 r1.2 x12).bind fun x13 =>
(aBin PP .andNot t_uint64 (.tmp 20) (.tmp 22) x11 x13).bind fun x14 =>
(aBin PP .eql t_uint64 (.tmp 23) (.const (.int .u64 0)) x14 (.int .u64 0)).bind fun x15 =>
fin PP false n0 [x15] r1.2) (
fin PP false n0 [.bool false] r1.2)
def T : Tab := ⟨fun i => none, fun i => none, false, fun i => none, fun _ => false, false⟩
end P_register_hunt_may
namespace twainref37_whole
noncomputable def j1 (C : Am.Callee) (L : Loops) (n0 : Nat) (t1 t7 t8 t9 t21 : Value) (s : AS) : Option (AEx × List Value × AS) :=
bcase t21 (
some (AEx.ret, [t1, .bool false, t7, t8, t9], s)) (
some (AEx.normal, [t1, unk, t7, t8, t9], s))
noncomputable def j2 (C : Am.Callee) (L : Loops) (n0 : Nat) (t1 t7 t8 t9 : Value) (s : AS) : Option ((List Value × AS) ⊕ (AEx × List Value × AS)) :=
(aBin PP .add t_int (.tmp 9) (.const (.int .i64 1)) t9 (.int .i64 1)).bind fun x13 =>
some (.inl ([t1, t7, t8, x13], s))
noncomputable def loop2 (C : Am.Callee) (L : Loops) (n0 : Nat) (t1 t7 t8 t9 : Value) (s : AS) : Option ((List Value × AS) ⊕ (AEx × List Value × AS)) :=
(aBin PP .lss t_int (.tmp 9) (.tmp 8) t9 t8).bind fun x2 =>
bcase x2 (
((aIndexAddr PP t_L_twainref36_Op t7 t9).bind fun x3 =>
(aLoad true 19 s x3).bind fun x4 =>
(aBox t_twainref36_Op ((zeroP PP t_twainref36_Op).getD unk) s).bind fun r5 =>
(aStore 19 r5.2 r5.1 x4).bind fun s6 =>
((aLoad true 19 s6 r5.1).bind fun x7 =>
(C n_twainref37_must [x7] s6.H).bind fun r8 =>
bcase r8.1 (
(C n_twainref37_place [t1, t9] (AS.mk r8.2.1 (joinEsc s6.esc r8.2.2)).H).bind fun r9 =>
(aBin PP .lss t_int (.tmp 19) (.const (.int .i64 0)) r9.1 (.int .i64 0)).bind fun x10 =>
some (AEx.normal, [t1, t7, t8, t9, x10], AS.mk r9.2.1 (joinEsc (AS.mk r8.2.1 (joinEsc s6.esc r8.2.2)).esc r9.2.2))) (
some (AEx.normal, [t1, t7, t8, t9, .bool false], AS.mk r8.2.1 (joinEsc s6.esc r8.2.2)))).bind fun r11 =>
match r11.1 with
| .normal => j1 C L n0 ((r11.2.1.getD 0 unk)) ((r11.2.1.getD 1 unk)) ((r11.2.1.getD 2 unk)) ((r11.2.1.getD 3 unk)) ((r11.2.1.getD 4 unk)) r11.2.2
| .exit i => if i = 1 then some (AEx.normal, [(r11.2.1.getD 0 unk), unk, (r11.2.1.getD 1 unk), (r11.2.1.getD 2 unk), (r11.2.1.getD 3 unk)], r11.2.2) else some (AEx.exit i, [(r11.2.1.getD 0 unk), unk, (r11.2.1.getD 1 unk), (r11.2.1.getD 2 unk), (r11.2.1.getD 3 unk)], r11.2.2)
| .ret => some (AEx.ret, [(r11.2.1.getD 0 unk), unk, (r11.2.1.getD 1 unk), (r11.2.1.getD 2 unk), (r11.2.1.getD 3 unk)], r11.2.2)).bind fun r12 =>
match r12.1 with
| .normal => j2 C L n0 ((r12.2.1.getD 0 unk)) ((r12.2.1.getD 2 unk)) ((r12.2.1.getD 3 unk)) ((r12.2.1.getD 4 unk)) r12.2.2
| .exit i => some (.inr (.exit i, [(r12.2.1.getD 1 unk)], r12.2.2))
| .ret => some (.inr (.ret, [(r12.2.1.getD 1 unk)], r12.2.2))) (
some (.inr (.exit 0, [unk], s)))
noncomputable def loop2s (C : Am.Callee) (L : Loops) (n0 : Nat) : List Value × AS → Option ((List Value × AS) ⊕ (AEx × List Value × AS)) := fun s => loop2 C L n0 (s.1.getD 0 unk) (s.1.getD 1 unk) (s.1.getD 2 unk) (s.1.getD 3 unk) s.2
noncomputable def j4 (C : Am.Callee) (L : Loops) (n0 : Nat) (s : AS) : Option (Value × List Blk × Option Nat) :=
fin PP false n0 [.bool true] s
noncomputable def sh (C : Am.Callee) (L : Loops) (n0 : Nat) (t0 t1 : Value) (s : AS) : Option (Value × List Blk × Option Nat) :=
((aLen PP t_L_twainref36_Op t0 s).bind fun x1 =>
(L n0 (loop2s C L n0) ([t1, t0, x1, .int .i64 0], s)).bind fun r14 =>
match r14.1 with
| .normal => some (AEx.normal, [(r14.2.1.getD 0 unk)], r14.2.2)
| .exit i => if i = 0 then some (AEx.normal, [(r14.2.1.getD 0 unk)], r14.2.2) else some (AEx.exit i, [(r14.2.1.getD 0 unk)], r14.2.2)
| .ret => some (AEx.ret, [(r14.2.1.getD 0 unk)], r14.2.2)).bind fun r15 =>
match r15.1 with
| .normal => j4 C L n0  r15.2.2
| .exit i => none
| .ret => fin PP false n0 [(r15.2.1.getD 0 unk)] r15.2.2
def T : Tab := ⟨fun i => if i = 2 then some [1, 7, 8, 9] else none, fun i => if i = 2 then some [4] else none, false, fun i => if i = 5 then some [1, 7, 8, 9, 21] else if i = 6 then some [1, 4, 7, 8, 9] else if i = 7 then some [4] else none, fun _ => false, false⟩
end twainref37_whole
namespace twainref37_next
noncomputable def j0 (C : Am.Callee) (L : Loops) (n0 : Nat) (t0 t1 t2 t31 : Value) (s : AS) : Option (AEx × List Value × AS) :=
bcase t31 (
some (AEx.ret, [t0, t1, t2, .bool false], s)) (
some (AEx.normal, [t0, t1, t2, unk], s))
noncomputable def j3 (C : Am.Callee) (L : Loops) (n0 : Nat) (t0 t1 t2 t32 t33 t34 t55 : Value) (s : AS) : Option (AEx × List Value × AS) :=
bcase t55 (
some (AEx.ret, [t0, t1, t2, .bool false, t32, t33, t34], s)) (
some (AEx.normal, [t0, t1, t2, unk, t32, t33, t34], s))
noncomputable def j4 (C : Am.Callee) (L : Loops) (n0 : Nat) (t0 t1 t2 t32 t33 t34 : Value) (s : AS) : Option ((List Value × AS) ⊕ (AEx × List Value × AS)) :=
(aBin PP .add t_int (.tmp 34) (.const (.int .i64 1)) t34 (.int .i64 1)).bind fun x30 =>
some (.inl ([t0, t1, t2, t32, t33, x30], s))
noncomputable def loop4 (C : Am.Callee) (L : Loops) (n0 : Nat) (t0 t1 t2 t32 t33 t34 : Value) (s : AS) : Option ((List Value × AS) ⊕ (AEx × List Value × AS)) :=
(aBin PP .lss t_int (.tmp 34) (.tmp 33) t34 t33).bind fun x16 =>
bcase x16 (
((aIndexAddr PP t_L_twainref36_Op t32 t34).bind fun x17 =>
(aLoad true 19 s x17).bind fun x18 =>
(aBox t_twainref36_Op ((zeroP PP t_twainref36_Op).getD unk) s).bind fun r19 =>
(aStore 19 r19.2 r19.1 x18).bind fun s20 =>
((aBin PP .neq t_int (.tmp 39) (.tmp 40) t34 t2).bind fun x21 =>
bcase x21 (
(aLoad true 19 s20 r19.1).bind fun x22 =>
(aIndexAddr PP t_L_twainref36_Op t0 t2).bind fun x23 =>
(aLoad true 19 s20 x23).bind fun x24 =>
(C n_twainref37_ahead [x22, x24] s20.H).bind fun r25 =>
bcase r25.1 (
(C n_twainref37_place [t1, t34] (AS.mk r25.2.1 (joinEsc s20.esc r25.2.2)).H).bind fun r26 =>
(aBin PP .lss t_int (.tmp 53) (.const (.int .i64 0)) r26.1 (.int .i64 0)).bind fun x27 =>
some (AEx.normal, [t0, t1, t2, t32, t33, t34, x27], AS.mk r26.2.1 (joinEsc (AS.mk r25.2.1 (joinEsc s20.esc r25.2.2)).esc r26.2.2))) (
some (AEx.normal, [t0, t1, t2, t32, t33, t34, .bool false], AS.mk r25.2.1 (joinEsc s20.esc r25.2.2)))) (
some (AEx.normal, [t0, t1, t2, t32, t33, t34, .bool false], s20))).bind fun r28 =>
match r28.1 with
| .normal => j3 C L n0 ((r28.2.1.getD 0 unk)) ((r28.2.1.getD 1 unk)) ((r28.2.1.getD 2 unk)) ((r28.2.1.getD 3 unk)) ((r28.2.1.getD 4 unk)) ((r28.2.1.getD 5 unk)) ((r28.2.1.getD 6 unk)) r28.2.2
| .exit i => if i = 1 then some (AEx.normal, [(r28.2.1.getD 0 unk), (r28.2.1.getD 1 unk), (r28.2.1.getD 2 unk), unk, (r28.2.1.getD 3 unk), (r28.2.1.getD 4 unk), (r28.2.1.getD 5 unk)], r28.2.2) else some (AEx.exit i, [(r28.2.1.getD 0 unk), (r28.2.1.getD 1 unk), (r28.2.1.getD 2 unk), unk, (r28.2.1.getD 3 unk), (r28.2.1.getD 4 unk), (r28.2.1.getD 5 unk)], r28.2.2)
| .ret => some (AEx.ret, [(r28.2.1.getD 0 unk), (r28.2.1.getD 1 unk), (r28.2.1.getD 2 unk), unk, (r28.2.1.getD 3 unk), (r28.2.1.getD 4 unk), (r28.2.1.getD 5 unk)], r28.2.2)).bind fun r29 =>
match r29.1 with
| .normal => j4 C L n0 ((r29.2.1.getD 0 unk)) ((r29.2.1.getD 1 unk)) ((r29.2.1.getD 2 unk)) ((r29.2.1.getD 4 unk)) ((r29.2.1.getD 5 unk)) ((r29.2.1.getD 6 unk)) r29.2.2
| .exit i => some (.inr (.exit i, [(r29.2.1.getD 3 unk)], r29.2.2))
| .ret => some (.inr (.ret, [(r29.2.1.getD 3 unk)], r29.2.2))) (
some (.inr (.exit 0, [unk], s)))
noncomputable def loop4s (C : Am.Callee) (L : Loops) (n0 : Nat) : List Value × AS → Option ((List Value × AS) ⊕ (AEx × List Value × AS)) := fun s => loop4 C L n0 (s.1.getD 0 unk) (s.1.getD 1 unk) (s.1.getD 2 unk) (s.1.getD 3 unk) (s.1.getD 4 unk) (s.1.getD 5 unk) s.2
noncomputable def j6 (C : Am.Callee) (L : Loops) (n0 : Nat) (s : AS) : Option (Value × List Blk × Option Nat) :=
fin PP false n0 [.bool true] s
noncomputable def j1 (C : Am.Callee) (L : Loops) (n0 : Nat) (t0 t1 t2 : Value) (s : AS) : Option (Value × List Blk × Option Nat) :=
((aLen PP t_L_twainref36_Op t0 s).bind fun x15 =>
(L n0 (loop4s C L n0) ([t0, t1, t2, t0, x15, .int .i64 0], s)).bind fun r31 =>
match r31.1 with
| .normal => some (AEx.normal, [(r31.2.1.getD 0 unk)], r31.2.2)
| .exit i => if i = 0 then some (AEx.normal, [(r31.2.1.getD 0 unk)], r31.2.2) else some (AEx.exit i, [(r31.2.1.getD 0 unk)], r31.2.2)
| .ret => some (AEx.ret, [(r31.2.1.getD 0 unk)], r31.2.2)).bind fun r32 =>
match r32.1 with
| .normal => j6 C L n0  r32.2.2
| .exit i => none
| .ret => fin PP false n0 [(r32.2.1.getD 0 unk)] r32.2.2
noncomputable def sh (C : Am.Callee) (L : Loops) (n0 : Nat) (t0 t1 t2 t3 : Value) (s : AS) : Option (Value × List Blk × Option Nat) :=
(aBox t_api_Sector t3 s).bind fun r1 =>
(((C n_twainref37_place [t1, t2] r1.2.H).bind fun r2 =>
(aBin PP .geq t_int (.tmp 13) (.const (.int .i64 0)) r2.1 (.int .i64 0)).bind fun x3 =>
bcase x3 (
some (AEx.normal, [t0, t1, t2, .bool true], AS.mk r2.2.1 (joinEsc r1.2.esc r2.2.2))) (
(aIndexAddr PP t_L_twainref36_Op t0 t2).bind fun x4 =>
(aFieldAddr PP t_twainref36_Op x4 0).bind fun x5 =>
(aLoad false 1 (AS.mk r2.2.1 (joinEsc r1.2.esc r2.2.2)) x5).bind fun x6 =>
(aUn PP .not x6).bind fun x7 =>
bcase x7 (
(aIndexAddr PP t_L_twainref36_Op t0 t2).bind fun x8 =>
(aFieldAddr PP t_twainref36_Op x8 1).bind fun x9 =>
(aLoad true 16 (AS.mk r2.2.1 (joinEsc r1.2.esc r2.2.2)) x9).bind fun x10 =>
(aLoad true 16 (AS.mk r2.2.1 (joinEsc r1.2.esc r2.2.2)) r1.1).bind fun x11 =>
(aBin PP .neq t_api_Sector (.tmp 27) (.tmp 28) x10 x11).bind fun x12 =>
some (AEx.normal, [t0, t1, t2, x12], AS.mk r2.2.1 (joinEsc r1.2.esc r2.2.2))) (
some (AEx.normal, [t0, t1, t2, .bool false], AS.mk r2.2.1 (joinEsc r1.2.esc r2.2.2))))).bind fun r13 =>
match r13.1 with
| .normal => j0 C L n0 ((r13.2.1.getD 0 unk)) ((r13.2.1.getD 1 unk)) ((r13.2.1.getD 2 unk)) ((r13.2.1.getD 3 unk)) r13.2.2
| .exit i => some (AEx.exit i, [(r13.2.1.getD 0 unk), (r13.2.1.getD 1 unk), (r13.2.1.getD 2 unk), unk], r13.2.2)
| .ret => some (AEx.ret, [(r13.2.1.getD 0 unk), (r13.2.1.getD 1 unk), (r13.2.1.getD 2 unk), unk], r13.2.2)).bind fun r14 =>
match r14.1 with
| .normal => j1 C L n0 ((r14.2.1.getD 0 unk)) ((r14.2.1.getD 1 unk)) ((r14.2.1.getD 2 unk)) r14.2.2
| .exit i => none
| .ret => fin PP false n0 [(r14.2.1.getD 3 unk)] r14.2.2
def T : Tab := ⟨fun i => if i = 4 then some [0, 1, 2, 32, 33, 34] else none, fun i => if i = 4 then some [8] else none, false, fun i => if i = 2 then some [0, 1, 2, 31] else if i = 3 then some [0, 1, 2, 8] else if i = 7 then some [0, 1, 2, 32, 33, 34, 55] else if i = 8 then some [0, 1, 2, 8, 32, 33, 34] else if i = 9 then some [8] else none, fun _ => false, false⟩
end twainref37_next
def TT : FuncId → Tab := fun f => if f = n_twainlaw37_RegisterFits then twainlaw37_RegisterFits.T else if f = n_twainlaw37_RegisterOrders then twainlaw37_RegisterOrders.T else if f = n_twainlaw37_lives then twainlaw37_lives.T else if f = n_register_Fits then register_Fits.T else if f = n_twainlaw37_Raw then twainlaw37_Raw.T else if f = n_twainref37_Fits then twainref37_Fits.T else if f = n_register_Right then register_Right.T else if f = n_register_Order then register_Order.T else if f = n_twainref37_Order then twainref37_Order.T else if f = n_twainref37_place then twainref37_place.T else if f = n_twainref37_ahead then twainref37_ahead.T else if f = n_twainref37_must then twainref37_must.T else if f = n_register_begin then register_begin.T else if f = n_P_register_hunt_find then P_register_hunt_find.T else if f = n_twainref37_search then twainref37_search.T else if f = n_P_register_hunt_find_1 then P_register_hunt_find_1.T else if f = n_P_register_hunt_find_1_1 then P_register_hunt_find_1_1.T else if f = n_P_register_hunt_read then P_register_hunt_read.T else if f = n_P_register_hunt_may then P_register_hunt_may.T else if f = n_twainref37_whole then twainref37_whole.T else if f = n_twainref37_next then twainref37_next.T else ⟨fun _ => none, fun _ => none, false, fun _ => none, fun _ => false, false⟩
def TT1 : FuncId → Tab := fun f => { TT f with lives := false }
theorem twainlaw37_RegisterFits.eq (C : Am.Callee) (L : Loops) (t0 t1 t2 : Value) (H : List Blk) : ebody PP TT C L n_twainlaw37_RegisterFits [t0, t1, t2] H = twainlaw37_RegisterFits.sh C L H.length t0 t1 t2 ⟨H, none⟩ := by kernel_rfl
theorem twainlaw37_RegisterOrders.eq (C : Am.Callee) (L : Loops) (t0 t1 t2 : Value) (H : List Blk) : ebody PP TT C L n_twainlaw37_RegisterOrders [t0, t1, t2] H = twainlaw37_RegisterOrders.sh C L H.length t0 t1 t2 ⟨H, none⟩ := by kernel_rfl
theorem twainlaw37_lives.eq (H : List Blk) : acall PP TT n_twainlaw37_lives [] H = some (.bool true, H, none) := by rw [acall_eq]; kernel_rfl
theorem twainlaw37_lives.lives : Lives PP n_twainlaw37_lives := lives_of (T := TT1) (fun _ => rfl) (n := 40) (by kernel_rfl)
theorem register_Fits.eq (C : Am.Callee) (L : Loops) (t0 t1 t2 : Value) (H : List Blk) : ebody PP TT C L n_register_Fits [t0, t1, t2] H = register_Fits.sh C L H.length t0 t1 t2 ⟨H, none⟩ := by kernel_rfl
theorem twainlaw37_Raw.eq (C : Am.Callee) (L : Loops) (t0 : Value) (H : List Blk) : ebody PP TT C L n_twainlaw37_Raw [t0] H = twainlaw37_Raw.sh C L H.length t0 ⟨H, none⟩ := by kernel_rfl
theorem twainref37_Fits.eq (C : Am.Callee) (L : Loops) (t0 t1 t2 : Value) (H : List Blk) : ebody PP TT C L n_twainref37_Fits [t0, t1, t2] H = twainref37_Fits.sh C L H.length t0 t1 t2 ⟨H, none⟩ := by kernel_rfl
theorem register_Right.eq (C : Am.Callee) (L : Loops) (t0 t1 : Value) (H : List Blk) : ebody PP TT C L n_register_Right [t0, t1] H = register_Right.sh C L H.length t0 t1 ⟨H, none⟩ := by kernel_rfl
theorem register_Order.eq (C : Am.Callee) (L : Loops) (t0 t1 : Value) (H : List Blk) : ebody PP TT C L n_register_Order [t0, t1] H = register_Order.sh C L H.length t0 t1 ⟨H, none⟩ := by kernel_rfl
theorem twainref37_Order.eq (C : Am.Callee) (L : Loops) (t0 t1 : Value) (H : List Blk) : ebody PP TT C L n_twainref37_Order [t0, t1] H = twainref37_Order.sh C L H.length t0 t1 ⟨H, none⟩ := by kernel_rfl
theorem twainref37_place.eq (C : Am.Callee) (L : Loops) (t0 t1 : Value) (H : List Blk) : ebody PP TT C L n_twainref37_place [t0, t1] H = twainref37_place.sh C L H.length t0 t1 ⟨H, none⟩ := by kernel_rfl
theorem twainref37_ahead.eq (C : Am.Callee) (L : Loops) (t0 t1 : Value) (H : List Blk) : ebody PP TT C L n_twainref37_ahead [t0, t1] H = twainref37_ahead.sh C L H.length t0 t1 ⟨H, none⟩ := by kernel_rfl
theorem twainref37_must.eq (C : Am.Callee) (L : Loops) (t0 : Value) (H : List Blk) : ebody PP TT C L n_twainref37_must [t0] H = twainref37_must.sh C L H.length t0 ⟨H, none⟩ := by kernel_rfl
theorem register_begin.eq (C : Am.Callee) (L : Loops) (t0 : Value) (H : List Blk) : ebody PP TT C L n_register_begin [t0] H = register_begin.sh C L H.length t0 ⟨H, none⟩ := by kernel_rfl
theorem P_register_hunt_find.eq (C : Am.Callee) (L : Loops) (t0 t1 : Value) (H : List Blk) : ebody PP TT C L n_P_register_hunt_find [t0, t1] H = P_register_hunt_find.sh C L H.length t0 t1 ⟨H, none⟩ := by kernel_rfl
theorem twainref37_search.eq (C : Am.Callee) (L : Loops) (t0 t1 t2 t3 : Value) (H : List Blk) : ebody PP TT C L n_twainref37_search [t0, t1, t2, t3] H = twainref37_search.sh C L H.length t0 t1 t2 t3 ⟨H, none⟩ := by kernel_rfl
theorem P_register_hunt_find_1.eq (C : Am.Callee) (L : Loops) (t0 t1 t2 t3 : Value) (H : List Blk) : ebody PP TT C L n_P_register_hunt_find_1 [t0, t1, t2, t3] H = P_register_hunt_find_1.sh C L H.length t0 t1 t2 t3 ⟨H, none⟩ := by kernel_rfl
theorem P_register_hunt_find_1_1.eq (C : Am.Callee) (L : Loops) (t0 t1 t2 t3 t4 : Value) (H : List Blk) : ebody PP TT C L n_P_register_hunt_find_1_1 [t0, t1, t2, t3, t4] H = P_register_hunt_find_1_1.sh C L H.length t0 t1 t2 t3 t4 ⟨H, none⟩ := by kernel_rfl
theorem P_register_hunt_read.eq (C : Am.Callee) (L : Loops) (t0 t1 : Value) (H : List Blk) : ebody PP TT C L n_P_register_hunt_read [t0, t1] H = P_register_hunt_read.sh C L H.length t0 t1 ⟨H, none⟩ := by kernel_rfl
theorem P_register_hunt_may.eq (C : Am.Callee) (L : Loops) (t0 t1 t2 : Value) (H : List Blk) : ebody PP TT C L n_P_register_hunt_may [t0, t1, t2] H = P_register_hunt_may.sh C L H.length t0 t1 t2 ⟨H, none⟩ := by kernel_rfl
theorem twainref37_whole.eq (C : Am.Callee) (L : Loops) (t0 t1 : Value) (H : List Blk) : ebody PP TT C L n_twainref37_whole [t0, t1] H = twainref37_whole.sh C L H.length t0 t1 ⟨H, none⟩ := by kernel_rfl
theorem twainref37_next.eq (C : Am.Callee) (L : Loops) (t0 t1 t2 t3 : Value) (H : List Blk) : ebody PP TT C L n_twainref37_next [t0, t1, t2, t3] H = twainref37_next.sh C L H.length t0 t1 t2 t3 ⟨H, none⟩ := by kernel_rfl
theorem TT_lives : ∀ f, (TT f).lives = true → Lives PP f := by
  intro f h
  unfold TT at h
  by_cases h5 : f = n_twainlaw37_RegisterFits
  · subst h5; simp [twainlaw37_RegisterFits.T] at h
  simp only [h5, if_false] at h
  by_cases h6 : f = n_twainlaw37_RegisterOrders
  · subst h6; simp [twainlaw37_RegisterOrders.T] at h
  simp only [h6, if_false] at h
  by_cases h21 : f = n_twainlaw37_lives
  · subst h21; exact twainlaw37_lives.lives
  simp only [h21, if_false] at h
  by_cases h22 : f = n_register_Fits
  · subst h22; simp [register_Fits.T] at h
  simp only [h22, if_false] at h
  by_cases h23 : f = n_twainlaw37_Raw
  · subst h23; simp [twainlaw37_Raw.T] at h
  simp only [h23, if_false] at h
  by_cases h24 : f = n_twainref37_Fits
  · subst h24; simp [twainref37_Fits.T] at h
  simp only [h24, if_false] at h
  by_cases h25 : f = n_register_Right
  · subst h25; simp [register_Right.T] at h
  simp only [h25, if_false] at h
  by_cases h26 : f = n_register_Order
  · subst h26; simp [register_Order.T] at h
  simp only [h26, if_false] at h
  by_cases h36 : f = n_twainref37_Order
  · subst h36; simp [twainref37_Order.T] at h
  simp only [h36, if_false] at h
  by_cases h45 : f = n_twainref37_place
  · subst h45; simp [twainref37_place.T] at h
  simp only [h45, if_false] at h
  by_cases h46 : f = n_twainref37_ahead
  · subst h46; simp [twainref37_ahead.T] at h
  simp only [h46, if_false] at h
  by_cases h47 : f = n_twainref37_must
  · subst h47; simp [twainref37_must.T] at h
  simp only [h47, if_false] at h
  by_cases h48 : f = n_register_begin
  · subst h48; simp [register_begin.T] at h
  simp only [h48, if_false] at h
  by_cases h49 : f = n_P_register_hunt_find
  · subst h49; simp [P_register_hunt_find.T] at h
  simp only [h49, if_false] at h
  by_cases h52 : f = n_twainref37_search
  · subst h52; simp [twainref37_search.T] at h
  simp only [h52, if_false] at h
  by_cases h56 : f = n_P_register_hunt_find_1
  · subst h56; simp [P_register_hunt_find_1.T] at h
  simp only [h56, if_false] at h
  by_cases h57 : f = n_P_register_hunt_find_1_1
  · subst h57; simp [P_register_hunt_find_1_1.T] at h
  simp only [h57, if_false] at h
  by_cases h58 : f = n_P_register_hunt_read
  · subst h58; simp [P_register_hunt_read.T] at h
  simp only [h58, if_false] at h
  by_cases h59 : f = n_P_register_hunt_may
  · subst h59; simp [P_register_hunt_may.T] at h
  simp only [h59, if_false] at h
  by_cases h61 : f = n_twainref37_whole
  · subst h61; simp [twainref37_whole.T] at h
  simp only [h61, if_false] at h
  by_cases h62 : f = n_twainref37_next
  · subst h62; simp [twainref37_next.T] at h
  simp only [h62, if_false] at h
  simp at h
end Go.Proofs.Ytfinilnkempofaa
