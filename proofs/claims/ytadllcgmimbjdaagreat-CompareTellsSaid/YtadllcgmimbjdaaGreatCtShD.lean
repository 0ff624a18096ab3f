/- A part of the proof: CtShD. Its conditions: none. -/
import Derived.Test.YtadllcgmimbjdaaGreatAm13c
import Derived.Test.YtadllcgmimbjdaaGreatChecked
set_option linter.all false
set_option linter.unusedVariables false
set_option linter.unusedSimpArgs false
set_option linter.unnecessarySimpa false
namespace Go.Proofs.YtadllcgmimbjdaaGreat
open Go Go.Am
set_option linter.unusedVariables false
noncomputable abbrev PP : Program := Tryz.prog
abbrev n_main_main : FuncId := 0
abbrev n_gosem_cut : FuncId := 1
abbrev n_gosem_cut_init : FuncId := 2
abbrev n_twainlaw46_CompareTells : FuncId := 3
abbrev n_twainlaw46_lives : FuncId := 4
abbrev n_disk_New : FuncId := 5
abbrev n_twainref06_New : FuncId := 6
abbrev n_P_disk_Disk_Write : FuncId := 7
abbrev n_P_twainref06_Disk_Write : FuncId := 8
abbrev n_P_disk_Disk_Flush : FuncId := 9
abbrev n_P_twainref06_Disk_Flush : FuncId := 10
abbrev n_compare_Sums : FuncId := 11
abbrev n_twainref46_Sums : FuncId := 12
abbrev n_compare_Unlike : FuncId := 13
abbrev n_twainref46_Unlike : FuncId := 14
abbrev n_compare_Known : FuncId := 15
abbrev n_twainref46_Known : FuncId := 16
abbrev n_compare_Suspect : FuncId := 17
abbrev n_twainref46_Suspect : FuncId := 18
abbrev n_data_Write : FuncId := 19
abbrev n_P_disk_Disk_Made : FuncId := 20
abbrev n_P_disk_Disk_has : FuncId := 21
abbrev n_P_disk_Disk_spend : FuncId := 22
abbrev n_P_twainref06_Disk_in : FuncId := 23
abbrev n_P_twainref06_Disk_burns : FuncId := 24
abbrev n_P_twainref06_Disk_keep : FuncId := 25
abbrev n_compare_extents : FuncId := 26
abbrev n_compare_sum : FuncId := 27
abbrev n_twainref12_Sectors : FuncId := 28
abbrev n_P_twainref06_Disk_Durable : FuncId := 29
abbrev n_twainref03_Sum : FuncId := 30
abbrev n_data_Sectors : FuncId := 31
abbrev n_compare_at : FuncId := 32
abbrev n_bits_With : FuncId := 33
abbrev n_twainref01_With : FuncId := 34
abbrev n_meta_Mine : FuncId := 35
abbrev n_meta_Look : FuncId := 36
abbrev n_twainref01_Both : FuncId := 37
abbrev n_twainref13_Mine : FuncId := 38
abbrev n_twainref13_Look : FuncId := 39
abbrev n_data_check : FuncId := 40
abbrev n_data_each : FuncId := 41
abbrev n_span_Whole : FuncId := 42
abbrev n_crc_Sum : FuncId := 43
abbrev n_crc_More : FuncId := 44
abbrev n_twainref03_More : FuncId := 45
abbrev n_P_disk_Disk_Size : FuncId := 46
abbrev n_P_disk_Disk_Durable : FuncId := 47
abbrev n_bits_One : FuncId := 48
abbrev n_twainref01_Has : FuncId := 49
abbrev n_twainref01_One : FuncId := 50
abbrev n_super_Boot : FuncId := 51
abbrev n_actlog_Get : FuncId := 52
abbrev n_dirty_Get : FuncId := 53
abbrev n_twainref08_Boot : FuncId := 54
abbrev n_twainref10_Get : FuncId := 55
abbrev n_twainref11_Get : FuncId := 56
abbrev n_span_Good : FuncId := 57
abbrev n_data_each_1 : FuncId := 58
abbrev n_crc_Step : FuncId := 59
abbrev n_twainref03_Step : FuncId := 60
abbrev n_bits_in : FuncId := 61
abbrev n_super_Boot_1 : FuncId := 62
abbrev n_slots_Latest : FuncId := 63
abbrev n_actlog_log_of : FuncId := 64
abbrev n_actlog_here : FuncId := 65
abbrev n_dirty_bitmap_mask : FuncId := 66
abbrev n_twainref07_Latest : FuncId := 67
abbrev n_span_Plain : FuncId := 68
abbrev n_span_End : FuncId := 69
abbrev n_crc_half : FuncId := 70
abbrev n_slots_ring_latest : FuncId := 71
abbrev n_twainref07_ring : FuncId := 72
abbrev n_P_twainref06_Disk_Read : FuncId := 73
abbrev n_twainref05_Open : FuncId := 74
abbrev n_twainref07_Place : FuncId := 75
abbrev n_span_within : FuncId := 76
abbrev n_slots_ring_on : FuncId := 77
abbrev n_slots_ring_read : FuncId := 78
abbrev n_twainref02_Get32 : FuncId := 79
abbrev n_twainref02_Get : FuncId := 80
abbrev n_twainref05_Record : FuncId := 81
abbrev n_slots_ring_good : FuncId := 82
abbrev n_P_disk_Disk_Read : FuncId := 83
abbrev n_seal_Open : FuncId := 84
abbrev n_slots_ring_place : FuncId := 85
abbrev n_twainref05_Put : FuncId := 86
abbrev n_twainref02_Put64 : FuncId := 87
abbrev n_twainref02_Put32 : FuncId := 88
abbrev n_num_Get32 : FuncId := 89
abbrev n_num_Get64 : FuncId := 90
abbrev n_seal_Record : FuncId := 91
abbrev n_twainref02_Put : FuncId := 92
abbrev n_num_get_uint32 : FuncId := 93
abbrev n_num_get_uint64 : FuncId := 94
abbrev n_seal_Put : FuncId := 95
abbrev n_num_Put64 : FuncId := 96
abbrev n_num_Put32 : FuncId := 97
abbrev n_seal_sum : FuncId := 98
abbrev n_num_put_uint64 : FuncId := 99
abbrev n_num_put_uint32 : FuncId := 100
abbrev n_num_join : FuncId := 101
abbrev n_runtime_boundsError_Error : FuncId := 102
abbrev n_runtime_boundsError_RuntimeError : FuncId := 103
abbrev n_runtime_errorString_Error : FuncId := 104
abbrev n_runtime_errorString_RuntimeError : FuncId := 105
abbrev n_runtime_plainError_Error : FuncId := 106
abbrev n_runtime_plainError_RuntimeError : FuncId := 107
abbrev n_runtime_errorAddressString_Error : FuncId := 108
abbrev n_runtime_errorAddressString_RuntimeError : FuncId := 109
abbrev n_P_runtime_TypeAssertionError_Error : FuncId := 110
abbrev n_P_runtime_TypeAssertionError_RuntimeError : FuncId := 111
abbrev n_P_runtime_PanicNilError_Error : FuncId := 112
abbrev n_P_runtime_PanicNilError_RuntimeError : FuncId := 113
abbrev n_P_internal_abi_Type_Align : FuncId := 114
abbrev n_internal_runtime_maps_unhashableTypeE_d411d0 : FuncId := 115
abbrev n_internal_runtime_maps_unhashableTypeE_88efe4 : FuncId := 116
abbrev n_P_disk_Disk_Broken : FuncId := 117
abbrev n_api_Errno_Error : FuncId := 118
abbrev n_P_twainref06_Disk_Crash : FuncId := 119
abbrev n_internal_abi_Kind_String : FuncId := 120
abbrev t_unit : TypeId := 0
abbrev t_F023062 : TypeId := 1
abbrev t_int64 : TypeId := 2
abbrev t_int : TypeId := 3
abbrev t_bool : TypeId := 4
abbrev t_uint8 : TypeId := 5
abbrev t_abi_BoundsErrorCode : TypeId := 6
abbrev t_S81e5bf : TypeId := 7
abbrev t_runtime_boundsError : TypeId := 8
abbrev t_string : TypeId := 9
abbrev t_runtime_errorString : TypeId := 10
abbrev t_runtime_plainError : TypeId := 11
abbrev t_uintptr : TypeId := 12
abbrev t_S9bc4a9 : TypeId := 13
abbrev t_runtime_errorAddressString : TypeId := 14
abbrev t_P_runtime_TypeAssertionError : TypeId := 15
abbrev t_P_runtime_PanicNilError : TypeId := 16
abbrev t_P_abi_Type : TypeId := 17
abbrev t_S6875f2 : TypeId := 18
abbrev t_maps_unhashableTypeError : TypeId := 19
abbrev t_interface : TypeId := 20
abbrev t_int32 : TypeId := 21
abbrev t_L_twainlaw46_Fill : TypeId := 22
abbrev t_L_uint32 : TypeId := 23
abbrev t_S5b84f1 : TypeId := 24
abbrev t_twainlaw46_Case : TypeId := 25
abbrev t_Fa86e39 : TypeId := 26
abbrev t_P_disk_Disk : TypeId := 27
abbrev t_api_Errno : TypeId := 28
abbrev t_P_disk_Disk_api_Errno : TypeId := 29
abbrev t_Ffa18c7 : TypeId := 30
abbrev t_P_twainref06_Disk : TypeId := 31
abbrev t_P_twainref06_Disk_int : TypeId := 32
abbrev t_Ff2fe98 : TypeId := 33
abbrev t_A16_uint8 : TypeId := 34
abbrev t_api_Sector : TypeId := 35
abbrev t_S26b746 : TypeId := 36
abbrev t_twainlaw46_Fill : TypeId := 37
abbrev t_Fe16a4e : TypeId := 38
abbrev t_F3c2e60 : TypeId := 39
abbrev t_F3d0fc2 : TypeId := 40
abbrev t_F92c41c : TypeId := 41
abbrev t_Fd0e03b : TypeId := 42
abbrev t_Ff07cc6 : TypeId := 43
abbrev t_uint32 : TypeId := 44
abbrev t_uint64 : TypeId := 45
abbrev t_F58cf1f : TypeId := 46
abbrev t_F386a02 : TypeId := 47
abbrev t_F5f2897 : TypeId := 48
abbrev t_F21490c : TypeId := 49
abbrev t_F63b482 : TypeId := 50
abbrev t_S6c464c : TypeId := 51
abbrev t_api_Span : TypeId := 52
abbrev t_L_uint8 : TypeId := 53
abbrev t_L_api_Sector : TypeId := 54
abbrev t_M_int_api_Sector : TypeId := 55
abbrev t_S968285 : TypeId := 56
abbrev t_disk_Disk : TypeId := 57
abbrev t_L_twainref06_Cell : TypeId := 58
abbrev t_Sda6770 : TypeId := 59
abbrev t_twainref06_Disk : TypeId := 60
abbrev t_S3fa2ef : TypeId := 61
abbrev t_twainref06_Cell : TypeId := 62
abbrev t_F403d54 : TypeId := 63
abbrev t_F823a61 : TypeId := 64
abbrev t_Fde32d4 : TypeId := 65
abbrev t_Fe08163 : TypeId := 66
abbrev t_F42c676 : TypeId := 67
abbrev t_Fa1e216 : TypeId := 68
abbrev t_F3ee5a2 : TypeId := 69
abbrev t_F257e64 : TypeId := 70
abbrev t_F774292 : TypeId := 71
abbrev t_Fab6be2 : TypeId := 72
abbrev t_S0865a2 : TypeId := 73
abbrev t_meta_Meta : TypeId := 74
abbrev t_F3b2c39 : TypeId := 75
abbrev t_F4c5b92 : TypeId := 76
abbrev t_Feb4966 : TypeId := 77
abbrev t_twainref13_Meta : TypeId := 78
abbrev t_F7d2538 : TypeId := 79
abbrev t_Fed35bc : TypeId := 80
abbrev t_F30b9f7 : TypeId := 81
abbrev t_iter_Seq2_int_int : TypeId := 82
abbrev t_F86126d : TypeId := 83
abbrev t_F1797d6 : TypeId := 84
abbrev t_Fb92bf1 : TypeId := 85
abbrev t_F6e3454 : TypeId := 86
abbrev t_Fc8b754 : TypeId := 87
abbrev t_F8b6434 : TypeId := 88
abbrev t_F89728b : TypeId := 89
abbrev t_F2dad01 : TypeId := 90
abbrev t_Fe12bcb : TypeId := 91
abbrev t_F2d9935 : TypeId := 92
abbrev t_F0d5626 : TypeId := 93
abbrev t_F6136f8 : TypeId := 94
abbrev t_Fd53837 : TypeId := 95
abbrev t_uint32_uint64 : TypeId := 96
abbrev t_F10e0bd : TypeId := 97
abbrev t_F75df95 : TypeId := 98
abbrev t_Fa2a859 : TypeId := 99
abbrev t_Sc1ba45 : TypeId := 100
abbrev t_actlog_log : TypeId := 101
abbrev t_Fa05e6f : TypeId := 102
abbrev t_Sefa627 : TypeId := 103
abbrev t_dirty_bitmap : TypeId := 104
abbrev t_F706738 : TypeId := 105
abbrev t_Fc9c893 : TypeId := 106
abbrev t_F42507d : TypeId := 107
abbrev t_F3f7f15 : TypeId := 108
abbrev t_uint : TypeId := 109
abbrev t_F23c5bf : TypeId := 110
abbrev t_S75fa14 : TypeId := 111
abbrev t_slots_entry : TypeId := 112
abbrev t_Sc1ba45_2 : TypeId := 113
abbrev t_slots_ring : TypeId := 114
abbrev t_Fa6bbeb : TypeId := 115
abbrev t_api_Sector_int : TypeId := 116
abbrev t_F760b48 : TypeId := 117
abbrev t_uint32_uint64_bool : TypeId := 118
abbrev t_F81f65d : TypeId := 119
abbrev t_Fc8d8fe : TypeId := 120
abbrev t_A16_uint32 : TypeId := 121
abbrev t_F9ecc72 : TypeId := 122
abbrev t_Fdb4a94 : TypeId := 123
abbrev t_uint32_bool : TypeId := 124
abbrev t_F590840 : TypeId := 125
abbrev t_uint64_bool : TypeId := 126
abbrev t_Fd18904 : TypeId := 127
abbrev t_Fbf61a3 : TypeId := 128
abbrev t_api_Sector_api_Errno : TypeId := 129
abbrev t_Fb03d5a : TypeId := 130
abbrev t_F6b0bc9 : TypeId := 131
abbrev t_F1aae77 : TypeId := 132
abbrev t_F8790d8 : TypeId := 133
abbrev t_F077268 : TypeId := 134
abbrev t_api_Sector_bool : TypeId := 135
abbrev t_F5c08af : TypeId := 136
abbrev t_F740fec : TypeId := 137
abbrev t_Fafe9a1 : TypeId := 138
abbrev t_A4_uint8 : TypeId := 139
abbrev t_Fe09e81 : TypeId := 140
abbrev t_F92a3bd : TypeId := 141
abbrev t_F0a10e3 : TypeId := 142
abbrev t_F6c6759 : TypeId := 143
abbrev t_S6911b8 : TypeId := 144
abbrev t_runtime_TypeAssertionError : TypeId := 145
abbrev t_A0_P_runtime_PanicNilError : TypeId := 146
abbrev t_S674f3b : TypeId := 147
abbrev t_runtime_PanicNilError : TypeId := 148
abbrev t_abi_TFlag : TypeId := 149
abbrev t_abi_Kind : TypeId := 150
abbrev t_F0a8967 : TypeId := 151
abbrev t_P_uint8 : TypeId := 152
abbrev t_abi_NameOff : TypeId := 153
abbrev t_abi_TypeOff : TypeId := 154
abbrev t_Scd6355 : TypeId := 155
abbrev t_abi_Type : TypeId := 156
abbrev t_Fc5aefb : TypeId := 157
abbrev t_unsafe_Pointer : TypeId := 158
namespace twainlaw46_CompareTells
noncomputable def j0 (C : Am.Callee) (L : Loops) (n0 : Nat) (t0 t5 t6 t7 t8 t58 : Value) (s : AS) : Option (AEx × List Value × AS) :=
bcase t58 (
(C n_twainlaw46_lives [] s.H).bind fun r21 =>
some (AEx.ret, [t0, r21.1, t5, t6, t7, t8], AS.mk r21.2.1 (joinEsc s.esc r21.2.2))) (
some (AEx.normal, [t0, unk, t5, t6, t7, t8], s))
noncomputable def j3 (C : Am.Callee) (L : Loops) (n0 : Nat) (t7 t8 t9 t11 t13 t15 t17 t80 t81 t82 : Value) (s : AS) : Option (AEx × List Value × AS) :=
(aBin PP .rem t_int (.tmp 113) (.const (.int .i64 3)) t17 (.int .i64 3)).bind fun x64 =>
(aBin PP .eql t_int (.tmp 114) (.const (.int .i64 2)) x64 (.int .i64 2)).bind fun x65 =>
bcase x65 (
(C n_P_disk_Disk_Flush [t9] s.H).bind fun r66 =>
(C n_P_twainref06_Disk_Flush [t13] (AS.mk r66.2.1 (joinEsc s.esc r66.2.2)).H).bind fun r67 =>
(C n_P_disk_Disk_Flush [t11] (AS.mk r67.2.1 (joinEsc (AS.mk r66.2.1 (joinEsc s.esc r66.2.2)).esc r67.2.2)).H).bind fun r68 =>
(C n_P_twainref06_Disk_Flush [t15] (AS.mk r68.2.1 (joinEsc (AS.mk r67.2.1 (joinEsc (AS.mk r66.2.1 (joinEsc s.esc r66.2.2)).esc r67.2.2)).esc r68.2.2)).H).bind fun r69 =>
some (AEx.normal, [t7, t8, t9, t11, t13, t15, t80, t81, t82], AS.mk r69.2.1 (joinEsc (AS.mk r68.2.1 (joinEsc (AS.mk r67.2.1 (joinEsc (AS.mk r66.2.1 (joinEsc s.esc r66.2.2)).esc r67.2.2)).esc r68.2.2)).esc r69.2.2))) (
some (AEx.normal, [t7, t8, t9, t11, t13, t15, t80, t81, t82], s))
noncomputable def j4 (C : Am.Callee) (L : Loops) (n0 : Nat) (t7 t8 t9 t11 t13 t15 t80 t81 t82 : Value) (s : AS) : Option ((List Value × AS) ⊕ (AEx × List Value × AS)) :=
(aBin PP .add t_int (.tmp 82) (.const (.int .i64 1)) t82 (.int .i64 1)).bind fun x71 =>
some (.inl ([t7, t8, t9, t11, t13, t15, t80, t81, x71], s))
noncomputable def loop9 (C : Am.Callee) (L : Loops) (n0 : Nat) (t7 t8 t9 t11 t13 t15 t80 t81 t82 : Value) (s : AS) : Option ((List Value × AS) ⊕ (AEx × List Value × AS)) :=
(aBin PP .lss t_int (.tmp 82) (.tmp 81) t82 t81).bind fun x36 =>
bcase x36 (
((aIndexAddr PP t_L_twainlaw46_Fill t80 t82).bind fun x37 =>
(aLoad true 18 s x37).bind fun x38 =>
(aBox t_twainlaw46_Fill ((zeroP PP t_twainlaw46_Fill).getD unk) s).bind fun r39 =>
(aStore 18 r39.2 r39.1 x38).bind fun s40 =>
((aFieldAddr PP t_twainlaw46_Fill r39.1 0).bind fun x41 =>
(aLoad false 1 s40 x41).bind fun x42 =>
bcase x42 (
(aFieldAddr PP t_twainlaw46_Fill r39.1 1).bind fun x43 =>
(aLoad false 1 s40 x43).bind fun x44 =>
(aFieldAddr PP t_twainlaw46_Fill r39.1 2).bind fun x45 =>
(aLoad true 16 s40 x45).bind fun x46 =>
(C n_P_disk_Disk_Write [t11, x44, x46] s40.H).bind fun r47 =>
(aFieldAddr PP t_twainlaw46_Fill r39.1 1).bind fun x48 =>
(aLoad false 1 (AS.mk r47.2.1 (joinEsc s40.esc r47.2.2)) x48).bind fun x49 =>
(aFieldAddr PP t_twainlaw46_Fill r39.1 2).bind fun x50 =>
(aLoad true 16 (AS.mk r47.2.1 (joinEsc s40.esc r47.2.2)) x50).bind fun x51 =>
(C n_P_twainref06_Disk_Write [t15, x49, x51] (AS.mk r47.2.1 (joinEsc s40.esc r47.2.2)).H).bind fun r52 =>
some (AEx.normal, [t7, t8, t9, t11, t13, t15, t82, t80, t81, t82], AS.mk r52.2.1 (joinEsc (AS.mk r47.2.1 (joinEsc s40.esc r47.2.2)).esc r52.2.2))) (
(aFieldAddr PP t_twainlaw46_Fill r39.1 1).bind fun x53 =>
(aLoad false 1 s40 x53).bind fun x54 =>
(aFieldAddr PP t_twainlaw46_Fill r39.1 2).bind fun x55 =>
(aLoad true 16 s40 x55).bind fun x56 =>
(C n_P_disk_Disk_Write [t9, x54, x56] s40.H).bind fun r57 =>
(aFieldAddr PP t_twainlaw46_Fill r39.1 1).bind fun x58 =>
(aLoad false 1 (AS.mk r57.2.1 (joinEsc s40.esc r57.2.2)) x58).bind fun x59 =>
(aFieldAddr PP t_twainlaw46_Fill r39.1 2).bind fun x60 =>
(aLoad true 16 (AS.mk r57.2.1 (joinEsc s40.esc r57.2.2)) x60).bind fun x61 =>
(C n_P_twainref06_Disk_Write [t13, x59, x61] (AS.mk r57.2.1 (joinEsc s40.esc r57.2.2)).H).bind fun r62 =>
some (AEx.normal, [t7, t8, t9, t11, t13, t15, t82, t80, t81, t82], AS.mk r62.2.1 (joinEsc (AS.mk r57.2.1 (joinEsc s40.esc r57.2.2)).esc r62.2.2)))).bind fun r63 =>
match r63.1 with
| .normal => j3 C L n0 ((r63.2.1.getD 0 unk)) ((r63.2.1.getD 1 unk)) ((r63.2.1.getD 2 unk)) ((r63.2.1.getD 3 unk)) ((r63.2.1.getD 4 unk)) ((r63.2.1.getD 5 unk)) ((r63.2.1.getD 6 unk)) ((r63.2.1.getD 7 unk)) ((r63.2.1.getD 8 unk)) ((r63.2.1.getD 9 unk)) r63.2.2
| .exit i => if i = 1 then some (AEx.normal, [(r63.2.1.getD 0 unk), (r63.2.1.getD 1 unk), (r63.2.1.getD 2 unk), (r63.2.1.getD 3 unk), (r63.2.1.getD 4 unk), (r63.2.1.getD 5 unk), (r63.2.1.getD 7 unk), (r63.2.1.getD 8 unk), (r63.2.1.getD 9 unk)], r63.2.2) else some (AEx.exit i, [(r63.2.1.getD 0 unk), (r63.2.1.getD 1 unk), (r63.2.1.getD 2 unk), (r63.2.1.getD 3 unk), (r63.2.1.getD 4 unk), (r63.2.1.getD 5 unk), (r63.2.1.getD 7 unk), (r63.2.1.getD 8 unk), (r63.2.1.getD 9 unk)], r63.2.2)
| .ret => some (AEx.ret, [(r63.2.1.getD 0 unk), (r63.2.1.getD 1 unk), (r63.2.1.getD 2 unk), (r63.2.1.getD 3 unk), (r63.2.1.getD 4 unk), (r63.2.1.getD 5 unk), (r63.2.1.getD 7 unk), (r63.2.1.getD 8 unk), (r63.2.1.getD 9 unk)], r63.2.2)).bind fun r70 =>
match r70.1 with
| .normal => j4 C L n0 ((r70.2.1.getD 0 unk)) ((r70.2.1.getD 1 unk)) ((r70.2.1.getD 2 unk)) ((r70.2.1.getD 3 unk)) ((r70.2.1.getD 4 unk)) ((r70.2.1.getD 5 unk)) ((r70.2.1.getD 6 unk)) ((r70.2.1.getD 7 unk)) ((r70.2.1.getD 8 unk)) r70.2.2
| .exit i => some (.inr (.exit i, [(r70.2.1.getD 0 unk), (r70.2.1.getD 1 unk), (r70.2.1.getD 2 unk), (r70.2.1.getD 3 unk), (r70.2.1.getD 4 unk), (r70.2.1.getD 5 unk)], r70.2.2))
| .ret => some (.inr (.ret, [(r70.2.1.getD 0 unk), (r70.2.1.getD 1 unk), (r70.2.1.getD 2 unk), (r70.2.1.getD 3 unk), (r70.2.1.getD 4 unk), (r70.2.1.getD 5 unk)], r70.2.2))) (
some (.inr (.exit 0, [t7, t8, t9, t11, t13, t15], s)))
noncomputable def loop9s (C : Am.Callee) (L : Loops) (n0 : Nat) : List Value × AS → Option ((List Value × AS) ⊕ (AEx × List Value × AS)) := fun s => loop9 C L n0 (s.1.getD 0 unk) (s.1.getD 1 unk) (s.1.getD 2 unk) (s.1.getD 3 unk) (s.1.getD 4 unk) (s.1.getD 5 unk) (s.1.getD 6 unk) (s.1.getD 7 unk) (s.1.getD 8 unk) s.2
noncomputable def loop26 (C : Am.Callee) (L : Loops) (n0 : Nat) (t7 t8 t9 t11 t13 t15 t19 t20 t135 t136 : Value) (s : AS) : Option ((List Value × AS) ⊕ (AEx × List Value × AS)) :=
(aBin PP .lss t_int (.tmp 136) (.tmp 135) t136 t135).bind fun x80 =>
bcase x80 (
(aIndexAddr PP t_L_uint32 t19 t136).bind fun x81 =>
(aLoad false 1 s x81).bind fun x82 =>
(aIndexAddr PP t_L_uint32 t20 t136).bind fun x83 =>
(aLoad false 1 s x83).bind fun x84 =>
(aBin PP .neq t_uint32 (.tmp 142) (.tmp 146) x82 x84).bind fun x85 =>
bcase x85 (
some (.inr (.ret, [.bool false, t7, t8, t9, t11, t13, t15], s))) (
(aBin PP .add t_int (.tmp 136) (.const (.int .i64 1)) t136 (.int .i64 1)).bind fun x86 =>
some (.inl ([t7, t8, t9, t11, t13, t15, t19, t20, t135, x86], s)))) (
some (.inr (.exit 2, [unk, t7, t8, t9, t11, t13, t15], s)))
noncomputable def loop26s (C : Am.Callee) (L : Loops) (n0 : Nat) : List Value × AS → Option ((List Value × AS) ⊕ (AEx × List Value × AS)) := fun s => loop26 C L n0 (s.1.getD 0 unk) (s.1.getD 1 unk) (s.1.getD 2 unk) (s.1.getD 3 unk) (s.1.getD 4 unk) (s.1.getD 5 unk) (s.1.getD 6 unk) (s.1.getD 7 unk) (s.1.getD 8 unk) (s.1.getD 9 unk) s.2
noncomputable def j9 (C : Am.Callee) (L : Loops) (n0 : Nat) (t7 t8 t9 t11 t13 t15 : Value) (s : AS) : Option (Value × List Blk × Option Nat) :=
(C n_compare_Unlike [t9, t11] s.H).bind fun r89 =>
(C n_twainref46_Unlike [t13, t15] (AS.mk r89.2.1 (joinEsc s.esc r89.2.2)).H).bind fun r90 =>
(aBin PP .eql t_uint64 (.tmp 151) (.tmp 154) r89.1 r90.1).bind fun x91 =>
bcase x91 (
(C n_compare_Known [t9, t11] (AS.mk r90.2.1 (joinEsc (AS.mk r89.2.1 (joinEsc s.esc r89.2.2)).esc r90.2.2)).H).bind fun r92 =>
(C n_twainref46_Known [t13, t15] (AS.mk r92.2.1 (joinEsc (AS.mk r90.2.1 (joinEsc (AS.mk r89.2.1 (joinEsc s.esc r89.2.2)).esc r90.2.2)).esc r92.2.2)).H).bind fun r93 =>
(aBin PP .eql t_uint64 (.tmp 159) (.tmp 162) r92.1 r93.1).bind fun x94 =>
bcase x94 (
(C n_compare_Suspect [t7, t8] (AS.mk r93.2.1 (joinEsc (AS.mk r92.2.1 (joinEsc (AS.mk r90.2.1 (joinEsc (AS.mk r89.2.1 (joinEsc s.esc r89.2.2)).esc r90.2.2)).esc r92.2.2)).esc r93.2.2)).H).bind fun r95 =>
(C n_twainref46_Suspect [t7, t8] (AS.mk r95.2.1 (joinEsc (AS.mk r93.2.1 (joinEsc (AS.mk r92.2.1 (joinEsc (AS.mk r90.2.1 (joinEsc (AS.mk r89.2.1 (joinEsc s.esc r89.2.2)).esc r90.2.2)).esc r92.2.2)).esc r93.2.2)).esc r95.2.2)).H).bind fun r96 =>
(aBin PP .eql t_uint64 (.tmp 168) (.tmp 171) r95.1 r96.1).bind fun x97 =>
bcase x97 (
(C n_twainlaw46_lives [] (AS.mk r96.2.1 (joinEsc (AS.mk r95.2.1 (joinEsc (AS.mk r93.2.1 (joinEsc (AS.mk r92.2.1 (joinEsc (AS.mk r90.2.1 (joinEsc (AS.mk r89.2.1 (joinEsc s.esc r89.2.2)).esc r90.2.2)).esc r92.2.2)).esc r93.2.2)).esc r95.2.2)).esc r96.2.2)).H).bind fun r98 =>
fin PP false n0 [r98.1] (AS.mk r98.2.1 (joinEsc (AS.mk r96.2.1 (joinEsc (AS.mk r95.2.1 (joinEsc (AS.mk r93.2.1 (joinEsc (AS.mk r92.2.1 (joinEsc (AS.mk r90.2.1 (joinEsc (AS.mk r89.2.1 (joinEsc s.esc r89.2.2)).esc r90.2.2)).esc r92.2.2)).esc r93.2.2)).esc r95.2.2)).esc r96.2.2)).esc r98.2.2))) (
fin PP false n0 [.bool false] (AS.mk r96.2.1 (joinEsc (AS.mk r95.2.1 (joinEsc (AS.mk r93.2.1 (joinEsc (AS.mk r92.2.1 (joinEsc (AS.mk r90.2.1 (joinEsc (AS.mk r89.2.1 (joinEsc s.esc r89.2.2)).esc r90.2.2)).esc r92.2.2)).esc r93.2.2)).esc r95.2.2)).esc r96.2.2)))) (
fin PP false n0 [.bool false] (AS.mk r93.2.1 (joinEsc (AS.mk r92.2.1 (joinEsc (AS.mk r90.2.1 (joinEsc (AS.mk r89.2.1 (joinEsc s.esc r89.2.2)).esc r90.2.2)).esc r92.2.2)).esc r93.2.2)))) (
fin PP false n0 [.bool false] (AS.mk r90.2.1 (joinEsc (AS.mk r89.2.1 (joinEsc s.esc r89.2.2)).esc r90.2.2)))
noncomputable def j6 (C : Am.Callee) (L : Loops) (n0 : Nat) (t7 t8 t9 t11 t13 t15 : Value) (s : AS) : Option (Value × List Blk × Option Nat) :=
(C n_compare_Sums [t9] s.H).bind fun r74 =>
(C n_twainref46_Sums [t13] (AS.mk r74.2.1 (joinEsc s.esc r74.2.2)).H).bind fun r75 =>
(aLen PP t_L_uint32 r74.1 (AS.mk r75.2.1 (joinEsc (AS.mk r74.2.1 (joinEsc s.esc r74.2.2)).esc r75.2.2))).bind fun x76 =>
(aLen PP t_L_uint32 r75.1 (AS.mk r75.2.1 (joinEsc (AS.mk r74.2.1 (joinEsc s.esc r74.2.2)).esc r75.2.2))).bind fun x77 =>
(aBin PP .neq t_int (.tmp 130) (.tmp 132) x76 x77).bind fun x78 =>
bcase x78 (
fin PP false n0 [.bool false] (AS.mk r75.2.1 (joinEsc (AS.mk r74.2.1 (joinEsc s.esc r74.2.2)).esc r75.2.2))) (
((aLen PP t_L_uint32 r74.1 (AS.mk r75.2.1 (joinEsc (AS.mk r74.2.1 (joinEsc s.esc r74.2.2)).esc r75.2.2))).bind fun x79 =>
(L n0 (loop26s C L n0) ([t7, t8, t9, t11, t13, t15, r74.1, r75.1, x79, .int .i64 0], AS.mk r75.2.1 (joinEsc (AS.mk r74.2.1 (joinEsc s.esc r74.2.2)).esc r75.2.2))).bind fun r87 =>
match r87.1 with
| .normal => some (AEx.normal, [(r87.2.1.getD 0 unk), (r87.2.1.getD 1 unk), (r87.2.1.getD 2 unk), (r87.2.1.getD 3 unk), (r87.2.1.getD 4 unk), (r87.2.1.getD 5 unk), (r87.2.1.getD 6 unk)], r87.2.2)
| .exit i => if i = 2 then some (AEx.normal, [(r87.2.1.getD 0 unk), (r87.2.1.getD 1 unk), (r87.2.1.getD 2 unk), (r87.2.1.getD 3 unk), (r87.2.1.getD 4 unk), (r87.2.1.getD 5 unk), (r87.2.1.getD 6 unk)], r87.2.2) else some (AEx.exit i, [(r87.2.1.getD 0 unk), (r87.2.1.getD 1 unk), (r87.2.1.getD 2 unk), (r87.2.1.getD 3 unk), (r87.2.1.getD 4 unk), (r87.2.1.getD 5 unk), (r87.2.1.getD 6 unk)], r87.2.2)
| .ret => some (AEx.ret, [(r87.2.1.getD 0 unk), (r87.2.1.getD 1 unk), (r87.2.1.getD 2 unk), (r87.2.1.getD 3 unk), (r87.2.1.getD 4 unk), (r87.2.1.getD 5 unk), (r87.2.1.getD 6 unk)], r87.2.2)).bind fun r88 =>
match r88.1 with
| .normal => j9 C L n0 ((r88.2.1.getD 1 unk)) ((r88.2.1.getD 2 unk)) ((r88.2.1.getD 3 unk)) ((r88.2.1.getD 4 unk)) ((r88.2.1.getD 5 unk)) ((r88.2.1.getD 6 unk)) r88.2.2
| .exit i => none
| .ret => fin PP false n0 [(r88.2.1.getD 0 unk)] r88.2.2)
noncomputable def j1 (C : Am.Callee) (L : Loops) (n0 : Nat) (t0 t5 t6 t7 t8 : Value) (s : AS) : Option (Value × List Blk × Option Nat) :=
(C n_disk_New [t5] s.H).bind fun r23 =>
(pureRun PP (Instr.extract r23.1 0)).bind fun x24 =>
(pureRun PP (Instr.extract r23.1 1)).bind fun x25 =>
(C n_disk_New [t6] (AS.mk r23.2.1 (joinEsc s.esc r23.2.2)).H).bind fun r26 =>
(pureRun PP (Instr.extract r26.1 0)).bind fun x27 =>
(pureRun PP (Instr.extract r26.1 1)).bind fun x28 =>
(C n_twainref06_New [t5] (AS.mk r26.2.1 (joinEsc (AS.mk r23.2.1 (joinEsc s.esc r23.2.2)).esc r26.2.2)).H).bind fun r29 =>
(pureRun PP (Instr.extract r29.1 0)).bind fun x30 =>
(pureRun PP (Instr.extract r29.1 1)).bind fun x31 =>
(C n_twainref06_New [t6] (AS.mk r29.2.1 (joinEsc (AS.mk r26.2.1 (joinEsc (AS.mk r23.2.1 (joinEsc s.esc r23.2.2)).esc r26.2.2)).esc r29.2.2)).H).bind fun r32 =>
(pureRun PP (Instr.extract r32.1 0)).bind fun x33 =>
(pureRun PP (Instr.extract r32.1 1)).bind fun x34 =>
((aLen PP t_L_twainlaw46_Fill t0 (AS.mk r32.2.1 (joinEsc (AS.mk r29.2.1 (joinEsc (AS.mk r26.2.1 (joinEsc (AS.mk r23.2.1 (joinEsc s.esc r23.2.2)).esc r26.2.2)).esc r29.2.2)).esc r32.2.2))).bind fun x35 =>
(L n0 (loop9s C L n0) ([t7, t8, x24, x27, x30, x33, t0, x35, .int .i64 0], AS.mk r32.2.1 (joinEsc (AS.mk r29.2.1 (joinEsc (AS.mk r26.2.1 (joinEsc (AS.mk r23.2.1 (joinEsc s.esc r23.2.2)).esc r26.2.2)).esc r29.2.2)).esc r32.2.2))).bind fun r72 =>
match r72.1 with
| .normal => some (AEx.normal, [(r72.2.1.getD 0 unk), (r72.2.1.getD 1 unk), (r72.2.1.getD 2 unk), (r72.2.1.getD 3 unk), (r72.2.1.getD 4 unk), (r72.2.1.getD 5 unk)], r72.2.2)
| .exit i => if i = 0 then some (AEx.normal, [(r72.2.1.getD 0 unk), (r72.2.1.getD 1 unk), (r72.2.1.getD 2 unk), (r72.2.1.getD 3 unk), (r72.2.1.getD 4 unk), (r72.2.1.getD 5 unk)], r72.2.2) else some (AEx.exit i, [(r72.2.1.getD 0 unk), (r72.2.1.getD 1 unk), (r72.2.1.getD 2 unk), (r72.2.1.getD 3 unk), (r72.2.1.getD 4 unk), (r72.2.1.getD 5 unk)], r72.2.2)
| .ret => some (AEx.ret, [(r72.2.1.getD 0 unk), (r72.2.1.getD 1 unk), (r72.2.1.getD 2 unk), (r72.2.1.getD 3 unk), (r72.2.1.getD 4 unk), (r72.2.1.getD 5 unk)], r72.2.2)).bind fun r73 =>
match r73.1 with
| .normal => j6 C L n0 ((r73.2.1.getD 0 unk)) ((r73.2.1.getD 1 unk)) ((r73.2.1.getD 2 unk)) ((r73.2.1.getD 3 unk)) ((r73.2.1.getD 4 unk)) ((r73.2.1.getD 5 unk)) r73.2.2
| .exit i => none
| .ret => fin PP false n0 [unk] r73.2.2
noncomputable def sh (C : Am.Callee) (L : Loops) (n0 : Nat) (t0 t1 : Value) (s : AS) : Option (Value × List Blk × Option Nat) :=
(aBox t_twainlaw46_Case t1 s).bind fun r1 =>
(aFieldAddr PP t_twainlaw46_Case r1.1 0).bind fun x2 =>
(aLoad false 1 r1.2 x2).bind fun x3 =>
(aFieldAddr PP t_twainlaw46_Case r1.1 1).bind fun x4 =>
(aLoad false 1 r1.2 x4).bind fun x5 =>
(aFieldAddr PP t_twainlaw46_Case r1.1 2).bind fun x6 =>
(aLoad false 1 r1.2 x6).bind fun x7 =>
(aFieldAddr PP t_twainlaw46_Case r1.1 3).bind fun x8 =>
(aLoad false 1 r1.2 x8).bind fun x9 =>
(((aBin PP .lss t_int (.tmp 30) (.const (.int .i64 1)) x3 (.int .i64 1)).bind fun x10 =>
bcase x10 (
some (AEx.normal, [t0, x3, x5, x7, x9, .bool true], r1.2)) (
(aBin PP .gtr t_int (.tmp 33) (.const (.int .i64 300)) x3 (.int .i64 300)).bind fun x11 =>
bcase x11 (
some (AEx.normal, [t0, x3, x5, x7, x9, .bool true], r1.2)) (
(aBin PP .lss t_int (.tmp 37) (.const (.int .i64 1)) x5 (.int .i64 1)).bind fun x12 =>
bcase x12 (
some (AEx.normal, [t0, x3, x5, x7, x9, .bool true], r1.2)) (
(aBin PP .gtr t_int (.tmp 41) (.const (.int .i64 300)) x5 (.int .i64 300)).bind fun x13 =>
bcase x13 (
some (AEx.normal, [t0, x3, x5, x7, x9, .bool true], r1.2)) (
(aLen PP t_L_twainlaw46_Fill t0 r1.2).bind fun x14 =>
(aBin PP .gtr t_int (.tmp 46) (.const (.int .i64 60)) x14 (.int .i64 60)).bind fun x15 =>
bcase x15 (
some (AEx.normal, [t0, x3, x5, x7, x9, .bool true], r1.2)) (
(aLen PP t_L_uint32 x7 r1.2).bind fun x16 =>
(aBin PP .gtr t_int (.tmp 51) (.const (.int .i64 100)) x16 (.int .i64 100)).bind fun x17 =>
bcase x17 (
some (AEx.normal, [t0, x3, x5, x7, x9, .bool true], r1.2)) (
(aLen PP t_L_uint32 x9 r1.2).bind fun x18 =>
(aBin PP .gtr t_int (.tmp 56) (.const (.int .i64 100)) x18 (.int .i64 100)).bind fun x19 =>
some (AEx.normal, [t0, x3, x5, x7, x9, x19], r1.2)))))))).bind fun r20 =>
match r20.1 with
| .normal => j0 C L n0 ((r20.2.1.getD 0 unk)) ((r20.2.1.getD 1 unk)) ((r20.2.1.getD 2 unk)) ((r20.2.1.getD 3 unk)) ((r20.2.1.getD 4 unk)) ((r20.2.1.getD 5 unk)) r20.2.2
| .exit i => some (AEx.exit i, [(r20.2.1.getD 0 unk), unk, (r20.2.1.getD 1 unk), (r20.2.1.getD 2 unk), (r20.2.1.getD 3 unk), (r20.2.1.getD 4 unk)], r20.2.2)
| .ret => some (AEx.ret, [(r20.2.1.getD 0 unk), unk, (r20.2.1.getD 1 unk), (r20.2.1.getD 2 unk), (r20.2.1.getD 3 unk), (r20.2.1.getD 4 unk)], r20.2.2)).bind fun r22 =>
match r22.1 with
| .normal => j1 C L n0 ((r22.2.1.getD 0 unk)) ((r22.2.1.getD 2 unk)) ((r22.2.1.getD 3 unk)) ((r22.2.1.getD 4 unk)) ((r22.2.1.getD 5 unk)) r22.2.2
| .exit i => none
| .ret => fin PP false n0 [(r22.2.1.getD 1 unk)] r22.2.2
def T : Tab := ⟨fun i => if i = 9 then some [7, 8, 9, 11, 13, 15, 80, 81, 82] else if i = 26 then some [7, 8, 9, 11, 13, 15, 19, 20, 135, 136] else none, fun i => if i = 9 then some [7, 8, 9, 11, 13, 15] else if i = 26 then some [4, 7, 8, 9, 11, 13, 15] else none, false, fun i => if i = 3 then some [0, 5, 6, 7, 8, 58] else if i = 4 then some [0, 4, 5, 6, 7, 8] else if i = 16 then some [7, 8, 9, 11, 13, 15, 17, 80, 81, 82] else if i = 21 then some [7, 8, 9, 11, 13, 15, 80, 81, 82] else if i = 22 then some [7, 8, 9, 11, 13, 15] else if i = 31 then some [4, 7, 8, 9, 11, 13, 15] else none, fun _ => false, false, false, fun _ => false, 3, false⟩
end twainlaw46_CompareTells
namespace twainlaw46_lives
noncomputable def sh (C : Am.Callee) (L : Loops) (n0 : Nat) (s : AS) : Option (Value × List Blk × Option Nat) :=
(C n_disk_New [.int .i64 16] s.H).bind fun r1 =>
(pureRun PP (Instr.extract r1.1 0)).bind fun x2 =>
(pureRun PP (Instr.extract r1.1 1)).bind fun x3 =>
(C n_disk_New [.int .i64 16] (AS.mk r1.2.1 (joinEsc s.esc r1.2.2)).H).bind fun r4 =>
(pureRun PP (Instr.extract r4.1 0)).bind fun x5 =>
(pureRun PP (Instr.extract r4.1 1)).bind fun x6 =>
(aBuild PP t_api_Span [(0, .int .i64 4), (1, .int .i64 1)]).bind fun x7 =>
(bsl PP t_L_uint8 16 [0, 1, 2, 3, 4, 5, 6, 7, 8, 9, 10, 11, 12, 13, 14, 15] [.int .u8 115, .int .u8 105, .int .u8 120, .int .u8 116, .int .u8 101, .int .u8 101, .int .u8 110, .int .u8 32, .int .u8 98, .int .u8 121, .int .u8 116, .int .u8 101, .int .u8 115, .int .u8 46, .int .u8 46, .int .u8 32] (AS.mk r4.2.1 (joinEsc (AS.mk r1.2.1 (joinEsc s.esc r1.2.2)).esc r4.2.2))).bind fun r8 =>
(aConv PP t_L_uint8 t_L_uint8 r8.1 r8.2).bind fun r9 =>
(C n_data_Write [x2, x7, r9.1] r9.2.H).bind fun r10 =>
(C n_P_disk_Disk_Flush [x2] (AS.mk r10.2.1 (joinEsc r9.2.esc r10.2.2)).H).bind fun r11 =>
(aBin PP .eql t_api_Errno (.tmp 22) (.const (.int .i64 0)) r10.1 (.int .i64 0)).bind fun x12 =>
bcase x12 (
(aBin PP .eql t_api_Errno (.tmp 25) (.const (.int .i64 0)) r11.1 (.int .i64 0)).bind fun x13 =>
bcase x13 (
(C n_compare_Unlike [x2, x5] (AS.mk r11.2.1 (joinEsc (AS.mk r10.2.1 (joinEsc r9.2.esc r10.2.2)).esc r11.2.2)).H).bind fun r14 =>
(aBin PP .eql t_uint64 (.tmp 31) (.const (.int .u64 2)) r14.1 (.int .u64 2)).bind fun x15 =>
bcase x15 (
(C n_compare_Sums [x2] (AS.mk r14.2.1 (joinEsc (AS.mk r11.2.1 (joinEsc (AS.mk r10.2.1 (joinEsc r9.2.esc r10.2.2)).esc r11.2.2)).esc r14.2.2)).H).bind fun r16 =>
(aLen PP t_L_uint32 r16.1 (AS.mk r16.2.1 (joinEsc (AS.mk r14.2.1 (joinEsc (AS.mk r11.2.1 (joinEsc (AS.mk r10.2.1 (joinEsc r9.2.esc r10.2.2)).esc r11.2.2)).esc r14.2.2)).esc r16.2.2))).bind fun x17 =>
(aBin PP .eql t_int (.tmp 37) (.const (.int .i64 2)) x17 (.int .i64 2)).bind fun x18 =>
bcase x18 (
(C n_compare_Sums [x2] (AS.mk r16.2.1 (joinEsc (AS.mk r14.2.1 (joinEsc (AS.mk r11.2.1 (joinEsc (AS.mk r10.2.1 (joinEsc r9.2.esc r10.2.2)).esc r11.2.2)).esc r14.2.2)).esc r16.2.2)).H).bind fun r19 =>
(C n_compare_Sums [x5] (AS.mk r19.2.1 (joinEsc (AS.mk r16.2.1 (joinEsc (AS.mk r14.2.1 (joinEsc (AS.mk r11.2.1 (joinEsc (AS.mk r10.2.1 (joinEsc r9.2.esc r10.2.2)).esc r11.2.2)).esc r14.2.2)).esc r16.2.2)).esc r19.2.2)).H).bind fun r20 =>
(C n_compare_Suspect [r19.1, r20.1] (AS.mk r20.2.1 (joinEsc (AS.mk r19.2.1 (joinEsc (AS.mk r16.2.1 (joinEsc (AS.mk r14.2.1 (joinEsc (AS.mk r11.2.1 (joinEsc (AS.mk r10.2.1 (joinEsc r9.2.esc r10.2.2)).esc r11.2.2)).esc r14.2.2)).esc r16.2.2)).esc r19.2.2)).esc r20.2.2)).H).bind fun r21 =>
(aBin PP .eql t_uint64 (.tmp 45) (.const (.int .u64 2)) r21.1 (.int .u64 2)).bind fun x22 =>
fin PP false n0 [x22] (AS.mk r21.2.1 (joinEsc (AS.mk r20.2.1 (joinEsc (AS.mk r19.2.1 (joinEsc (AS.mk r16.2.1 (joinEsc (AS.mk r14.2.1 (joinEsc (AS.mk r11.2.1 (joinEsc (AS.mk r10.2.1 (joinEsc r9.2.esc r10.2.2)).esc r11.2.2)).esc r14.2.2)).esc r16.2.2)).esc r19.2.2)).esc r20.2.2)).esc r21.2.2))) (
fin PP false n0 [.bool false] (AS.mk r16.2.1 (joinEsc (AS.mk r14.2.1 (joinEsc (AS.mk r11.2.1 (joinEsc (AS.mk r10.2.1 (joinEsc r9.2.esc r10.2.2)).esc r11.2.2)).esc r14.2.2)).esc r16.2.2)))) (
fin PP false n0 [.bool false] (AS.mk r14.2.1 (joinEsc (AS.mk r11.2.1 (joinEsc (AS.mk r10.2.1 (joinEsc r9.2.esc r10.2.2)).esc r11.2.2)).esc r14.2.2)))) (
fin PP false n0 [.bool false] (AS.mk r11.2.1 (joinEsc (AS.mk r10.2.1 (joinEsc r9.2.esc r10.2.2)).esc r11.2.2)))) (
fin PP false n0 [.bool false] (AS.mk r11.2.1 (joinEsc (AS.mk r10.2.1 (joinEsc r9.2.esc r10.2.2)).esc r11.2.2)))
def T : Tab := ⟨fun i => none, fun i => none, false, fun i => none, fun _ => false, true, false, fun _ => false, 4, false⟩
end twainlaw46_lives
namespace disk_New
noncomputable def j0 (C : Am.Callee) (L : Loops) (n0 : Nat) (t0 t9 : Value) (s : AS) : Option (AEx × List Value × AS) :=
bcase t9 (
some (AEx.ret, [t0, .pointer none, .int .i64 2], s)) (
some (AEx.normal, [t0, unk, unk], s))
noncomputable def j1 (C : Am.Callee) (L : Loops) (n0 : Nat) (t0 : Value) (s : AS) : Option (Value × List Blk × Option Nat) :=
(aMakeSlice PP t_L_api_Sector t0 t0 s).bind fun r5 =>
(aBuild PP t_disk_Disk [(0, r5.1), (1, .map (some r5.2.H.length)), (2, .int .i64 (-1))]).bind fun x6 =>
(aBox t_disk_Disk x6 (newBlk r5.2 (.map [] 0))).bind fun r7 =>
fin PP false n0 [r7.1, .int .i64 0] r7.2
noncomputable def sh (C : Am.Callee) (L : Loops) (n0 : Nat) (t0 : Value) (s : AS) : Option (Value × List Blk × Option Nat) :=
(((aBin PP .lss t_int (.tmp 4) (.const (.int .i64 1)) t0 (.int .i64 1)).bind fun x1 =>
bcase x1 (
some (AEx.normal, [t0, .bool true], s)) (
(aBin PP .gtr t_int (.tmp 7) (.const (.int .i64 1024)) t0 (.int .i64 1024)).bind fun x2 =>
some (AEx.normal, [t0, x2], s))).bind fun r3 =>
match r3.1 with
| .normal => j0 C L n0 ((r3.2.1.getD 0 unk)) ((r3.2.1.getD 1 unk)) r3.2.2
| .exit i => some (AEx.exit i, [(r3.2.1.getD 0 unk), unk, unk], r3.2.2)
| .ret => some (AEx.ret, [(r3.2.1.getD 0 unk), unk, unk], r3.2.2)).bind fun r4 =>
match r4.1 with
| .normal => j1 C L n0 ((r4.2.1.getD 0 unk)) r4.2.2
| .exit i => none
| .ret => fin PP false n0 [(r4.2.1.getD 1 unk), (r4.2.1.getD 2 unk)] r4.2.2
def T : Tab := ⟨fun i => none, fun i => none, false, fun i => if i = 2 then some [0, 9] else if i = 3 then some [0, 2, 3] else none, fun _ => false, false, false, fun _ => false, 5, false⟩
end disk_New
namespace twainref06_New
noncomputable def j0 (C : Am.Callee) (L : Loops) (n0 : Nat) (t0 t11 : Value) (s : AS) : Option (AEx × List Value × AS) :=
bcase t11 (
some (AEx.ret, [t0, .pointer none, .int .i64 2], s)) (
some (AEx.normal, [t0, unk, unk], s))
noncomputable def loop5 (C : Am.Callee) (L : Loops) (n0 : Nat) (t0 t4 t5 : Value) (s : AS) : Option ((List Value × AS) ⊕ (AEx × List Value × AS)) :=
(aBin PP .lss t_int (.tmp 14) (.tmp 15) t5 t0).bind fun x7 =>
bcase x7 (
(aNil t4).bind fun x8 =>
(aFieldAddr PP t_twainref06_Disk x8 0).bind fun x9 =>
(aLoad false 1 s x9).bind fun x10 =>
(aBuild PP t_twainref06_Cell []).bind fun x11 =>
(bsl PP t_L_twainref06_Cell 1 [0] [x11] s).bind fun r12 =>
eBuiltin PP .append #[t_L_twainref06_Cell, t_L_twainref06_Cell] [x10, r12.1] r12.2 fun x13 s14 =>
(aNil t4).bind fun x15 =>
(aFieldAddr PP t_twainref06_Disk x15 0).bind fun x16 =>
(aStore 1 s14 x16 x13).bind fun s17 =>
(aBin PP .add t_int (.tmp 17) (.const (.int .i64 1)) t5 (.int .i64 1)).bind fun x18 =>
some (.inl ([t0, t4, x18], s17))) (
some (.inr (.exit 0, [t4], s)))
noncomputable def loop5s (C : Am.Callee) (L : Loops) (n0 : Nat) : List Value × AS → Option ((List Value × AS) ⊕ (AEx × List Value × AS)) := fun s => loop5 C L n0 (s.1.getD 0 unk) (s.1.getD 1 unk) (s.1.getD 2 unk) s.2
noncomputable def j4 (C : Am.Callee) (L : Loops) (n0 : Nat) (t4 : Value) (s : AS) : Option (Value × List Blk × Option Nat) :=
fin PP false n0 [t4, .int .i64 0] s
noncomputable def j1 (C : Am.Callee) (L : Loops) (n0 : Nat) (t0 : Value) (s : AS) : Option (Value × List Blk × Option Nat) :=
(aBuild PP t_twainref06_Disk [(1, .int .i64 (-1))]).bind fun x5 =>
(aBox t_twainref06_Disk x5 s).bind fun r6 =>
((L n0 (loop5s C L n0) ([t0, r6.1, .int .i64 0], r6.2)).bind fun r19 =>
match r19.1 with
| .normal => some (AEx.normal, [(r19.2.1.getD 0 unk)], r19.2.2)
| .exit i => if i = 0 then some (AEx.normal, [(r19.2.1.getD 0 unk)], r19.2.2) else some (AEx.exit i, [(r19.2.1.getD 0 unk)], r19.2.2)
| .ret => some (AEx.ret, [(r19.2.1.getD 0 unk)], r19.2.2)).bind fun r20 =>
match r20.1 with
| .normal => j4 C L n0 ((r20.2.1.getD 0 unk)) r20.2.2
| .exit i => none
| .ret => fin PP false n0 [unk, unk] r20.2.2
noncomputable def sh (C : Am.Callee) (L : Loops) (n0 : Nat) (t0 : Value) (s : AS) : Option (Value × List Blk × Option Nat) :=
(((aBin PP .lss t_int (.tmp 6) (.const (.int .i64 1)) t0 (.int .i64 1)).bind fun x1 =>
bcase x1 (
some (AEx.normal, [t0, .bool true], s)) (
(aBin PP .gtr t_int (.tmp 9) (.const (.int .i64 1024)) t0 (.int .i64 1024)).bind fun x2 =>
some (AEx.normal, [t0, x2], s))).bind fun r3 =>
match r3.1 with
| .normal => j0 C L n0 ((r3.2.1.getD 0 unk)) ((r3.2.1.getD 1 unk)) r3.2.2
| .exit i => some (AEx.exit i, [(r3.2.1.getD 0 unk), unk, unk], r3.2.2)
| .ret => some (AEx.ret, [(r3.2.1.getD 0 unk), unk, unk], r3.2.2)).bind fun r4 =>
match r4.1 with
| .normal => j1 C L n0 ((r4.2.1.getD 0 unk)) r4.2.2
| .exit i => none
| .ret => fin PP false n0 [(r4.2.1.getD 1 unk), (r4.2.1.getD 2 unk)] r4.2.2
def T : Tab := ⟨fun i => if i = 5 then some [0, 4, 5] else none, fun i => if i = 5 then some [4] else none, false, fun i => if i = 2 then some [0, 11] else if i = 3 then some [0, 2, 3] else if i = 8 then some [4] else none, fun _ => false, false, false, fun _ => false, 6, false⟩
end twainref06_New
namespace P_disk_Disk_Write
noncomputable def sh (C : Am.Callee) (L : Loops) (n0 : Nat) (t0 t1 t2 : Value) (s : AS) : Option (Value × List Blk × Option Nat) :=
(aBox t_api_Sector t2 s).bind fun r1 =>
(C n_P_disk_Disk_Made [t0] r1.2.H).bind fun r2 =>
(aUn PP .not r2.1).bind fun x3 =>
bcase x3 (
fin PP false n0 [.int .i64 1] (AS.mk r2.2.1 (joinEsc r1.2.esc r2.2.2))) (
(C n_P_disk_Disk_has [t0, t1] (AS.mk r2.2.1 (joinEsc r1.2.esc r2.2.2)).H).bind fun r4 =>
(aUn PP .not r4.1).bind fun x5 =>
bcase x5 (
fin PP false n0 [.int .i64 13] (AS.mk r4.2.1 (joinEsc (AS.mk r2.2.1 (joinEsc r1.2.esc r2.2.2)).esc r4.2.2))) (
(C n_P_disk_Disk_spend [t0] (AS.mk r4.2.1 (joinEsc (AS.mk r2.2.1 (joinEsc r1.2.esc r2.2.2)).esc r4.2.2)).H).bind fun r6 =>
(aBin PP .neq t_api_Errno (.tmp 19) (.const (.int .i64 0)) r6.1 (.int .i64 0)).bind fun x7 =>
bcase x7 (
fin PP false n0 [r6.1] (AS.mk r6.2.1 (joinEsc (AS.mk r4.2.1 (joinEsc (AS.mk r2.2.1 (joinEsc r1.2.esc r2.2.2)).esc r4.2.2)).esc r6.2.2))) (
(aNil t0).bind fun x8 =>
(aFieldAddr PP t_disk_Disk x8 1).bind fun x9 =>
(aLoad false 1 (AS.mk r6.2.1 (joinEsc (AS.mk r4.2.1 (joinEsc (AS.mk r2.2.1 (joinEsc r1.2.esc r2.2.2)).esc r4.2.2)).esc r6.2.2)) x9).bind fun x10 =>
(aLoad true 16 (AS.mk r6.2.1 (joinEsc (AS.mk r4.2.1 (joinEsc (AS.mk r2.2.1 (joinEsc r1.2.esc r2.2.2)).esc r4.2.2)).esc r6.2.2)) r1.1).bind fun x11 =>
(aMapUpdate PP t_M_int_api_Sector x10 t1 x11 (AS.mk r6.2.1 (joinEsc (AS.mk r4.2.1 (joinEsc (AS.mk r2.2.1 (joinEsc r1.2.esc r2.2.2)).esc r4.2.2)).esc r6.2.2))).bind fun s12 =>
fin PP false n0 [.int .i64 0] s12)))
def T : Tab := ⟨fun i => none, fun i => none, false, fun i => none, fun _ => false, false, false, fun _ => false, 7, false⟩
end P_disk_Disk_Write
namespace P_twainref06_Disk_Write
noncomputable def sh (C : Am.Callee) (L : Loops) (n0 : Nat) (t0 t1 t2 : Value) (s : AS) : Option (Value × List Blk × Option Nat) :=
(aBox t_api_Sector t2 s).bind fun r1 =>
(C n_P_twainref06_Disk_in [t0, t1] r1.2.H).bind fun r2 =>
(aUn PP .not r2.1).bind fun x3 =>
bcase x3 (
fin PP false n0 [.int .i64 13] (AS.mk r2.2.1 (joinEsc r1.2.esc r2.2.2))) (
(C n_P_twainref06_Disk_burns [t0] (AS.mk r2.2.1 (joinEsc r1.2.esc r2.2.2)).H).bind fun r4 =>
bcase r4.1 (
fin PP false n0 [.int .i64 3] (AS.mk r4.2.1 (joinEsc (AS.mk r2.2.1 (joinEsc r1.2.esc r2.2.2)).esc r4.2.2))) (
(aNil t0).bind fun x5 =>
(aFieldAddr PP t_twainref06_Disk x5 0).bind fun x6 =>
(aLoad false 1 (AS.mk r4.2.1 (joinEsc (AS.mk r2.2.1 (joinEsc r1.2.esc r2.2.2)).esc r4.2.2)) x6).bind fun x7 =>
(aLoad true 16 (AS.mk r4.2.1 (joinEsc (AS.mk r2.2.1 (joinEsc r1.2.esc r2.2.2)).esc r4.2.2)) r1.1).bind fun x8 =>
(aIndexAddr PP t_L_twainref06_Cell x7 t1).bind fun x9 =>
(aFieldAddr PP t_twainref06_Cell x9 1).bind fun x10 =>
(aStore 16 (AS.mk r4.2.1 (joinEsc (AS.mk r2.2.1 (joinEsc r1.2.esc r2.2.2)).esc r4.2.2)) x10 x8).bind fun s11 =>
(aNil t0).bind fun x12 =>
(aFieldAddr PP t_twainref06_Disk x12 0).bind fun x13 =>
(aLoad false 1 s11 x13).bind fun x14 =>
(aIndexAddr PP t_L_twainref06_Cell x14 t1).bind fun x15 =>
(aFieldAddr PP t_twainref06_Cell x15 2).bind fun x16 =>
(aStore 1 s11 x16 (.bool true)).bind fun s17 =>
fin PP false n0 [.int .i64 0] s17))
def T : Tab := ⟨fun i => none, fun i => none, false, fun i => none, fun _ => false, false, false, fun _ => false, 8, false⟩
end P_twainref06_Disk_Write
namespace P_disk_Disk_Flush
noncomputable def loop7 (C : Am.Callee) (L : Loops) (n0 : Nat) {R : Type} (k' : (List Value × AS) ⊕ (AEx × List Value × AS) → Option R) (t0 t18 : Value) (s : AS) : Option R :=
(aNext t18 s).bind fun q9 => L.all q9.1 fun i10 =>
(pureRun PP (Instr.extract ((q9.2 i10).1) 0)).bind fun x11 =>
bcase x11 (
(aEntry t18 ((q9.2 i10).2)).bind fun x12 =>
(pureRun PP (Instr.extract x12 0)).bind fun x13 =>
(pureRun PP (Instr.extract x12 1)).bind fun x14 =>
(aBox t_api_Sector ((zeroP PP t_api_Sector).getD unk) ((q9.2 i10).2)).bind fun r15 =>
(aStore 16 r15.2 r15.1 x14).bind fun s16 =>
(aNil t0).bind fun x17 =>
(aFieldAddr PP t_disk_Disk x17 0).bind fun x18 =>
(aLoad false 1 s16 x18).bind fun x19 =>
(aLoad true 16 s16 r15.1).bind fun x20 =>
(aIndexAddr PP t_L_api_Sector x19 x13).bind fun x21 =>
(aStore 16 s16 x21 x20).bind fun s22 =>
k' (.inl ([t0, t18], s22))) (
k' (.inr (.exit 0, [t0], (q9.2 i10).2)))
noncomputable def loop7s (C : Am.Callee) (L : Loops) (n0 : Nat) {R : Type} : ((List Value × AS) ⊕ (AEx × List Value × AS) → Option R) → List Value × AS → Option R := fun k' s => loop7 C L n0 k' (s.1.getD 0 unk) (s.1.getD 1 unk) s.2
noncomputable def j2 (C : Am.Callee) (L : Loops) (n0 : Nat) (t0 : Value) (s : AS) : Option (Value × List Blk × Option Nat) :=
(aNil t0).bind fun x25 =>
(aFieldAddr PP t_disk_Disk x25 1).bind fun x26 =>
(aLoad false 1 s x26).bind fun x27 =>
eBuiltin PP .clear #[t_M_int_api_Sector] [x27] s fun x28 s29 =>
fin PP false n0 [.int .i64 0] s29
noncomputable def sh (C : Am.Callee) (L : Loops) (n0 : Nat) (t0 : Value) (s : AS) : Option (Value × List Blk × Option Nat) :=
(C n_P_disk_Disk_Made [t0] s.H).bind fun r1 =>
(aUn PP .not r1.1).bind fun x2 =>
bcase x2 (
fin PP false n0 [.int .i64 1] (AS.mk r1.2.1 (joinEsc s.esc r1.2.2))) (
(C n_P_disk_Disk_spend [t0] (AS.mk r1.2.1 (joinEsc s.esc r1.2.2)).H).bind fun r3 =>
(aBin PP .neq t_api_Errno (.tmp 11) (.const (.int .i64 0)) r3.1 (.int .i64 0)).bind fun x4 =>
bcase x4 (
fin PP false n0 [r3.1] (AS.mk r3.2.1 (joinEsc (AS.mk r1.2.1 (joinEsc s.esc r1.2.2)).esc r3.2.2))) (
((aNil t0).bind fun x5 =>
(aFieldAddr PP t_disk_Disk x5 1).bind fun x6 =>
(aLoad false 1 (AS.mk r3.2.1 (joinEsc (AS.mk r1.2.1 (joinEsc s.esc r1.2.2)).esc r3.2.2)) x6).bind fun x7 =>
(aRange PP t_M_int_api_Sector x7 (AS.mk r3.2.1 (joinEsc (AS.mk r1.2.1 (joinEsc s.esc r1.2.2)).esc r3.2.2))).bind fun r8 =>
L.any n0 (loop7s C L n0) ([t0, r8.1], r8.2) fun r23 =>
match r23.1 with
| .normal => some (AEx.normal, [((gc n0 r23.2.1 r23.2.2).1.getD 0 unk)], (gc n0 r23.2.1 r23.2.2).2)
| .exit i => if i = 0 then some (AEx.normal, [((gc n0 r23.2.1 r23.2.2).1.getD 0 unk)], (gc n0 r23.2.1 r23.2.2).2) else some (AEx.exit i, [((gc n0 r23.2.1 r23.2.2).1.getD 0 unk)], (gc n0 r23.2.1 r23.2.2).2)
| .ret => some (AEx.ret, [((gc n0 r23.2.1 r23.2.2).1.getD 0 unk)], (gc n0 r23.2.1 r23.2.2).2)).bind fun r24 =>
match r24.1 with
| .normal => j2 C L n0 ((r24.2.1.getD 0 unk)) r24.2.2
| .exit i => none
| .ret => fin PP false n0 [unk] r24.2.2))
def T : Tab := ⟨fun i => if i = 7 then some [0, 18] else none, fun i => if i = 7 then some [0] else none, false, fun i => if i = 10 then some [0] else none, fun _ => false, false, false, fun _ => false, 9, false⟩
end P_disk_Disk_Flush
namespace P_twainref06_Disk_Flush
noncomputable def sh (C : Am.Callee) (L : Loops) (n0 : Nat) (t0 : Value) (s : AS) : Option (Value × List Blk × Option Nat) :=
(C n_P_twainref06_Disk_burns [t0] s.H).bind fun r1 =>
bcase r1.1 (
fin PP false n0 [.int .i64 3] (AS.mk r1.2.1 (joinEsc s.esc r1.2.2))) (
(C n_P_twainref06_Disk_keep [t0, .bool true, .int .u64 0] (AS.mk r1.2.1 (joinEsc s.esc r1.2.2)).H).bind fun r2 =>
fin PP false n0 [.int .i64 0] (AS.mk r2.2.1 (joinEsc (AS.mk r1.2.1 (joinEsc s.esc r1.2.2)).esc r2.2.2)))
def T : Tab := ⟨fun i => none, fun i => none, false, fun i => none, fun _ => false, false, false, fun _ => false, 10, false⟩
end P_twainref06_Disk_Flush
namespace compare_Sums
noncomputable def loop3 (C : Am.Callee) (L : Loops) (n0 : Nat) (t0 t3 t6 t7 : Value) (s : AS) : Option ((List Value × AS) ⊕ (AEx × List Value × AS)) :=
(aBin PP .lss t_int (.tmp 7) (.tmp 6) t7 t6).bind fun x2 =>
bcase x2 (
(C n_compare_sum [t0, t7] s.H).bind fun r3 =>
(bsl PP t_L_uint32 1 [0] [r3.1] (AS.mk r3.2.1 (joinEsc s.esc r3.2.2))).bind fun r4 =>
eBuiltin PP .append #[t_L_uint32, t_L_uint32] [t3, r4.1] r4.2 fun x5 s6 =>
(aBin PP .add t_int (.tmp 7) (.const (.int .i64 1)) t7 (.int .i64 1)).bind fun x7 =>
some (.inl ([t0, x5, t6, x7], s6))) (
some (.inr (.exit 0, [t3], s)))
noncomputable def loop3s (C : Am.Callee) (L : Loops) (n0 : Nat) : List Value × AS → Option ((List Value × AS) ⊕ (AEx × List Value × AS)) := fun s => loop3 C L n0 (s.1.getD 0 unk) (s.1.getD 1 unk) (s.1.getD 2 unk) (s.1.getD 3 unk) s.2
noncomputable def j2 (C : Am.Callee) (L : Loops) (n0 : Nat) (t3 : Value) (s : AS) : Option (Value × List Blk × Option Nat) :=
fin PP false n0 [t3] s
noncomputable def sh (C : Am.Callee) (L : Loops) (n0 : Nat) (t0 : Value) (s : AS) : Option (Value × List Blk × Option Nat) :=
((C n_compare_extents [t0] s.H).bind fun r1 =>
(L n0 (loop3s C L n0) ([t0, .slice none 0 0, r1.1, .int .i64 0], AS.mk r1.2.1 (joinEsc s.esc r1.2.2))).bind fun r8 =>
match r8.1 with
| .normal => some (AEx.normal, [(r8.2.1.getD 0 unk)], r8.2.2)
| .exit i => if i = 0 then some (AEx.normal, [(r8.2.1.getD 0 unk)], r8.2.2) else some (AEx.exit i, [(r8.2.1.getD 0 unk)], r8.2.2)
| .ret => some (AEx.ret, [(r8.2.1.getD 0 unk)], r8.2.2)).bind fun r9 =>
match r9.1 with
| .normal => j2 C L n0 ((r9.2.1.getD 0 unk)) r9.2.2
| .exit i => none
| .ret => fin PP false n0 [unk] r9.2.2
def T : Tab := ⟨fun i => if i = 3 then some [0, 3, 6, 7] else none, fun i => if i = 3 then some [3] else none, false, fun i => if i = 7 then some [3] else none, fun _ => false, false, false, fun _ => false, 11, false⟩
end compare_Sums
namespace twainref46_Sums
noncomputable def j1 (C : Am.Callee) (L : Loops) (n0 : Nat) (t0 t3 t4 t17 : Value) (s : AS) : Option (AEx × List Value × AS) :=
bcase t17 (
some (AEx.normal, [t0, t3, t4], s)) (
some (AEx.exit 0, [t0, t3, t4], s))
noncomputable def loop7 (C : Am.Callee) (L : Loops) (n0 : Nat) (t0 t3 t4 t5 t6 : Value) (s : AS) : Option ((List Value × AS) ⊕ (AEx × List Value × AS)) :=
(aBin PP .lss t_int (.tmp 20) (.const (.int .i64 4)) t6 (.int .i64 4)).bind fun x7 =>
bcase x7 (
(aBin PP .mul t_int (.const (.int .i64 4)) (.tmp 25) (.int .i64 4) t4).bind fun x8 =>
(aBin PP .add t_int (.const (.int .i64 8)) (.tmp 26) (.int .i64 8) x8).bind fun x9 =>
(aBin PP .add t_int (.tmp 27) (.tmp 28) x9 t6).bind fun x10 =>
(C n_P_twainref06_Disk_Durable [t0, x10] s.H).bind fun r11 =>
(aBox t_api_Sector ((zeroP PP t_api_Sector).getD unk) (AS.mk r11.2.1 (joinEsc s.esc r11.2.2))).bind fun r12 =>
(aStore 16 r12.2 r12.1 r11.1).bind fun s13 =>
(aSlice PP t_api_Sector r12.1 none none none s13).bind fun x14 =>
eBuiltin PP .append #[t_L_uint8, t_L_uint8] [t5, x14] s13 fun x15 s16 =>
(aBin PP .add t_int (.tmp 22) (.const (.int .i64 1)) t6 (.int .i64 1)).bind fun x17 =>
some (.inl ([t0, t3, t4, x15, x17], s16))) (
some (.inr (.exit 2, [t0, t3, t4, t5], s)))
noncomputable def loop7s (C : Am.Callee) (L : Loops) (n0 : Nat) : List Value × AS → Option ((List Value × AS) ⊕ (AEx × List Value × AS)) := fun s => loop7 C L n0 (s.1.getD 0 unk) (s.1.getD 1 unk) (s.1.getD 2 unk) (s.1.getD 3 unk) (s.1.getD 4 unk) s.2
noncomputable def j5 (C : Am.Callee) (L : Loops) (n0 : Nat) (t0 t3 t4 t5 : Value) (s : AS) : Option (AEx × List Value × AS) :=
(C n_twainref03_Sum [t5] s.H).bind fun r20 =>
(bsl PP t_L_uint32 1 [0] [r20.1] (AS.mk r20.2.1 (joinEsc s.esc r20.2.2))).bind fun r21 =>
eBuiltin PP .append #[t_L_uint32, t_L_uint32] [t3, r21.1] r21.2 fun x22 s23 =>
some (AEx.normal, [t0, x22, t4], s23)
noncomputable def j6 (C : Am.Callee) (L : Loops) (n0 : Nat) (t0 t3 t4 : Value) (s : AS) : Option ((List Value × AS) ⊕ (AEx × List Value × AS)) :=
(aBin PP .add t_int (.tmp 18) (.const (.int .i64 1)) t4 (.int .i64 1)).bind fun x25 =>
some (.inl ([t0, t3, x25], s))
noncomputable def j2 (C : Am.Callee) (L : Loops) (n0 : Nat) (t0 t3 t4 : Value) (s : AS) : Option ((List Value × AS) ⊕ (AEx × List Value × AS)) :=
(((L n0 (loop7s C L n0) ([t0, t3, t4, .slice none 0 0, .int .i64 0], s)).bind fun r18 =>
match r18.1 with
| .normal => some (AEx.normal, [(r18.2.1.getD 0 unk), (r18.2.1.getD 1 unk), (r18.2.1.getD 2 unk), (r18.2.1.getD 3 unk)], r18.2.2)
| .exit i => if i = 2 then some (AEx.normal, [(r18.2.1.getD 0 unk), (r18.2.1.getD 1 unk), (r18.2.1.getD 2 unk), (r18.2.1.getD 3 unk)], r18.2.2) else some (AEx.exit i, [(r18.2.1.getD 0 unk), (r18.2.1.getD 1 unk), (r18.2.1.getD 2 unk), (r18.2.1.getD 3 unk)], r18.2.2)
| .ret => some (AEx.ret, [(r18.2.1.getD 0 unk), (r18.2.1.getD 1 unk), (r18.2.1.getD 2 unk), (r18.2.1.getD 3 unk)], r18.2.2)).bind fun r19 =>
match r19.1 with
| .normal => j5 C L n0 ((r19.2.1.getD 0 unk)) ((r19.2.1.getD 1 unk)) ((r19.2.1.getD 2 unk)) ((r19.2.1.getD 3 unk)) r19.2.2
| .exit i => if i = 1 then some (AEx.normal, [(r19.2.1.getD 0 unk), (r19.2.1.getD 1 unk), (r19.2.1.getD 2 unk)], r19.2.2) else some (AEx.exit i, [(r19.2.1.getD 0 unk), (r19.2.1.getD 1 unk), (r19.2.1.getD 2 unk)], r19.2.2)
| .ret => some (AEx.ret, [(r19.2.1.getD 0 unk), (r19.2.1.getD 1 unk), (r19.2.1.getD 2 unk)], r19.2.2)).bind fun r24 =>
match r24.1 with
| .normal => j6 C L n0 ((r24.2.1.getD 0 unk)) ((r24.2.1.getD 1 unk)) ((r24.2.1.getD 2 unk)) r24.2.2
| .exit i => some (.inr (.exit i, [(r24.2.1.getD 1 unk)], r24.2.2))
| .ret => some (.inr (.ret, [(r24.2.1.getD 1 unk)], r24.2.2))
noncomputable def loop3 (C : Am.Callee) (L : Loops) (n0 : Nat) (t0 t3 t4 : Value) (s : AS) : Option ((List Value × AS) ⊕ (AEx × List Value × AS)) :=
((aBin PP .mul t_int (.const (.int .i64 4)) (.tmp 8) (.int .i64 4) t4).bind fun x1 =>
(aBin PP .add t_int (.tmp 9) (.const (.int .i64 4)) x1 (.int .i64 4)).bind fun x2 =>
(C n_twainref12_Sectors [t0] s.H).bind fun r3 =>
(aBin PP .leq t_int (.tmp 10) (.tmp 12) x2 r3.1).bind fun x4 =>
bcase x4 (
(aBin PP .lss t_int (.tmp 15) (.const (.int .i64 64)) t4 (.int .i64 64)).bind fun x5 =>
j1 C L n0 t0 t3 t4 x5 (AS.mk r3.2.1 (joinEsc s.esc r3.2.2))) (
j1 C L n0 t0 t3 t4 (.bool false) (AS.mk r3.2.1 (joinEsc s.esc r3.2.2)))).bind fun r6 =>
match r6.1 with
| .normal => j2 C L n0 ((r6.2.1.getD 0 unk)) ((r6.2.1.getD 1 unk)) ((r6.2.1.getD 2 unk)) r6.2.2
| .exit i => some (.inr (.exit i, [(r6.2.1.getD 1 unk)], r6.2.2))
| .ret => some (.inr (.ret, [(r6.2.1.getD 1 unk)], r6.2.2))
noncomputable def loop3s (C : Am.Callee) (L : Loops) (n0 : Nat) : List Value × AS → Option ((List Value × AS) ⊕ (AEx × List Value × AS)) := fun s => loop3 C L n0 (s.1.getD 0 unk) (s.1.getD 1 unk) (s.1.getD 2 unk) s.2
noncomputable def j8 (C : Am.Callee) (L : Loops) (n0 : Nat) (t3 : Value) (s : AS) : Option (Value × List Blk × Option Nat) :=
fin PP false n0 [t3] s
noncomputable def sh (C : Am.Callee) (L : Loops) (n0 : Nat) (t0 : Value) (s : AS) : Option (Value × List Blk × Option Nat) :=
((L n0 (loop3s C L n0) ([t0, .slice none 0 0, .int .i64 0], s)).bind fun r26 =>
match r26.1 with
| .normal => some (AEx.normal, [(r26.2.1.getD 0 unk)], r26.2.2)
| .exit i => if i = 0 then some (AEx.normal, [(r26.2.1.getD 0 unk)], r26.2.2) else some (AEx.exit i, [(r26.2.1.getD 0 unk)], r26.2.2)
| .ret => some (AEx.ret, [(r26.2.1.getD 0 unk)], r26.2.2)).bind fun r27 =>
match r27.1 with
| .normal => j8 C L n0 ((r27.2.1.getD 0 unk)) r27.2.2
| .exit i => none
| .ret => fin PP false n0 [unk] r27.2.2
def T : Tab := ⟨fun i => if i = 3 then some [0, 3, 4] else if i = 7 then some [0, 3, 4, 5, 6] else none, fun i => if i = 3 then some [3] else if i = 7 then some [0, 3, 4, 5] else none, false, fun i => if i = 4 then some [0, 3, 4] else if i = 5 then some [0, 3, 4] else if i = 11 then some [0, 3, 4, 5] else if i = 12 then some [3] else none, fun _ => false, false, false, fun _ => false, 12, false⟩
end twainref46_Sums
namespace compare_Unlike
noncomputable def j1 (C : Am.Callee) (L : Loops) (n0 : Nat) (t0 t1 t5 t11 t12 : Value) (s : AS) : Option ((List Value × AS) ⊕ (AEx × List Value × AS)) :=
(aBin PP .add t_int (.tmp 12) (.const (.int .i64 1)) t12 (.int .i64 1)).bind fun x12 =>
some (.inl ([t0, t1, t5, t11, x12], s))
noncomputable def loop3 (C : Am.Callee) (L : Loops) (n0 : Nat) (t0 t1 t5 t11 t12 : Value) (s : AS) : Option ((List Value × AS) ⊕ (AEx × List Value × AS)) :=
(aBin PP .lss t_int (.tmp 12) (.tmp 11) t12 t11).bind fun x5 =>
bcase x5 (
((C n_compare_at [t0, t12] s.H).bind fun r6 =>
(C n_compare_at [t1, t12] (AS.mk r6.2.1 (joinEsc s.esc r6.2.2)).H).bind fun r7 =>
(aBin PP .neq t_api_Sector (.tmp 17) (.tmp 20) r6.1 r7.1).bind fun x8 =>
bcase x8 (
(aBin PP .quo t_int (.tmp 23) (.const (.int .i64 4)) t12 (.int .i64 4)).bind fun x9 =>
(C n_bits_With [t5, x9] (AS.mk r7.2.1 (joinEsc (AS.mk r6.2.1 (joinEsc s.esc r6.2.2)).esc r7.2.2)).H).bind fun r10 =>
some (AEx.normal, [t0, t1, r10.1, t11, t12], AS.mk r10.2.1 (joinEsc (AS.mk r7.2.1 (joinEsc (AS.mk r6.2.1 (joinEsc s.esc r6.2.2)).esc r7.2.2)).esc r10.2.2))) (
some (AEx.normal, [t0, t1, t5, t11, t12], AS.mk r7.2.1 (joinEsc (AS.mk r6.2.1 (joinEsc s.esc r6.2.2)).esc r7.2.2)))).bind fun r11 =>
match r11.1 with
| .normal => j1 C L n0 ((r11.2.1.getD 0 unk)) ((r11.2.1.getD 1 unk)) ((r11.2.1.getD 2 unk)) ((r11.2.1.getD 3 unk)) ((r11.2.1.getD 4 unk)) r11.2.2
| .exit i => some (.inr (.exit i, [(r11.2.1.getD 2 unk)], r11.2.2))
| .ret => some (.inr (.ret, [(r11.2.1.getD 2 unk)], r11.2.2))) (
some (.inr (.exit 0, [t5], s)))
noncomputable def loop3s (C : Am.Callee) (L : Loops) (n0 : Nat) : List Value × AS → Option ((List Value × AS) ⊕ (AEx × List Value × AS)) := fun s => loop3 C L n0 (s.1.getD 0 unk) (s.1.getD 1 unk) (s.1.getD 2 unk) (s.1.getD 3 unk) (s.1.getD 4 unk) s.2
noncomputable def j3 (C : Am.Callee) (L : Loops) (n0 : Nat) (t5 : Value) (s : AS) : Option (Value × List Blk × Option Nat) :=
fin PP false n0 [t5] s
noncomputable def sh (C : Am.Callee) (L : Loops) (n0 : Nat) (t0 t1 : Value) (s : AS) : Option (Value × List Blk × Option Nat) :=
((C n_data_Sectors [t0] s.H).bind fun r1 =>
(C n_data_Sectors [t1] (AS.mk r1.2.1 (joinEsc s.esc r1.2.2)).H).bind fun r2 =>
eBuiltin PP .min #[t_int, t_int] [r1.1, r2.1] (AS.mk r2.2.1 (joinEsc (AS.mk r1.2.1 (joinEsc s.esc r1.2.2)).esc r2.2.2)) fun x3 s4 =>
(L n0 (loop3s C L n0) ([t0, t1, .int .u64 0, x3, .int .i64 0], s4)).bind fun r13 =>
match r13.1 with
| .normal => some (AEx.normal, [(r13.2.1.getD 0 unk)], r13.2.2)
| .exit i => if i = 0 then some (AEx.normal, [(r13.2.1.getD 0 unk)], r13.2.2) else some (AEx.exit i, [(r13.2.1.getD 0 unk)], r13.2.2)
| .ret => some (AEx.ret, [(r13.2.1.getD 0 unk)], r13.2.2)).bind fun r14 =>
match r14.1 with
| .normal => j3 C L n0 ((r14.2.1.getD 0 unk)) r14.2.2
| .exit i => none
| .ret => fin PP false n0 [unk] r14.2.2
def T : Tab := ⟨fun i => if i = 3 then some [0, 1, 5, 11, 12] else none, fun i => if i = 3 then some [5] else none, false, fun i => if i = 7 then some [0, 1, 5, 11, 12] else if i = 8 then some [5] else none, fun _ => false, false, false, fun _ => false, 13, false⟩
end compare_Unlike
namespace twainref46_Unlike
noncomputable def j1 (C : Am.Callee) (L : Loops) (n0 : Nat) (t0 t1 t5 t6 t16 : Value) (s : AS) : Option (AEx × List Value × AS) :=
bcase t16 (
some (AEx.normal, [t0, t1, t5, t6], s)) (
some (AEx.exit 0, [t0, t1, t5, t6], s))
noncomputable def j3 (C : Am.Callee) (L : Loops) (n0 : Nat) (t0 t1 t5 t6 : Value) (s : AS) : Option ((List Value × AS) ⊕ (AEx × List Value × AS)) :=
(aBin PP .add t_int (.tmp 17) (.const (.int .i64 1)) t6 (.int .i64 1)).bind fun x14 =>
some (.inl ([t0, t1, t5, x14], s))
noncomputable def j2 (C : Am.Callee) (L : Loops) (n0 : Nat) (t0 t1 t5 t6 : Value) (s : AS) : Option ((List Value × AS) ⊕ (AEx × List Value × AS)) :=
((aBin PP .add t_int (.const (.int .i64 8)) (.tmp 20) (.int .i64 8) t6).bind fun x6 =>
(C n_P_twainref06_Disk_Durable [t0, x6] s.H).bind fun r7 =>
(aBin PP .add t_int (.const (.int .i64 8)) (.tmp 24) (.int .i64 8) t6).bind fun x8 =>
(C n_P_twainref06_Disk_Durable [t1, x8] (AS.mk r7.2.1 (joinEsc s.esc r7.2.2)).H).bind fun r9 =>
(aBin PP .neq t_api_Sector (.tmp 22) (.tmp 26) r7.1 r9.1).bind fun x10 =>
bcase x10 (
(aBin PP .quo t_int (.tmp 29) (.const (.int .i64 4)) t6 (.int .i64 4)).bind fun x11 =>
(C n_twainref01_With [t5, x11] (AS.mk r9.2.1 (joinEsc (AS.mk r7.2.1 (joinEsc s.esc r7.2.2)).esc r9.2.2)).H).bind fun r12 =>
some (AEx.normal, [t0, t1, r12.1, t6], AS.mk r12.2.1 (joinEsc (AS.mk r9.2.1 (joinEsc (AS.mk r7.2.1 (joinEsc s.esc r7.2.2)).esc r9.2.2)).esc r12.2.2))) (
some (AEx.normal, [t0, t1, t5, t6], AS.mk r9.2.1 (joinEsc (AS.mk r7.2.1 (joinEsc s.esc r7.2.2)).esc r9.2.2)))).bind fun r13 =>
match r13.1 with
| .normal => j3 C L n0 ((r13.2.1.getD 0 unk)) ((r13.2.1.getD 1 unk)) ((r13.2.1.getD 2 unk)) ((r13.2.1.getD 3 unk)) r13.2.2
| .exit i => some (.inr (.exit i, [(r13.2.1.getD 2 unk)], r13.2.2))
| .ret => some (.inr (.ret, [(r13.2.1.getD 2 unk)], r13.2.2))
noncomputable def loop3 (C : Am.Callee) (L : Loops) (n0 : Nat) (t0 t1 t5 t6 : Value) (s : AS) : Option ((List Value × AS) ⊕ (AEx × List Value × AS)) :=
((C n_twainref12_Sectors [t0] s.H).bind fun r1 =>
(aBin PP .lss t_int (.tmp 7) (.tmp 9) t6 r1.1).bind fun x2 =>
bcase x2 (
(C n_twainref12_Sectors [t1] (AS.mk r1.2.1 (joinEsc s.esc r1.2.2)).H).bind fun r3 =>
(aBin PP .lss t_int (.tmp 12) (.tmp 14) t6 r3.1).bind fun x4 =>
j1 C L n0 t0 t1 t5 t6 x4 (AS.mk r3.2.1 (joinEsc (AS.mk r1.2.1 (joinEsc s.esc r1.2.2)).esc r3.2.2))) (
j1 C L n0 t0 t1 t5 t6 (.bool false) (AS.mk r1.2.1 (joinEsc s.esc r1.2.2)))).bind fun r5 =>
match r5.1 with
| .normal => j2 C L n0 ((r5.2.1.getD 0 unk)) ((r5.2.1.getD 1 unk)) ((r5.2.1.getD 2 unk)) ((r5.2.1.getD 3 unk)) r5.2.2
| .exit i => some (.inr (.exit i, [(r5.2.1.getD 2 unk)], r5.2.2))
| .ret => some (.inr (.ret, [(r5.2.1.getD 2 unk)], r5.2.2))
noncomputable def loop3s (C : Am.Callee) (L : Loops) (n0 : Nat) : List Value × AS → Option ((List Value × AS) ⊕ (AEx × List Value × AS)) := fun s => loop3 C L n0 (s.1.getD 0 unk) (s.1.getD 1 unk) (s.1.getD 2 unk) (s.1.getD 3 unk) s.2
noncomputable def j5 (C : Am.Callee) (L : Loops) (n0 : Nat) (t5 : Value) (s : AS) : Option (Value × List Blk × Option Nat) :=
fin PP false n0 [t5] s
noncomputable def sh (C : Am.Callee) (L : Loops) (n0 : Nat) (t0 t1 : Value) (s : AS) : Option (Value × List Blk × Option Nat) :=
((L n0 (loop3s C L n0) ([t0, t1, .int .u64 0, .int .i64 0], s)).bind fun r15 =>
match r15.1 with
| .normal => some (AEx.normal, [(r15.2.1.getD 0 unk)], r15.2.2)
| .exit i => if i = 0 then some (AEx.normal, [(r15.2.1.getD 0 unk)], r15.2.2) else some (AEx.exit i, [(r15.2.1.getD 0 unk)], r15.2.2)
| .ret => some (AEx.ret, [(r15.2.1.getD 0 unk)], r15.2.2)).bind fun r16 =>
match r16.1 with
| .normal => j5 C L n0 ((r16.2.1.getD 0 unk)) r16.2.2
| .exit i => none
| .ret => fin PP false n0 [unk] r16.2.2
def T : Tab := ⟨fun i => if i = 3 then some [0, 1, 5, 6] else none, fun i => if i = 3 then some [5] else none, false, fun i => if i = 4 then some [0, 1, 5, 6] else if i = 5 then some [0, 1, 5, 6] else if i = 7 then some [5] else none, fun _ => false, false, false, fun _ => false, 14, false⟩
end twainref46_Unlike
namespace compare_Known
noncomputable def sh (C : Am.Callee) (L : Loops) (n0 : Nat) (t0 t1 : Value) (s : AS) : Option (Value × List Blk × Option Nat) :=
(C n_meta_Look [t0] s.H).bind fun r1 =>
(C n_meta_Mine [r1.1] (AS.mk r1.2.1 (joinEsc s.esc r1.2.2)).H).bind fun r2 =>
(C n_meta_Look [t1] (AS.mk r2.2.1 (joinEsc (AS.mk r1.2.1 (joinEsc s.esc r1.2.2)).esc r2.2.2)).H).bind fun r3 =>
(C n_meta_Mine [r3.1] (AS.mk r3.2.1 (joinEsc (AS.mk r2.2.1 (joinEsc (AS.mk r1.2.1 (joinEsc s.esc r1.2.2)).esc r2.2.2)).esc r3.2.2)).H).bind fun r4 =>
(aBin PP .or t_uint64 (.tmp 7) (.tmp 10) r2.1 r4.1).bind fun x5 =>
fin PP false n0 [x5] (AS.mk r4.2.1 (joinEsc (AS.mk r3.2.1 (joinEsc (AS.mk r2.2.1 (joinEsc (AS.mk r1.2.1 (joinEsc s.esc r1.2.2)).esc r2.2.2)).esc r3.2.2)).esc r4.2.2))
def T : Tab := ⟨fun i => none, fun i => none, false, fun i => none, fun _ => false, false, false, fun _ => false, 15, false⟩
end compare_Known
namespace twainref46_Known
noncomputable def sh (C : Am.Callee) (L : Loops) (n0 : Nat) (t0 t1 : Value) (s : AS) : Option (Value × List Blk × Option Nat) :=
(C n_twainref13_Look [t0] s.H).bind fun r1 =>
(C n_twainref13_Mine [r1.1] (AS.mk r1.2.1 (joinEsc s.esc r1.2.2)).H).bind fun r2 =>
(C n_twainref13_Look [t1] (AS.mk r2.2.1 (joinEsc (AS.mk r1.2.1 (joinEsc s.esc r1.2.2)).esc r2.2.2)).H).bind fun r3 =>
(C n_twainref13_Mine [r3.1] (AS.mk r3.2.1 (joinEsc (AS.mk r2.2.1 (joinEsc (AS.mk r1.2.1 (joinEsc s.esc r1.2.2)).esc r2.2.2)).esc r3.2.2)).H).bind fun r4 =>
(C n_twainref01_Both [r2.1, r4.1] (AS.mk r4.2.1 (joinEsc (AS.mk r3.2.1 (joinEsc (AS.mk r2.2.1 (joinEsc (AS.mk r1.2.1 (joinEsc s.esc r1.2.2)).esc r2.2.2)).esc r3.2.2)).esc r4.2.2)).H).bind fun r5 =>
fin PP false n0 [r5.1] (AS.mk r5.2.1 (joinEsc (AS.mk r4.2.1 (joinEsc (AS.mk r3.2.1 (joinEsc (AS.mk r2.2.1 (joinEsc (AS.mk r1.2.1 (joinEsc s.esc r1.2.2)).esc r2.2.2)).esc r3.2.2)).esc r4.2.2)).esc r5.2.2))
def T : Tab := ⟨fun i => none, fun i => none, false, fun i => none, fun _ => false, false, false, fun _ => false, 16, false⟩
end twainref46_Known
namespace compare_Suspect
noncomputable def j1 (C : Am.Callee) (L : Loops) (n0 : Nat) (t0 t1 t5 t11 t12 : Value) (s : AS) : Option ((List Value × AS) ⊕ (AEx × List Value × AS)) :=
(aBin PP .add t_int (.tmp 12) (.const (.int .i64 1)) t12 (.int .i64 1)).bind fun x13 =>
some (.inl ([t0, t1, t5, t11, x13], s))
noncomputable def loop3 (C : Am.Callee) (L : Loops) (n0 : Nat) (t0 t1 t5 t11 t12 : Value) (s : AS) : Option ((List Value × AS) ⊕ (AEx × List Value × AS)) :=
(aBin PP .lss t_int (.tmp 12) (.tmp 11) t12 t11).bind fun x5 =>
bcase x5 (
((aIndexAddr PP t_L_uint32 t0 t12).bind fun x6 =>
(aLoad false 1 s x6).bind fun x7 =>
(aIndexAddr PP t_L_uint32 t1 t12).bind fun x8 =>
(aLoad false 1 s x8).bind fun x9 =>
(aBin PP .neq t_uint32 (.tmp 18) (.tmp 22) x7 x9).bind fun x10 =>
bcase x10 (
(C n_bits_With [t5, t12] s.H).bind fun r11 =>
some (AEx.normal, [t0, t1, r11.1, t11, t12], AS.mk r11.2.1 (joinEsc s.esc r11.2.2))) (
some (AEx.normal, [t0, t1, t5, t11, t12], s))).bind fun r12 =>
match r12.1 with
| .normal => j1 C L n0 ((r12.2.1.getD 0 unk)) ((r12.2.1.getD 1 unk)) ((r12.2.1.getD 2 unk)) ((r12.2.1.getD 3 unk)) ((r12.2.1.getD 4 unk)) r12.2.2
| .exit i => some (.inr (.exit i, [(r12.2.1.getD 2 unk)], r12.2.2))
| .ret => some (.inr (.ret, [(r12.2.1.getD 2 unk)], r12.2.2))) (
some (.inr (.exit 0, [t5], s)))
noncomputable def loop3s (C : Am.Callee) (L : Loops) (n0 : Nat) : List Value × AS → Option ((List Value × AS) ⊕ (AEx × List Value × AS)) := fun s => loop3 C L n0 (s.1.getD 0 unk) (s.1.getD 1 unk) (s.1.getD 2 unk) (s.1.getD 3 unk) (s.1.getD 4 unk) s.2
noncomputable def j3 (C : Am.Callee) (L : Loops) (n0 : Nat) (t5 : Value) (s : AS) : Option (Value × List Blk × Option Nat) :=
fin PP false n0 [t5] s
noncomputable def sh (C : Am.Callee) (L : Loops) (n0 : Nat) (t0 t1 : Value) (s : AS) : Option (Value × List Blk × Option Nat) :=
((aLen PP t_L_uint32 t0 s).bind fun x1 =>
(aLen PP t_L_uint32 t1 s).bind fun x2 =>
eBuiltin PP .min #[t_int, t_int, t_int] [x1, x2, .int .i64 64] s fun x3 s4 =>
(L n0 (loop3s C L n0) ([t0, t1, .int .u64 0, x3, .int .i64 0], s4)).bind fun r14 =>
match r14.1 with
| .normal => some (AEx.normal, [(r14.2.1.getD 0 unk)], r14.2.2)
| .exit i => if i = 0 then some (AEx.normal, [(r14.2.1.getD 0 unk)], r14.2.2) else some (AEx.exit i, [(r14.2.1.getD 0 unk)], r14.2.2)
| .ret => some (AEx.ret, [(r14.2.1.getD 0 unk)], r14.2.2)).bind fun r15 =>
match r15.1 with
| .normal => j3 C L n0 ((r15.2.1.getD 0 unk)) r15.2.2
| .exit i => none
| .ret => fin PP false n0 [unk] r15.2.2
def T : Tab := ⟨fun i => if i = 3 then some [0, 1, 5, 11, 12] else none, fun i => if i = 3 then some [5] else none, false, fun i => if i = 7 then some [0, 1, 5, 11, 12] else if i = 8 then some [5] else none, fun _ => false, false, false, fun _ => false, 17, false⟩
end compare_Suspect
namespace twainref46_Suspect
noncomputable def j1 (C : Am.Callee) (L : Loops) (n0 : Nat) (t0 t1 t5 t6 t20 : Value) (s : AS) : Option (AEx × List Value × AS) :=
bcase t20 (
some (AEx.normal, [t0, t1, t5, t6], s)) (
some (AEx.exit 0, [t0, t1, t5, t6], s))
noncomputable def j3 (C : Am.Callee) (L : Loops) (n0 : Nat) (t0 t1 t5 t6 : Value) (s : AS) : Option ((List Value × AS) ⊕ (AEx × List Value × AS)) :=
(aBin PP .add t_int (.tmp 21) (.const (.int .i64 1)) t6 (.int .i64 1)).bind fun x14 =>
some (.inl ([t0, t1, t5, x14], s))
noncomputable def j2 (C : Am.Callee) (L : Loops) (n0 : Nat) (t0 t1 t5 t6 : Value) (s : AS) : Option ((List Value × AS) ⊕ (AEx × List Value × AS)) :=
((aIndexAddr PP t_L_uint32 t0 t6).bind fun x7 =>
(aLoad false 1 s x7).bind fun x8 =>
(aIndexAddr PP t_L_uint32 t1 t6).bind fun x9 =>
(aLoad false 1 s x9).bind fun x10 =>
(aBin PP .neq t_uint32 (.tmp 26) (.tmp 30) x8 x10).bind fun x11 =>
bcase x11 (
(C n_twainref01_With [t5, t6] s.H).bind fun r12 =>
some (AEx.normal, [t0, t1, r12.1, t6], AS.mk r12.2.1 (joinEsc s.esc r12.2.2))) (
some (AEx.normal, [t0, t1, t5, t6], s))).bind fun r13 =>
match r13.1 with
| .normal => j3 C L n0 ((r13.2.1.getD 0 unk)) ((r13.2.1.getD 1 unk)) ((r13.2.1.getD 2 unk)) ((r13.2.1.getD 3 unk)) r13.2.2
| .exit i => some (.inr (.exit i, [(r13.2.1.getD 2 unk)], r13.2.2))
| .ret => some (.inr (.ret, [(r13.2.1.getD 2 unk)], r13.2.2))
noncomputable def loop3 (C : Am.Callee) (L : Loops) (n0 : Nat) (t0 t1 t5 t6 : Value) (s : AS) : Option ((List Value × AS) ⊕ (AEx × List Value × AS)) :=
((aLen PP t_L_uint32 t0 s).bind fun x1 =>
(aBin PP .lss t_int (.tmp 7) (.tmp 9) t6 x1).bind fun x2 =>
bcase x2 (
(aLen PP t_L_uint32 t1 s).bind fun x3 =>
(aBin PP .lss t_int (.tmp 12) (.tmp 14) t6 x3).bind fun x4 =>
bcase x4 (
(aBin PP .lss t_int (.tmp 18) (.const (.int .i64 64)) t6 (.int .i64 64)).bind fun x5 =>
j1 C L n0 t0 t1 t5 t6 x5 s) (
j1 C L n0 t0 t1 t5 t6 (.bool false) s)) (
j1 C L n0 t0 t1 t5 t6 (.bool false) s)).bind fun r6 =>
match r6.1 with
| .normal => j2 C L n0 ((r6.2.1.getD 0 unk)) ((r6.2.1.getD 1 unk)) ((r6.2.1.getD 2 unk)) ((r6.2.1.getD 3 unk)) r6.2.2
| .exit i => some (.inr (.exit i, [(r6.2.1.getD 2 unk)], r6.2.2))
| .ret => some (.inr (.ret, [(r6.2.1.getD 2 unk)], r6.2.2))
noncomputable def loop3s (C : Am.Callee) (L : Loops) (n0 : Nat) : List Value × AS → Option ((List Value × AS) ⊕ (AEx × List Value × AS)) := fun s => loop3 C L n0 (s.1.getD 0 unk) (s.1.getD 1 unk) (s.1.getD 2 unk) (s.1.getD 3 unk) s.2
noncomputable def j5 (C : Am.Callee) (L : Loops) (n0 : Nat) (t5 : Value) (s : AS) : Option (Value × List Blk × Option Nat) :=
fin PP false n0 [t5] s
noncomputable def sh (C : Am.Callee) (L : Loops) (n0 : Nat) (t0 t1 : Value) (s : AS) : Option (Value × List Blk × Option Nat) :=
((L n0 (loop3s C L n0) ([t0, t1, .int .u64 0, .int .i64 0], s)).bind fun r15 =>
match r15.1 with
| .normal => some (AEx.normal, [(r15.2.1.getD 0 unk)], r15.2.2)
| .exit i => if i = 0 then some (AEx.normal, [(r15.2.1.getD 0 unk)], r15.2.2) else some (AEx.exit i, [(r15.2.1.getD 0 unk)], r15.2.2)
| .ret => some (AEx.ret, [(r15.2.1.getD 0 unk)], r15.2.2)).bind fun r16 =>
match r16.1 with
| .normal => j5 C L n0 ((r16.2.1.getD 0 unk)) r16.2.2
| .exit i => none
| .ret => fin PP false n0 [unk] r16.2.2
def T : Tab := ⟨fun i => if i = 3 then some [0, 1, 5, 6] else none, fun i => if i = 3 then some [5] else none, false, fun i => if i = 4 then some [0, 1, 5, 6] else if i = 5 then some [0, 1, 5, 6] else if i = 7 then some [5] else none, fun _ => false, false, false, fun _ => false, 18, false⟩
end twainref46_Suspect
namespace P_disk_Disk_Made
noncomputable def sh (C : Am.Callee) (L : Loops) (n0 : Nat) (t0 : Value) (s : AS) : Option (Value × List Blk × Option Nat) :=
(aBin PP .neq t_P_disk_Disk (.tmp 3) (.const (.pointer none)) t0 (.pointer none)).bind fun x1 =>
bcase x1 (
(aNil t0).bind fun x2 =>
(aFieldAddr PP t_disk_Disk x2 0).bind fun x3 =>
(aLoad false 1 s x3).bind fun x4 =>
(aBin PP .neq t_L_api_Sector (.tmp 9) (.const (.slice none 0 0)) x4 (.slice none 0 0)).bind fun x5 =>
fin PP false n0 [x5] s) (
fin PP false n0 [.bool false] s)
def T : Tab := ⟨fun i => none, fun i => none, false, fun i => none, fun _ => false, false, false, fun _ => false, 20, false⟩
end P_disk_Disk_Made
namespace P_disk_Disk_has
noncomputable def sh (C : Am.Callee) (L : Loops) (n0 : Nat) (t0 t1 : Value) (s : AS) : Option (Value × List Blk × Option Nat) :=
(aBin PP .geq t_int (.tmp 5) (.const (.int .i64 0)) t1 (.int .i64 0)).bind fun x1 =>
bcase x1 (
(aNil t0).bind fun x2 =>
(aFieldAddr PP t_disk_Disk x2 0).bind fun x3 =>
(aLoad false 1 s x3).bind fun x4 =>
(aLen PP t_L_api_Sector x4 s).bind fun x5 =>
(aBin PP .lss t_int (.tmp 8) (.tmp 13) t1 x5).bind fun x6 =>
fin PP false n0 [x6] s) (
fin PP false n0 [.bool false] s)
def T : Tab := ⟨fun i => none, fun i => none, false, fun i => none, fun _ => false, false, false, fun _ => false, 21, false⟩
end P_disk_Disk_has
namespace P_disk_Disk_spend
noncomputable def j1 (C : Am.Callee) (L : Loops) (n0 : Nat) (t0 : Value) (s : AS) : Option (Value × List Blk × Option Nat) :=
(aNil t0).bind fun x24 =>
(aFieldAddr PP t_disk_Disk x24 4).bind fun x25 =>
(aLoad false 1 s x25).bind fun x26 =>
(aBin PP .add t_int (.tmp 30) (.const (.int .i64 1)) x26 (.int .i64 1)).bind fun x27 =>
(aNil t0).bind fun x28 =>
(aFieldAddr PP t_disk_Disk x28 4).bind fun x29 =>
(aStore 1 s x29 x27).bind fun s30 =>
fin PP false n0 [.int .i64 0] s30
noncomputable def j0 (C : Am.Callee) (L : Loops) (n0 : Nat) (t0 : Value) (s : AS) : Option (Value × List Blk × Option Nat) :=
(aNil t0).bind fun x9 =>
(aFieldAddr PP t_disk_Disk x9 3).bind fun x10 =>
(aLoad false 1 s x10).bind fun x11 =>
bcase x11 (
fin PP false n0 [.int .i64 3] s) (
((aNil t0).bind fun x12 =>
(aFieldAddr PP t_disk_Disk x12 2).bind fun x13 =>
(aLoad false 1 s x13).bind fun x14 =>
(aBin PP .gtr t_int (.tmp 18) (.const (.int .i64 0)) x14 (.int .i64 0)).bind fun x15 =>
bcase x15 (
(aNil t0).bind fun x16 =>
(aFieldAddr PP t_disk_Disk x16 2).bind fun x17 =>
(aLoad false 1 s x17).bind fun x18 =>
(aBin PP .sub t_int (.tmp 23) (.const (.int .i64 1)) x18 (.int .i64 1)).bind fun x19 =>
(aNil t0).bind fun x20 =>
(aFieldAddr PP t_disk_Disk x20 2).bind fun x21 =>
(aStore 1 s x21 x19).bind fun s22 =>
some (AEx.normal, [t0], s22)) (
some (AEx.normal, [t0], s))).bind fun r23 =>
match r23.1 with
| .normal => j1 C L n0 ((r23.2.1.getD 0 unk)) r23.2.2
| .exit i => none
| .ret => fin PP false n0 [unk] r23.2.2)
noncomputable def sh (C : Am.Callee) (L : Loops) (n0 : Nat) (t0 : Value) (s : AS) : Option (Value × List Blk × Option Nat) :=
((aNil t0).bind fun x1 =>
(aFieldAddr PP t_disk_Disk x1 2).bind fun x2 =>
(aLoad false 1 s x2).bind fun x3 =>
(aBin PP .eql t_int (.tmp 6) (.const (.int .i64 0)) x3 (.int .i64 0)).bind fun x4 =>
bcase x4 (
(aNil t0).bind fun x5 =>
(aFieldAddr PP t_disk_Disk x5 3).bind fun x6 =>
(aStore 1 s x6 (.bool true)).bind fun s7 =>
some (AEx.normal, [t0], s7)) (
some (AEx.normal, [t0], s))).bind fun r8 =>
match r8.1 with
| .normal => j0 C L n0 ((r8.2.1.getD 0 unk)) r8.2.2
| .exit i => none
| .ret => fin PP false n0 [unk] r8.2.2
def T : Tab := ⟨fun i => none, fun i => none, false, fun i => if i = 3 then some [0] else if i = 7 then some [0] else none, fun _ => false, false, false, fun _ => false, 22, false⟩
end P_disk_Disk_spend
namespace P_twainref06_Disk_in
noncomputable def sh (C : Am.Callee) (L : Loops) (n0 : Nat) (t0 t1 : Value) (s : AS) : Option (Value × List Blk × Option Nat) :=
(aBin PP .geq t_int (.tmp 5) (.const (.int .i64 0)) t1 (.int .i64 0)).bind fun x1 =>
bcase x1 (
(aNil t0).bind fun x2 =>
(aFieldAddr PP t_twainref06_Disk x2 0).bind fun x3 =>
(aLoad false 1 s x3).bind fun x4 =>
(aLen PP t_L_twainref06_Cell x4 s).bind fun x5 =>
(aBin PP .lss t_int (.tmp 8) (.tmp 13) t1 x5).bind fun x6 =>
fin PP false n0 [x6] s) (
fin PP false n0 [.bool false] s)
def T : Tab := ⟨fun i => none, fun i => none, false, fun i => none, fun _ => false, false, false, fun _ => false, 23, false⟩
end P_twainref06_Disk_in
namespace P_twainref06_Disk_burns
noncomputable def j0 (C : Am.Callee) (L : Loops) (n0 : Nat) (t0 : Value) (s : AS) : Option (Value × List Blk × Option Nat) :=
(aNil t0).bind fun x23 =>
(aFieldAddr PP t_twainref06_Disk x23 3).bind fun x24 =>
(aLoad false 1 s x24).bind fun x25 =>
(aBin PP .add t_int (.tmp 30) (.const (.int .i64 1)) x25 (.int .i64 1)).bind fun x26 =>
(aNil t0).bind fun x27 =>
(aFieldAddr PP t_twainref06_Disk x27 3).bind fun x28 =>
(aStore 1 s x28 x26).bind fun s29 =>
fin PP false n0 [.bool false] s29
noncomputable def sh (C : Am.Callee) (L : Loops) (n0 : Nat) (t0 : Value) (s : AS) : Option (Value × List Blk × Option Nat) :=
(aNil t0).bind fun x1 =>
(aFieldAddr PP t_twainref06_Disk x1 2).bind fun x2 =>
(aLoad false 1 s x2).bind fun x3 =>
bcase x3 (
fin PP false n0 [.bool true] s) (
(aNil t0).bind fun x4 =>
(aFieldAddr PP t_twainref06_Disk x4 1).bind fun x5 =>
(aLoad false 1 s x5).bind fun x6 =>
(aBin PP .eql t_int (.tmp 10) (.const (.int .i64 0)) x6 (.int .i64 0)).bind fun x7 =>
bcase x7 (
(aNil t0).bind fun x8 =>
(aFieldAddr PP t_twainref06_Disk x8 2).bind fun x9 =>
(aStore 1 s x9 (.bool true)).bind fun s10 =>
fin PP false n0 [.bool true] s10) (
((aNil t0).bind fun x11 =>
(aFieldAddr PP t_twainref06_Disk x11 1).bind fun x12 =>
(aLoad false 1 s x12).bind fun x13 =>
(aBin PP .gtr t_int (.tmp 18) (.const (.int .i64 0)) x13 (.int .i64 0)).bind fun x14 =>
bcase x14 (
(aNil t0).bind fun x15 =>
(aFieldAddr PP t_twainref06_Disk x15 1).bind fun x16 =>
(aLoad false 1 s x16).bind fun x17 =>
(aBin PP .sub t_int (.tmp 23) (.const (.int .i64 1)) x17 (.int .i64 1)).bind fun x18 =>
(aNil t0).bind fun x19 =>
(aFieldAddr PP t_twainref06_Disk x19 1).bind fun x20 =>
(aStore 1 s x20 x18).bind fun s21 =>
some (AEx.normal, [t0], s21)) (
some (AEx.normal, [t0], s))).bind fun r22 =>
match r22.1 with
| .normal => j0 C L n0 ((r22.2.1.getD 0 unk)) r22.2.2
| .exit i => none
| .ret => fin PP false n0 [unk] r22.2.2))
def T : Tab := ⟨fun i => none, fun i => none, false, fun i => if i = 8 then some [0] else none, fun _ => false, false, false, fun _ => false, 24, false⟩
end P_twainref06_Disk_burns
namespace P_twainref06_Disk_keep
noncomputable def loop7 (C : Am.Callee) (L : Loops) (n0 : Nat) (t0 t1 t2 t6 t7 t8 t9 t14 t15 : Value) (s : AS) : Option ((List Value × AS) ⊕ (AEx × List Value × AS)) :=
(aBin PP .rem t_int (.tmp 29) (.const (.int .i64 64)) t6 (.int .i64 64)).bind fun x13 =>
(aBin PP .lss t_int (.tmp 28) (.tmp 30) t9 x13).bind fun x14 =>
bcase x14 (
(aBin PP .quo t_uint64 (.tmp 34) (.const (.int .u64 2)) t8 (.int .u64 2)).bind fun x15 =>
(aBin PP .add t_int (.tmp 32) (.const (.int .i64 1)) t9 (.int .i64 1)).bind fun x16 =>
some (.inl ([t0, t1, t2, t6, t7, x15, x16, t14, t15], s))) (
some (.inr (.exit 2, [t0, t1, t2, t6, t7, t8, t14, t15], s)))
noncomputable def loop7s (C : Am.Callee) (L : Loops) (n0 : Nat) : List Value × AS → Option ((List Value × AS) ⊕ (AEx × List Value × AS)) := fun s => loop7 C L n0 (s.1.getD 0 unk) (s.1.getD 1 unk) (s.1.getD 2 unk) (s.1.getD 3 unk) (s.1.getD 4 unk) (s.1.getD 5 unk) (s.1.getD 6 unk) (s.1.getD 7 unk) (s.1.getD 8 unk) s.2
noncomputable def j4 (C : Am.Callee) (L : Loops) (n0 : Nat) (t0 t1 t2 t6 t7 t14 t15 t41 : Value) (s : AS) : Option (AEx × List Value × AS) :=
bcase t41 (
(aNil t0).bind fun x22 =>
(aFieldAddr PP t_twainref06_Disk x22 0).bind fun x23 =>
(aLoad false 1 s x23).bind fun x24 =>
(aNil t0).bind fun x25 =>
(aFieldAddr PP t_twainref06_Disk x25 0).bind fun x26 =>
(aLoad false 1 s x26).bind fun x27 =>
(aIndexAddr PP t_L_twainref06_Cell x27 t7).bind fun x28 =>
(aFieldAddr PP t_twainref06_Cell x28 1).bind fun x29 =>
(aLoad true 16 s x29).bind fun x30 =>
(aIndexAddr PP t_L_twainref06_Cell x24 t7).bind fun x31 =>
(aFieldAddr PP t_twainref06_Cell x31 0).bind fun x32 =>
(aStore 16 s x32 x30).bind fun s33 =>
some (AEx.normal, [t0, t1, t2, t6, t7, t14, t15], s33)) (
some (AEx.normal, [t0, t1, t2, t6, t7, t14, t15], s))
noncomputable def j5 (C : Am.Callee) (L : Loops) (n0 : Nat) (t0 t1 t2 t6 t7 t14 t15 : Value) (s : AS) : Option (AEx × List Value × AS) :=
(aNil t0).bind fun x35 =>
(aFieldAddr PP t_twainref06_Disk x35 0).bind fun x36 =>
(aLoad false 1 s x36).bind fun x37 =>
(aBuild PP t_api_Sector []).bind fun x38 =>
(aIndexAddr PP t_L_twainref06_Cell x37 t7).bind fun x39 =>
(aFieldAddr PP t_twainref06_Cell x39 1).bind fun x40 =>
(aStore 16 s x40 x38).bind fun s41 =>
(aNil t0).bind fun x42 =>
(aFieldAddr PP t_twainref06_Disk x42 0).bind fun x43 =>
(aLoad false 1 s41 x43).bind fun x44 =>
(aIndexAddr PP t_L_twainref06_Cell x44 t7).bind fun x45 =>
(aFieldAddr PP t_twainref06_Cell x45 2).bind fun x46 =>
(aStore 1 s41 x46 (.bool false)).bind fun s47 =>
(aBin PP .add t_int (.tmp 72) (.const (.int .i64 1)) t6 (.int .i64 1)).bind fun x48 =>
some (AEx.normal, [t0, t1, t2, x48, t14, t15], s47)
noncomputable def j3 (C : Am.Callee) (L : Loops) (n0 : Nat) (t0 t1 t2 t6 t7 t8 t14 t15 : Value) (s : AS) : Option (AEx × List Value × AS) :=
((bcase t1 (
some (AEx.normal, [t0, t1, t2, t6, t7, t14, t15, .bool true], s)) (
(aBin PP .rem t_uint64 (.tmp 38) (.const (.int .u64 2)) t8 (.int .u64 2)).bind fun x19 =>
(aBin PP .eql t_uint64 (.tmp 39) (.const (.int .u64 1)) x19 (.int .u64 1)).bind fun x20 =>
some (AEx.normal, [t0, t1, t2, t6, t7, t14, t15, x20], s))).bind fun r21 =>
match r21.1 with
| .normal => j4 C L n0 ((r21.2.1.getD 0 unk)) ((r21.2.1.getD 1 unk)) ((r21.2.1.getD 2 unk)) ((r21.2.1.getD 3 unk)) ((r21.2.1.getD 4 unk)) ((r21.2.1.getD 5 unk)) ((r21.2.1.getD 6 unk)) ((r21.2.1.getD 7 unk)) r21.2.2
| .exit i => some (AEx.exit i, [(r21.2.1.getD 0 unk), (r21.2.1.getD 1 unk), (r21.2.1.getD 2 unk), (r21.2.1.getD 3 unk), (r21.2.1.getD 4 unk), (r21.2.1.getD 5 unk), (r21.2.1.getD 6 unk)], r21.2.2)
| .ret => some (AEx.ret, [(r21.2.1.getD 0 unk), (r21.2.1.getD 1 unk), (r21.2.1.getD 2 unk), (r21.2.1.getD 3 unk), (r21.2.1.getD 4 unk), (r21.2.1.getD 5 unk), (r21.2.1.getD 6 unk)], r21.2.2)).bind fun r34 =>
match r34.1 with
| .normal => j5 C L n0 ((r34.2.1.getD 0 unk)) ((r34.2.1.getD 1 unk)) ((r34.2.1.getD 2 unk)) ((r34.2.1.getD 3 unk)) ((r34.2.1.getD 4 unk)) ((r34.2.1.getD 5 unk)) ((r34.2.1.getD 6 unk)) r34.2.2
| .exit i => if i = 1 then some (AEx.normal, [(r34.2.1.getD 0 unk), (r34.2.1.getD 1 unk), (r34.2.1.getD 2 unk), (r34.2.1.getD 3 unk), (r34.2.1.getD 5 unk), (r34.2.1.getD 6 unk)], r34.2.2) else some (AEx.exit i, [(r34.2.1.getD 0 unk), (r34.2.1.getD 1 unk), (r34.2.1.getD 2 unk), (r34.2.1.getD 3 unk), (r34.2.1.getD 5 unk), (r34.2.1.getD 6 unk)], r34.2.2)
| .ret => some (AEx.ret, [(r34.2.1.getD 0 unk), (r34.2.1.getD 1 unk), (r34.2.1.getD 2 unk), (r34.2.1.getD 3 unk), (r34.2.1.getD 5 unk), (r34.2.1.getD 6 unk)], r34.2.2)
noncomputable def j6 (C : Am.Callee) (L : Loops) (n0 : Nat) (t0 t1 t2 t6 t14 t15 : Value) (s : AS) : Option ((List Value × AS) ⊕ (AEx × List Value × AS)) :=
(aBin PP .add t_int (.tmp 15) (.const (.int .i64 1)) t15 (.int .i64 1)).bind fun x50 =>
some (.inl ([t0, t1, t2, t6, t14, x50], s))
noncomputable def loop2 (C : Am.Callee) (L : Loops) (n0 : Nat) (t0 t1 t2 t6 t14 t15 : Value) (s : AS) : Option ((List Value × AS) ⊕ (AEx × List Value × AS)) :=
(aBin PP .lss t_int (.tmp 15) (.tmp 14) t15 t14).bind fun x5 =>
bcase x5 (
((aNil t0).bind fun x6 =>
(aFieldAddr PP t_twainref06_Disk x6 0).bind fun x7 =>
(aLoad false 1 s x7).bind fun x8 =>
(aIndexAddr PP t_L_twainref06_Cell x8 t15).bind fun x9 =>
(aFieldAddr PP t_twainref06_Cell x9 2).bind fun x10 =>
(aLoad false 1 s x10).bind fun x11 =>
(aUn PP .not x11).bind fun x12 =>
bcase x12 (
some (AEx.normal, [t0, t1, t2, t6, t14, t15], s)) (
((L n0 (loop7s C L n0) ([t0, t1, t2, t6, t15, t2, .int .i64 0, t14, t15], s)).bind fun r17 =>
match r17.1 with
| .normal => some (AEx.normal, [(r17.2.1.getD 0 unk), (r17.2.1.getD 1 unk), (r17.2.1.getD 2 unk), (r17.2.1.getD 3 unk), (r17.2.1.getD 4 unk), (r17.2.1.getD 5 unk), (r17.2.1.getD 6 unk), (r17.2.1.getD 7 unk)], r17.2.2)
| .exit i => if i = 2 then some (AEx.normal, [(r17.2.1.getD 0 unk), (r17.2.1.getD 1 unk), (r17.2.1.getD 2 unk), (r17.2.1.getD 3 unk), (r17.2.1.getD 4 unk), (r17.2.1.getD 5 unk), (r17.2.1.getD 6 unk), (r17.2.1.getD 7 unk)], r17.2.2) else some (AEx.exit i, [(r17.2.1.getD 0 unk), (r17.2.1.getD 1 unk), (r17.2.1.getD 2 unk), (r17.2.1.getD 3 unk), (r17.2.1.getD 4 unk), (r17.2.1.getD 5 unk), (r17.2.1.getD 6 unk), (r17.2.1.getD 7 unk)], r17.2.2)
| .ret => some (AEx.ret, [(r17.2.1.getD 0 unk), (r17.2.1.getD 1 unk), (r17.2.1.getD 2 unk), (r17.2.1.getD 3 unk), (r17.2.1.getD 4 unk), (r17.2.1.getD 5 unk), (r17.2.1.getD 6 unk), (r17.2.1.getD 7 unk)], r17.2.2)).bind fun r18 =>
match r18.1 with
| .normal => j3 C L n0 ((r18.2.1.getD 0 unk)) ((r18.2.1.getD 1 unk)) ((r18.2.1.getD 2 unk)) ((r18.2.1.getD 3 unk)) ((r18.2.1.getD 4 unk)) ((r18.2.1.getD 5 unk)) ((r18.2.1.getD 6 unk)) ((r18.2.1.getD 7 unk)) r18.2.2
| .exit i => if i = 1 then some (AEx.normal, [(r18.2.1.getD 0 unk), (r18.2.1.getD 1 unk), (r18.2.1.getD 2 unk), (r18.2.1.getD 3 unk), (r18.2.1.getD 6 unk), (r18.2.1.getD 7 unk)], r18.2.2) else some (AEx.exit i, [(r18.2.1.getD 0 unk), (r18.2.1.getD 1 unk), (r18.2.1.getD 2 unk), (r18.2.1.getD 3 unk), (r18.2.1.getD 6 unk), (r18.2.1.getD 7 unk)], r18.2.2)
| .ret => some (AEx.ret, [(r18.2.1.getD 0 unk), (r18.2.1.getD 1 unk), (r18.2.1.getD 2 unk), (r18.2.1.getD 3 unk), (r18.2.1.getD 6 unk), (r18.2.1.getD 7 unk)], r18.2.2))).bind fun r49 =>
match r49.1 with
| .normal => j6 C L n0 ((r49.2.1.getD 0 unk)) ((r49.2.1.getD 1 unk)) ((r49.2.1.getD 2 unk)) ((r49.2.1.getD 3 unk)) ((r49.2.1.getD 4 unk)) ((r49.2.1.getD 5 unk)) r49.2.2
| .exit i => some (.inr (.exit i, [], r49.2.2))
| .ret => some (.inr (.ret, [], r49.2.2))) (
some (.inr (.exit 0, [], s)))
noncomputable def loop2s (C : Am.Callee) (L : Loops) (n0 : Nat) : List Value × AS → Option ((List Value × AS) ⊕ (AEx × List Value × AS)) := fun s => loop2 C L n0 (s.1.getD 0 unk) (s.1.getD 1 unk) (s.1.getD 2 unk) (s.1.getD 3 unk) (s.1.getD 4 unk) (s.1.getD 5 unk) s.2
noncomputable def sh (C : Am.Callee) (L : Loops) (n0 : Nat) (t0 t1 t2 : Value) (s : AS) : Option (Value × List Blk × Option Nat) :=
(aNil t0).bind fun x1 =>
(aFieldAddr PP t_twainref06_Disk x1 0).bind fun x2 =>
(aLoad false 1 s x2).bind fun x3 =>
(aLen PP t_L_twainref06_Cell x3 s).bind fun x4 =>
(L n0 (loop2s C L n0) ([t0, t1, t2, .int .i64 0, x4, .int .i64 0], s)).bind fun r51 =>
match r51.1 with
| .normal => fin PP false n0 [] r51.2.2
| .exit i => if i = 0 then fin PP false n0 [] r51.2.2 else none
| .ret => fin PP false n0 [] r51.2.2
def T : Tab := ⟨fun i => if i = 2 then some [0, 1, 2, 6, 14, 15] else if i = 7 then some [0, 1, 2, 6, 7, 8, 9, 14, 15] else none, fun i => if i = 2 then some [] else if i = 7 then some [0, 1, 2, 6, 7, 8, 14, 15] else none, false, fun i => if i = 10 then some [0, 1, 2, 6, 7, 8, 14, 15] else if i = 11 then some [0, 1, 2, 6, 7, 14, 15, 41] else if i = 12 then some [0, 1, 2, 6, 7, 14, 15] else if i = 15 then some [0, 1, 2, 6, 14, 15] else none, fun _ => false, false, false, fun _ => false, 25, false⟩
end P_twainref06_Disk_keep
namespace compare_extents
noncomputable def sh (C : Am.Callee) (L : Loops) (n0 : Nat) (t0 : Value) (s : AS) : Option (Value × List Blk × Option Nat) :=
(C n_data_Sectors [t0] s.H).bind fun r1 =>
(aBin PP .quo t_int (.tmp 4) (.const (.int .i64 4)) r1.1 (.int .i64 4)).bind fun x2 =>
eBuiltin PP .min #[t_int, t_int] [x2, .int .i64 64] (AS.mk r1.2.1 (joinEsc s.esc r1.2.2)) fun x3 s4 =>
fin PP false n0 [x3] s4
def T : Tab := ⟨fun i => none, fun i => none, false, fun i => none, fun _ => false, false, false, fun _ => false, 26, false⟩
end compare_extents
namespace compare_sum
noncomputable def loop4 (C : Am.Callee) (L : Loops) (n0 : Nat) (t0 t5 t6 t13 t14 : Value) (s : AS) : Option ((List Value × AS) ⊕ (AEx × List Value × AS)) :=
(aBin PP .lss t_int (.tmp 14) (.tmp 13) t14 t13).bind fun x7 =>
bcase x7 (
(aFieldAddr PP t_api_Span t5 0).bind fun x8 =>
(aLoad false 1 s x8).bind fun x9 =>
(aBin PP .add t_int (.tmp 19) (.tmp 20) x9 t14).bind fun x10 =>
(C n_compare_at [t0, x10] s.H).bind fun r11 =>
(aBox t_api_Sector ((zeroP PP t_api_Sector).getD unk) (AS.mk r11.2.1 (joinEsc s.esc r11.2.2))).bind fun r12 =>
(aStore 16 r12.2 r12.1 r11.1).bind fun s13 =>
(aSlice PP t_api_Sector r12.1 none none none s13).bind fun x14 =>
(C n_crc_More [t6, x14] s13.H).bind fun r15 =>
(aBin PP .add t_int (.tmp 14) (.const (.int .i64 1)) t14 (.int .i64 1)).bind fun x16 =>
some (.inl ([t0, t5, r15.1, t13, x16], AS.mk r15.2.1 (joinEsc s13.esc r15.2.2)))) (
some (.inr (.exit 0, [t6], s)))
noncomputable def loop4s (C : Am.Callee) (L : Loops) (n0 : Nat) : List Value × AS → Option ((List Value × AS) ⊕ (AEx × List Value × AS)) := fun s => loop4 C L n0 (s.1.getD 0 unk) (s.1.getD 1 unk) (s.1.getD 2 unk) (s.1.getD 3 unk) (s.1.getD 4 unk) s.2
noncomputable def j2 (C : Am.Callee) (L : Loops) (n0 : Nat) (t6 : Value) (s : AS) : Option (Value × List Blk × Option Nat) :=
fin PP false n0 [t6] s
noncomputable def sh (C : Am.Callee) (L : Loops) (n0 : Nat) (t0 t1 : Value) (s : AS) : Option (Value × List Blk × Option Nat) :=
(C n_span_Whole [t1] s.H).bind fun r1 =>
(aBox t_api_Span ((zeroP PP t_api_Span).getD unk) (AS.mk r1.2.1 (joinEsc s.esc r1.2.2))).bind fun r2 =>
(aStore 2 r2.2 r2.1 r1.1).bind fun s3 =>
(C n_crc_Sum [.slice none 0 0] s3.H).bind fun r4 =>
((aFieldAddr PP t_api_Span r2.1 1).bind fun x5 =>
(aLoad false 1 (AS.mk r4.2.1 (joinEsc s3.esc r4.2.2)) x5).bind fun x6 =>
(L n0 (loop4s C L n0) ([t0, r2.1, r4.1, x6, .int .i64 0], AS.mk r4.2.1 (joinEsc s3.esc r4.2.2))).bind fun r17 =>
match r17.1 with
| .normal => some (AEx.normal, [(r17.2.1.getD 0 unk)], r17.2.2)
| .exit i => if i = 0 then some (AEx.normal, [(r17.2.1.getD 0 unk)], r17.2.2) else some (AEx.exit i, [(r17.2.1.getD 0 unk)], r17.2.2)
| .ret => some (AEx.ret, [(r17.2.1.getD 0 unk)], r17.2.2)).bind fun r18 =>
match r18.1 with
| .normal => j2 C L n0 ((r18.2.1.getD 0 unk)) r18.2.2
| .exit i => none
| .ret => fin PP false n0 [unk] r18.2.2
def T : Tab := ⟨fun i => if i = 4 then some [0, 5, 6, 13, 14] else none, fun i => if i = 4 then some [6] else none, false, fun i => if i = 9 then some [6] else none, fun _ => false, false, false, fun _ => false, 27, false⟩
end compare_sum
namespace twainref12_Sectors
noncomputable def sh (C : Am.Callee) (L : Loops) (n0 : Nat) (t0 : Value) (s : AS) : Option (Value × List Blk × Option Nat) :=
(aNil t0).bind fun x1 =>
(aFieldAddr PP t_twainref06_Disk x1 0).bind fun x2 =>
(aLoad false 1 s x2).bind fun x3 =>
(aLen PP t_L_twainref06_Cell x3 s).bind fun x4 =>
(aBin PP .lss t_int (.tmp 7) (.const (.int .i64 8)) x4 (.int .i64 8)).bind fun x5 =>
bcase x5 (
fin PP false n0 [.int .i64 0] s) (
(aNil t0).bind fun x6 =>
(aFieldAddr PP t_twainref06_Disk x6 0).bind fun x7 =>
(aLoad false 1 s x7).bind fun x8 =>
(aLen PP t_L_twainref06_Cell x8 s).bind fun x9 =>
(aBin PP .sub t_int (.tmp 13) (.const (.int .i64 8)) x9 (.int .i64 8)).bind fun x10 =>
fin PP false n0 [x10] s)
def T : Tab := ⟨fun i => none, fun i => none, false, fun i => none, fun _ => false, false, false, fun _ => false, 28, false⟩
end twainref12_Sectors
namespace P_twainref06_Disk_Durable
noncomputable def sh (C : Am.Callee) (L : Loops) (n0 : Nat) (t0 t1 : Value) (s : AS) : Option (Value × List Blk × Option Nat) :=
(aBox t_api_Sector ((zeroP PP t_api_Sector).getD unk) s).bind fun r1 =>
(C n_P_twainref06_Disk_in [t0, t1] r1.2.H).bind fun r2 =>
(aUn PP .not r2.1).bind fun x3 =>
bcase x3 (
(aBuild PP t_api_Sector []).bind fun x4 =>
(aStore 16 (AS.mk r2.2.1 (joinEsc r1.2.esc r2.2.2)) r1.1 x4).bind fun s5 =>
((aLoad true 16 s5 r1.1).bind fun x7 => (some []).bind fun y8 => some (x7 :: y8)).bind fun z6 => fin PP false n0 z6 s5) (
(aNil t0).bind fun x9 =>
(aFieldAddr PP t_twainref06_Disk x9 0).bind fun x10 =>
(aLoad false 1 (AS.mk r2.2.1 (joinEsc r1.2.esc r2.2.2)) x10).bind fun x11 =>
(aIndexAddr PP t_L_twainref06_Cell x11 t1).bind fun x12 =>
(aFieldAddr PP t_twainref06_Cell x12 0).bind fun x13 =>
(aLoad true 16 (AS.mk r2.2.1 (joinEsc r1.2.esc r2.2.2)) x13).bind fun x14 =>
(aStore 16 (AS.mk r2.2.1 (joinEsc r1.2.esc r2.2.2)) r1.1 x14).bind fun s15 =>
((aLoad true 16 s15 r1.1).bind fun x17 => (some []).bind fun y18 => some (x17 :: y18)).bind fun z16 => fin PP false n0 z16 s15)
def T : Tab := ⟨fun i => none, fun i => none, false, fun i => none, fun _ => false, false, false, fun _ => false, 29, false⟩
end P_twainref06_Disk_Durable
namespace twainref03_Sum
noncomputable def sh (C : Am.Callee) (L : Loops) (n0 : Nat) (t0 : Value) (s : AS) : Option (Value × List Blk × Option Nat) :=
(C n_twainref03_More [.int .u32 0, t0] s.H).bind fun r1 =>
fin PP false n0 [r1.1] (AS.mk r1.2.1 (joinEsc s.esc r1.2.2))
def T : Tab := ⟨fun i => none, fun i => none, false, fun i => none, fun _ => false, false, false, fun _ => false, 30, false⟩
end twainref03_Sum
namespace data_Sectors
noncomputable def sh (C : Am.Callee) (L : Loops) (n0 : Nat) (t0 : Value) (s : AS) : Option (Value × List Blk × Option Nat) :=
(C n_P_disk_Disk_Size [t0] s.H).bind fun r1 =>
(aBin PP .sub t_int (.tmp 4) (.const (.int .i64 8)) r1.1 (.int .i64 8)).bind fun x2 =>
eBuiltin PP .max #[t_int, t_int] [x2, .int .i64 0] (AS.mk r1.2.1 (joinEsc s.esc r1.2.2)) fun x3 s4 =>
fin PP false n0 [x3] s4
def T : Tab := ⟨fun i => none, fun i => none, false, fun i => none, fun _ => false, false, false, fun _ => false, 31, false⟩
end data_Sectors
namespace compare_at
noncomputable def sh (C : Am.Callee) (L : Loops) (n0 : Nat) (t0 t1 : Value) (s : AS) : Option (Value × List Blk × Option Nat) :=
(aBox t_api_Sector ((zeroP PP t_api_Sector).getD unk) s).bind fun r1 =>
(aBin PP .add t_int (.const (.int .i64 8)) (.tmp 6) (.int .i64 8) t1).bind fun x2 =>
(C n_P_disk_Disk_Durable [t0, x2] r1.2.H).bind fun r3 =>
(aStore 16 (AS.mk r3.2.1 (joinEsc r1.2.esc r3.2.2)) r1.1 r3.1).bind fun s4 =>
((aLoad true 16 s4 r1.1).bind fun x6 => (some []).bind fun y7 => some (x6 :: y7)).bind fun z5 => fin PP false n0 z5 s4
def T : Tab := ⟨fun i => none, fun i => none, false, fun i => none, fun _ => false, false, false, fun _ => false, 32, false⟩
end compare_at
namespace bits_With
noncomputable def sh (C : Am.Callee) (L : Loops) (n0 : Nat) (t0 t1 : Value) (s : AS) : Option (Value × List Blk × Option Nat) :=
(C n_bits_One [t1] s.H).bind fun r1 =>
(aBin PP .or t_uint64 (.tmp 5) (.tmp 7) t0 r1.1).bind fun x2 =>
fin PP false n0 [x2] (AS.mk r1.2.1 (joinEsc s.esc r1.2.2))
def T : Tab := ⟨fun i => none, fun i => none, false, fun i => none, fun _ => false, false, false, fun _ => false, 33, false⟩
end bits_With
namespace twainref01_With
noncomputable def sh (C : Am.Callee) (L : Loops) (n0 : Nat) (t0 t1 : Value) (s : AS) : Option (Value × List Blk × Option Nat) :=
(C n_twainref01_Has [t0, t1] s.H).bind fun r1 =>
bcase r1.1 (
fin PP false n0 [t0] (AS.mk r1.2.1 (joinEsc s.esc r1.2.2))) (
(C n_twainref01_One [t1] (AS.mk r1.2.1 (joinEsc s.esc r1.2.2)).H).bind fun r2 =>
(aBin PP .add t_uint64 (.tmp 9) (.tmp 11) t0 r2.1).bind fun x3 =>
fin PP false n0 [x3] (AS.mk r2.2.1 (joinEsc (AS.mk r1.2.1 (joinEsc s.esc r1.2.2)).esc r2.2.2)))
def T : Tab := ⟨fun i => none, fun i => none, false, fun i => none, fun _ => false, false, false, fun _ => false, 34, false⟩
end twainref01_With
namespace meta_Mine
noncomputable def sh (C : Am.Callee) (L : Loops) (n0 : Nat) (t0 : Value) (s : AS) : Option (Value × List Blk × Option Nat) :=
(aBox t_meta_Meta t0 s).bind fun r1 =>
(aFieldAddr PP t_meta_Meta r1.1 1).bind fun x2 =>
(aLoad false 1 r1.2 x2).bind fun x3 =>
(aFieldAddr PP t_meta_Meta r1.1 2).bind fun x4 =>
(aLoad false 1 r1.2 x4).bind fun x5 =>
(aBin PP .or t_uint64 (.tmp 4) (.tmp 6) x3 x5).bind fun x6 =>
fin PP false n0 [x6] r1.2
def T : Tab := ⟨fun i => none, fun i => none, false, fun i => none, fun _ => false, false, false, fun _ => false, 35, false⟩
end meta_Mine
namespace meta_Look
noncomputable def sh (C : Am.Callee) (L : Loops) (n0 : Nat) (t0 : Value) (s : AS) : Option (Value × List Blk × Option Nat) :=
(aBox t_meta_Meta ((zeroP PP t_meta_Meta).getD unk) s).bind fun r1 =>
(C n_super_Boot [t0] r1.2.H).bind fun r2 =>
(C n_actlog_Get [t0] (AS.mk r2.2.1 (joinEsc r1.2.esc r2.2.2)).H).bind fun r3 =>
(C n_dirty_Get [t0] (AS.mk r3.2.1 (joinEsc (AS.mk r2.2.1 (joinEsc r1.2.esc r2.2.2)).esc r3.2.2)).H).bind fun r4 =>
(aBuild PP t_meta_Meta [(0, r2.1), (1, r3.1), (2, r4.1)]).bind fun x5 =>
(aStore 3 (AS.mk r4.2.1 (joinEsc (AS.mk r3.2.1 (joinEsc (AS.mk r2.2.1 (joinEsc r1.2.esc r2.2.2)).esc r3.2.2)).esc r4.2.2)) r1.1 x5).bind fun s6 =>
((aLoad true 3 s6 r1.1).bind fun x8 => (some []).bind fun y9 => some (x8 :: y9)).bind fun z7 => fin PP false n0 z7 s6
def T : Tab := ⟨fun i => none, fun i => none, false, fun i => none, fun _ => false, false, false, fun _ => false, 36, false⟩
end meta_Look
namespace twainref01_Both
noncomputable def j1 (C : Am.Callee) (L : Loops) (n0 : Nat) (t0 t1 t5 : Value) (s : AS) : Option ((List Value × AS) ⊕ (AEx × List Value × AS)) :=
(aBin PP .add t_int (.tmp 8) (.const (.int .i64 1)) t5 (.int .i64 1)).bind fun x5 =>
some (.inl ([t0, t1, x5], s))
noncomputable def loop2 (C : Am.Callee) (L : Loops) (n0 : Nat) (t0 t1 t5 : Value) (s : AS) : Option ((List Value × AS) ⊕ (AEx × List Value × AS)) :=
(aBin PP .lss t_int (.tmp 6) (.const (.int .i64 64)) t5 (.int .i64 64)).bind fun x1 =>
bcase x1 (
((C n_twainref01_Has [t1, t5] s.H).bind fun r2 =>
bcase r2.1 (
(C n_twainref01_With [t0, t5] (AS.mk r2.2.1 (joinEsc s.esc r2.2.2)).H).bind fun r3 =>
some (AEx.normal, [r3.1, t1, t5], AS.mk r3.2.1 (joinEsc (AS.mk r2.2.1 (joinEsc s.esc r2.2.2)).esc r3.2.2))) (
some (AEx.normal, [t0, t1, t5], AS.mk r2.2.1 (joinEsc s.esc r2.2.2)))).bind fun r4 =>
match r4.1 with
| .normal => j1 C L n0 ((r4.2.1.getD 0 unk)) ((r4.2.1.getD 1 unk)) ((r4.2.1.getD 2 unk)) r4.2.2
| .exit i => some (.inr (.exit i, [(r4.2.1.getD 0 unk)], r4.2.2))
| .ret => some (.inr (.ret, [(r4.2.1.getD 0 unk)], r4.2.2))) (
some (.inr (.exit 0, [t0], s)))
noncomputable def loop2s (C : Am.Callee) (L : Loops) (n0 : Nat) : List Value × AS → Option ((List Value × AS) ⊕ (AEx × List Value × AS)) := fun s => loop2 C L n0 (s.1.getD 0 unk) (s.1.getD 1 unk) (s.1.getD 2 unk) s.2
noncomputable def j3 (C : Am.Callee) (L : Loops) (n0 : Nat) (t0 : Value) (s : AS) : Option (Value × List Blk × Option Nat) :=
fin PP false n0 [t0] s
noncomputable def sh (C : Am.Callee) (L : Loops) (n0 : Nat) (t0 t1 : Value) (s : AS) : Option (Value × List Blk × Option Nat) :=
((L n0 (loop2s C L n0) ([t0, t1, .int .i64 0], s)).bind fun r6 =>
match r6.1 with
| .normal => some (AEx.normal, [(r6.2.1.getD 0 unk)], r6.2.2)
| .exit i => if i = 0 then some (AEx.normal, [(r6.2.1.getD 0 unk)], r6.2.2) else some (AEx.exit i, [(r6.2.1.getD 0 unk)], r6.2.2)
| .ret => some (AEx.ret, [(r6.2.1.getD 0 unk)], r6.2.2)).bind fun r7 =>
match r7.1 with
| .normal => j3 C L n0 ((r7.2.1.getD 0 unk)) r7.2.2
| .exit i => none
| .ret => fin PP false n0 [unk] r7.2.2
def T : Tab := ⟨fun i => if i = 2 then some [0, 1, 5] else none, fun i => if i = 2 then some [0] else none, false, fun i => if i = 3 then some [0, 1, 5] else if i = 6 then some [0] else none, fun _ => false, false, false, fun _ => false, 37, false⟩
end twainref01_Both
namespace twainref13_Mine
noncomputable def sh (C : Am.Callee) (L : Loops) (n0 : Nat) (t0 : Value) (s : AS) : Option (Value × List Blk × Option Nat) :=
(aBox t_twainref13_Meta t0 s).bind fun r1 =>
(aFieldAddr PP t_twainref13_Meta r1.1 1).bind fun x2 =>
(aLoad false 1 r1.2 x2).bind fun x3 =>
(aFieldAddr PP t_twainref13_Meta r1.1 2).bind fun x4 =>
(aLoad false 1 r1.2 x4).bind fun x5 =>
(C n_twainref01_Both [x3, x5] r1.2.H).bind fun r6 =>
fin PP false n0 [r6.1] (AS.mk r6.2.1 (joinEsc r1.2.esc r6.2.2))
def T : Tab := ⟨fun i => none, fun i => none, false, fun i => none, fun _ => false, false, false, fun _ => false, 38, false⟩
end twainref13_Mine
namespace twainref13_Look
noncomputable def sh (C : Am.Callee) (L : Loops) (n0 : Nat) (t0 : Value) (s : AS) : Option (Value × List Blk × Option Nat) :=
(aBox t_twainref13_Meta ((zeroP PP t_twainref13_Meta).getD unk) s).bind fun r1 =>
(C n_twainref08_Boot [t0] r1.2.H).bind fun r2 =>
(C n_twainref10_Get [t0] (AS.mk r2.2.1 (joinEsc r1.2.esc r2.2.2)).H).bind fun r3 =>
(C n_twainref11_Get [t0] (AS.mk r3.2.1 (joinEsc (AS.mk r2.2.1 (joinEsc r1.2.esc r2.2.2)).esc r3.2.2)).H).bind fun r4 =>
(aBuild PP t_twainref13_Meta [(0, r2.1), (1, r3.1), (2, r4.1)]).bind fun x5 =>
(aStore 3 (AS.mk r4.2.1 (joinEsc (AS.mk r3.2.1 (joinEsc (AS.mk r2.2.1 (joinEsc r1.2.esc r2.2.2)).esc r3.2.2)).esc r4.2.2)) r1.1 x5).bind fun s6 =>
((aLoad true 3 s6 r1.1).bind fun x8 => (some []).bind fun y9 => some (x8 :: y9)).bind fun z7 => fin PP false n0 z7 s6
def T : Tab := ⟨fun i => none, fun i => none, false, fun i => none, fun _ => false, false, false, fun _ => false, 39, false⟩
end twainref13_Look
namespace span_Whole
noncomputable def j0 (C : Am.Callee) (L : Loops) (n0 : Nat) (t0 t2 t8 : Value) (s : AS) : Option (AEx × List Value × AS) :=
bcase t8 (
(aBuild PP t_api_Span []).bind fun x5 =>
(aStore 2 s t2 x5).bind fun s6 =>
some (AEx.ret, [t0, t2], s6)) (
some (AEx.normal, [t0, t2], s))
noncomputable def j1 (C : Am.Callee) (L : Loops) (n0 : Nat) (t0 t2 : Value) (s : AS) : Option (Value × List Blk × Option Nat) :=
(aBin PP .mul t_int (.tmp 10) (.const (.int .i64 4)) t0 (.int .i64 4)).bind fun x8 =>
(aBuild PP t_api_Span [(0, x8), (1, .int .i64 4)]).bind fun x9 =>
(aStore 2 s t2 x9).bind fun s10 =>
((aLoad true 2 s10 t2).bind fun x12 => (some []).bind fun y13 => some (x12 :: y13)).bind fun z11 => fin PP false n0 z11 s10
noncomputable def sh (C : Am.Callee) (L : Loops) (n0 : Nat) (t0 : Value) (s : AS) : Option (Value × List Blk × Option Nat) :=
(aBox t_api_Span ((zeroP PP t_api_Span).getD unk) s).bind fun r1 =>
(((aBin PP .lss t_int (.tmp 3) (.const (.int .i64 0)) t0 (.int .i64 0)).bind fun x2 =>
bcase x2 (
some (AEx.normal, [t0, r1.1, .bool true], r1.2)) (
(aBin PP .geq t_int (.tmp 6) (.const (.int .i64 64)) t0 (.int .i64 64)).bind fun x3 =>
some (AEx.normal, [t0, r1.1, x3], r1.2))).bind fun r4 =>
match r4.1 with
| .normal => j0 C L n0 ((r4.2.1.getD 0 unk)) ((r4.2.1.getD 1 unk)) ((r4.2.1.getD 2 unk)) r4.2.2
| .exit i => some (AEx.exit i, [(r4.2.1.getD 0 unk), (r4.2.1.getD 1 unk)], r4.2.2)
| .ret => some (AEx.ret, [(r4.2.1.getD 0 unk), (r4.2.1.getD 1 unk)], r4.2.2)).bind fun r7 =>
match r7.1 with
| .normal => j1 C L n0 ((r7.2.1.getD 0 unk)) ((r7.2.1.getD 1 unk)) r7.2.2
| .exit i => none
| .ret => ((aLoad true 2 r7.2.2 ((r7.2.1.getD 1 unk))).bind fun x15 => (some []).bind fun y16 => some (x15 :: y16)).bind fun z14 => fin PP false n0 z14 r7.2.2
def T : Tab := ⟨fun i => none, fun i => none, false, fun i => if i = 2 then some [0, 2, 8] else if i = 3 then some [0, 2] else none, fun _ => false, false, false, fun _ => false, 42, false⟩
end span_Whole
namespace crc_Sum
noncomputable def sh (C : Am.Callee) (L : Loops) (n0 : Nat) (t0 : Value) (s : AS) : Option (Value × List Blk × Option Nat) :=
(C n_crc_More [.int .u32 0, t0] s.H).bind fun r1 =>
fin PP false n0 [r1.1] (AS.mk r1.2.1 (joinEsc s.esc r1.2.2))
def T : Tab := ⟨fun i => none, fun i => none, false, fun i => none, fun _ => false, false, false, fun _ => false, 43, false⟩
end crc_Sum
namespace crc_More
noncomputable def loop3 (C : Am.Callee) (L : Loops) (n0 : Nat) (t1 t5 t10 t11 : Value) (s : AS) : Option ((List Value × AS) ⊕ (AEx × List Value × AS)) :=
(aBin PP .lss t_int (.tmp 11) (.tmp 10) t11 t10).bind fun x3 =>
bcase x3 (
(aIndexAddr PP t_L_uint8 t1 t11).bind fun x4 =>
(aLoad false 1 s x4).bind fun x5 =>
(C n_crc_Step [t5, x5] s.H).bind fun r6 =>
(aBin PP .add t_int (.tmp 11) (.const (.int .i64 1)) t11 (.int .i64 1)).bind fun x7 =>
some (.inl ([t1, r6.1, t10, x7], AS.mk r6.2.1 (joinEsc s.esc r6.2.2)))) (
some (.inr (.exit 0, [t5], s)))
noncomputable def loop3s (C : Am.Callee) (L : Loops) (n0 : Nat) : List Value × AS → Option ((List Value × AS) ⊕ (AEx × List Value × AS)) := fun s => loop3 C L n0 (s.1.getD 0 unk) (s.1.getD 1 unk) (s.1.getD 2 unk) (s.1.getD 3 unk) s.2
noncomputable def j2 (C : Am.Callee) (L : Loops) (n0 : Nat) (t5 : Value) (s : AS) : Option (Value × List Blk × Option Nat) :=
(aBin PP .xor t_uint32 (.tmp 21) (.const (.int .u32 4294967295)) t5 (.int .u32 4294967295)).bind fun x10 =>
fin PP false n0 [x10] s
noncomputable def sh (C : Am.Callee) (L : Loops) (n0 : Nat) (t0 t1 : Value) (s : AS) : Option (Value × List Blk × Option Nat) :=
(aBin PP .xor t_uint32 (.tmp 7) (.const (.int .u32 4294967295)) t0 (.int .u32 4294967295)).bind fun x1 =>
((aLen PP t_L_uint8 t1 s).bind fun x2 =>
(L n0 (loop3s C L n0) ([t1, x1, x2, .int .i64 0], s)).bind fun r8 =>
match r8.1 with
| .normal => some (AEx.normal, [(r8.2.1.getD 0 unk)], r8.2.2)
| .exit i => if i = 0 then some (AEx.normal, [(r8.2.1.getD 0 unk)], r8.2.2) else some (AEx.exit i, [(r8.2.1.getD 0 unk)], r8.2.2)
| .ret => some (AEx.ret, [(r8.2.1.getD 0 unk)], r8.2.2)).bind fun r9 =>
match r9.1 with
| .normal => j2 C L n0 ((r9.2.1.getD 0 unk)) r9.2.2
| .exit i => none
| .ret => fin PP false n0 [unk] r9.2.2
def T : Tab := ⟨fun i => if i = 3 then some [1, 5, 10, 11] else none, fun i => if i = 3 then some [5] else none, false, fun i => if i = 7 then some [5] else none, fun _ => false, false, false, fun _ => false, 44, false⟩
end crc_More
namespace twainref03_More
noncomputable def loop3 (C : Am.Callee) (L : Loops) (n0 : Nat) (t5 t10 t11 t12 : Value) (s : AS) : Option ((List Value × AS) ⊕ (AEx × List Value × AS)) :=
(aBin PP .lss t_int (.tmp 12) (.tmp 11) t12 t11).bind fun x3 =>
bcase x3 (
(aIndexAddr PP t_L_uint8 t10 t12).bind fun x4 =>
(aLoad false 1 s x4).bind fun x5 =>
(C n_twainref03_Step [t5, x5] s.H).bind fun r6 =>
(aBin PP .add t_int (.tmp 12) (.const (.int .i64 1)) t12 (.int .i64 1)).bind fun x7 =>
some (.inl ([r6.1, t10, t11, x7], AS.mk r6.2.1 (joinEsc s.esc r6.2.2)))) (
some (.inr (.exit 0, [t5], s)))
noncomputable def loop3s (C : Am.Callee) (L : Loops) (n0 : Nat) : List Value × AS → Option ((List Value × AS) ⊕ (AEx × List Value × AS)) := fun s => loop3 C L n0 (s.1.getD 0 unk) (s.1.getD 1 unk) (s.1.getD 2 unk) (s.1.getD 3 unk) s.2
noncomputable def j2 (C : Am.Callee) (L : Loops) (n0 : Nat) (t5 : Value) (s : AS) : Option (Value × List Blk × Option Nat) :=
(aBin PP .xor t_uint32 (.tmp 20) (.const (.int .u32 4294967295)) t5 (.int .u32 4294967295)).bind fun x10 =>
fin PP false n0 [x10] s
noncomputable def sh (C : Am.Callee) (L : Loops) (n0 : Nat) (t0 t1 : Value) (s : AS) : Option (Value × List Blk × Option Nat) :=
(aBin PP .xor t_uint32 (.tmp 8) (.const (.int .u32 4294967295)) t0 (.int .u32 4294967295)).bind fun x1 =>
((aLen PP t_L_uint8 t1 s).bind fun x2 =>
(L n0 (loop3s C L n0) ([x1, t1, x2, .int .i64 0], s)).bind fun r8 =>
match r8.1 with
| .normal => some (AEx.normal, [(r8.2.1.getD 0 unk)], r8.2.2)
| .exit i => if i = 0 then some (AEx.normal, [(r8.2.1.getD 0 unk)], r8.2.2) else some (AEx.exit i, [(r8.2.1.getD 0 unk)], r8.2.2)
| .ret => some (AEx.ret, [(r8.2.1.getD 0 unk)], r8.2.2)).bind fun r9 =>
match r9.1 with
| .normal => j2 C L n0 ((r9.2.1.getD 0 unk)) r9.2.2
| .exit i => none
| .ret => fin PP false n0 [unk] r9.2.2
def T : Tab := ⟨fun i => if i = 3 then some [5, 10, 11, 12] else none, fun i => if i = 3 then some [5] else none, false, fun i => if i = 7 then some [5] else none, fun _ => false, false, false, fun _ => false, 45, false⟩
end twainref03_More
namespace P_disk_Disk_Size
noncomputable def sh (C : Am.Callee) (L : Loops) (n0 : Nat) (t0 : Value) (s : AS) : Option (Value × List Blk × Option Nat) :=
(C n_P_disk_Disk_Made [t0] s.H).bind fun r1 =>
(aUn PP .not r1.1).bind fun x2 =>
bcase x2 (
fin PP false n0 [.int .i64 0] (AS.mk r1.2.1 (joinEsc s.esc r1.2.2))) (
(aNil t0).bind fun x3 =>
(aFieldAddr PP t_disk_Disk x3 0).bind fun x4 =>
(aLoad false 1 (AS.mk r1.2.1 (joinEsc s.esc r1.2.2)) x4).bind fun x5 =>
(aLen PP t_L_api_Sector x5 (AS.mk r1.2.1 (joinEsc s.esc r1.2.2))).bind fun x6 =>
fin PP false n0 [x6] (AS.mk r1.2.1 (joinEsc s.esc r1.2.2)))
def T : Tab := ⟨fun i => none, fun i => none, false, fun i => none, fun _ => false, false, false, fun _ => false, 46, false⟩
end P_disk_Disk_Size
namespace P_disk_Disk_Durable
noncomputable def j0 (C : Am.Callee) (L : Loops) (n0 : Nat) (t0 t1 t4 t13 : Value) (s : AS) : Option (AEx × List Value × AS) :=
bcase t13 (
(aBuild PP t_api_Sector []).bind fun x7 =>
(aStore 16 s t4 x7).bind fun s8 =>
some (AEx.ret, [t0, t1, t4], s8)) (
some (AEx.normal, [t0, t1, t4], s))
noncomputable def j1 (C : Am.Callee) (L : Loops) (n0 : Nat) (t0 t1 t4 : Value) (s : AS) : Option (Value × List Blk × Option Nat) :=
(aNil t0).bind fun x10 =>
(aFieldAddr PP t_disk_Disk x10 0).bind fun x11 =>
(aLoad false 1 s x11).bind fun x12 =>
(aIndexAddr PP t_L_api_Sector x12 t1).bind fun x13 =>
(aLoad true 16 s x13).bind fun x14 =>
(aStore 16 s t4 x14).bind fun s15 =>
((aLoad true 16 s15 t4).bind fun x17 => (some []).bind fun y18 => some (x17 :: y18)).bind fun z16 => fin PP false n0 z16 s15
noncomputable def sh (C : Am.Callee) (L : Loops) (n0 : Nat) (t0 t1 : Value) (s : AS) : Option (Value × List Blk × Option Nat) :=
(aBox t_api_Sector ((zeroP PP t_api_Sector).getD unk) s).bind fun r1 =>
(((C n_P_disk_Disk_Made [t0] r1.2.H).bind fun r2 =>
(aUn PP .not r2.1).bind fun x3 =>
bcase x3 (
some (AEx.normal, [t0, t1, r1.1, .bool true], AS.mk r2.2.1 (joinEsc r1.2.esc r2.2.2))) (
(C n_P_disk_Disk_has [t0, t1] (AS.mk r2.2.1 (joinEsc r1.2.esc r2.2.2)).H).bind fun r4 =>
(aUn PP .not r4.1).bind fun x5 =>
some (AEx.normal, [t0, t1, r1.1, x5], AS.mk r4.2.1 (joinEsc (AS.mk r2.2.1 (joinEsc r1.2.esc r2.2.2)).esc r4.2.2)))).bind fun r6 =>
match r6.1 with
| .normal => j0 C L n0 ((r6.2.1.getD 0 unk)) ((r6.2.1.getD 1 unk)) ((r6.2.1.getD 2 unk)) ((r6.2.1.getD 3 unk)) r6.2.2
| .exit i => some (AEx.exit i, [(r6.2.1.getD 0 unk), (r6.2.1.getD 1 unk), (r6.2.1.getD 2 unk)], r6.2.2)
| .ret => some (AEx.ret, [(r6.2.1.getD 0 unk), (r6.2.1.getD 1 unk), (r6.2.1.getD 2 unk)], r6.2.2)).bind fun r9 =>
match r9.1 with
| .normal => j1 C L n0 ((r9.2.1.getD 0 unk)) ((r9.2.1.getD 1 unk)) ((r9.2.1.getD 2 unk)) r9.2.2
| .exit i => none
| .ret => ((aLoad true 16 r9.2.2 ((r9.2.1.getD 2 unk))).bind fun x20 => (some []).bind fun y21 => some (x20 :: y21)).bind fun z19 => fin PP false n0 z19 r9.2.2
def T : Tab := ⟨fun i => none, fun i => none, false, fun i => if i = 2 then some [0, 1, 4, 13] else if i = 3 then some [0, 1, 4] else none, fun _ => false, false, false, fun _ => false, 47, false⟩
end P_disk_Disk_Durable
namespace bits_One
noncomputable def sh (C : Am.Callee) (L : Loops) (n0 : Nat) (t0 : Value) (s : AS) : Option (Value × List Blk × Option Nat) :=
(C n_bits_in [t0] s.H).bind fun r1 =>
(aUn PP .not r1.1).bind fun x2 =>
bcase x2 (
fin PP false n0 [.int .u64 0] (AS.mk r1.2.1 (joinEsc s.esc r1.2.2))) (
(aBin PP .shl t_uint64 (.const (.int .u64 1)) (.tmp 6) (.int .u64 1) t0).bind fun x3 =>
fin PP false n0 [x3] (AS.mk r1.2.1 (joinEsc s.esc r1.2.2)))
def T : Tab := ⟨fun i => none, fun i => none, false, fun i => none, fun _ => false, false, false, fun _ => false, 48, false⟩
end bits_One
namespace twainref01_Has
noncomputable def sh (C : Am.Callee) (L : Loops) (n0 : Nat) (t0 t1 : Value) (s : AS) : Option (Value × List Blk × Option Nat) :=
(aBin PP .geq t_int (.tmp 5) (.const (.int .i64 0)) t1 (.int .i64 0)).bind fun x1 =>
bcase x1 (
(aBin PP .leq t_int (.tmp 8) (.const (.int .i64 63)) t1 (.int .i64 63)).bind fun x2 =>
bcase x2 (
(C n_twainref01_One [t1] s.H).bind fun r3 =>
(aBin PP .quo t_uint64 (.tmp 12) (.tmp 14) t0 r3.1).bind fun x4 =>
(aBin PP .rem t_uint64 (.tmp 15) (.const (.int .u64 2)) x4 (.int .u64 2)).bind fun x5 =>
(aBin PP .eql t_uint64 (.tmp 16) (.const (.int .u64 1)) x5 (.int .u64 1)).bind fun x6 =>
fin PP false n0 [x6] (AS.mk r3.2.1 (joinEsc s.esc r3.2.2))) (
fin PP false n0 [.bool false] s)) (
fin PP false n0 [.bool false] s)
def T : Tab := ⟨fun i => none, fun i => none, false, fun i => none, fun _ => false, false, false, fun _ => false, 49, false⟩
end twainref01_Has
namespace twainref01_One
noncomputable def j0 (C : Am.Callee) (L : Loops) (n0 : Nat) (t0 t10 : Value) (s : AS) : Option (AEx × List Value × AS) :=
bcase t10 (
some (AEx.ret, [t0, .int .u64 0], s)) (
some (AEx.normal, [t0, unk], s))
noncomputable def loop5 (C : Am.Callee) (L : Loops) (n0 : Nat) (t0 t3 t4 : Value) (s : AS) : Option ((List Value × AS) ⊕ (AEx × List Value × AS)) :=
(aBin PP .lss t_int (.tmp 11) (.tmp 12) t4 t0).bind fun x5 =>
bcase x5 (
(aBin PP .mul t_uint64 (.tmp 16) (.const (.int .u64 2)) t3 (.int .u64 2)).bind fun x6 =>
(aBin PP .add t_int (.tmp 14) (.const (.int .i64 1)) t4 (.int .i64 1)).bind fun x7 =>
some (.inl ([t0, x6, x7], s))) (
some (.inr (.exit 0, [t3], s)))
noncomputable def loop5s (C : Am.Callee) (L : Loops) (n0 : Nat) : List Value × AS → Option ((List Value × AS) ⊕ (AEx × List Value × AS)) := fun s => loop5 C L n0 (s.1.getD 0 unk) (s.1.getD 1 unk) (s.1.getD 2 unk) s.2
noncomputable def j4 (C : Am.Callee) (L : Loops) (n0 : Nat) (t3 : Value) (s : AS) : Option (Value × List Blk × Option Nat) :=
fin PP false n0 [t3] s
noncomputable def j1 (C : Am.Callee) (L : Loops) (n0 : Nat) (t0 : Value) (s : AS) : Option (Value × List Blk × Option Nat) :=
((L n0 (loop5s C L n0) ([t0, .int .u64 1, .int .i64 0], s)).bind fun r8 =>
match r8.1 with
| .normal => some (AEx.normal, [(r8.2.1.getD 0 unk)], r8.2.2)
| .exit i => if i = 0 then some (AEx.normal, [(r8.2.1.getD 0 unk)], r8.2.2) else some (AEx.exit i, [(r8.2.1.getD 0 unk)], r8.2.2)
| .ret => some (AEx.ret, [(r8.2.1.getD 0 unk)], r8.2.2)).bind fun r9 =>
match r9.1 with
| .normal => j4 C L n0 ((r9.2.1.getD 0 unk)) r9.2.2
| .exit i => none
| .ret => fin PP false n0 [unk] r9.2.2
noncomputable def sh (C : Am.Callee) (L : Loops) (n0 : Nat) (t0 : Value) (s : AS) : Option (Value × List Blk × Option Nat) :=
(((aBin PP .lss t_int (.tmp 5) (.const (.int .i64 0)) t0 (.int .i64 0)).bind fun x1 =>
bcase x1 (
some (AEx.normal, [t0, .bool true], s)) (
(aBin PP .gtr t_int (.tmp 8) (.const (.int .i64 63)) t0 (.int .i64 63)).bind fun x2 =>
some (AEx.normal, [t0, x2], s))).bind fun r3 =>
match r3.1 with
| .normal => j0 C L n0 ((r3.2.1.getD 0 unk)) ((r3.2.1.getD 1 unk)) r3.2.2
| .exit i => some (AEx.exit i, [(r3.2.1.getD 0 unk), unk], r3.2.2)
| .ret => some (AEx.ret, [(r3.2.1.getD 0 unk), unk], r3.2.2)).bind fun r4 =>
match r4.1 with
| .normal => j1 C L n0 ((r4.2.1.getD 0 unk)) r4.2.2
| .exit i => none
| .ret => fin PP false n0 [(r4.2.1.getD 1 unk)] r4.2.2
def T : Tab := ⟨fun i => if i = 5 then some [0, 3, 4] else none, fun i => if i = 5 then some [3] else none, false, fun i => if i = 2 then some [0, 10] else if i = 3 then some [0, 2] else if i = 8 then some [3] else none, fun _ => false, false, false, fun _ => false, 50, false⟩
end twainref01_One
namespace super_Boot
noncomputable def sh (C : Am.Callee) (L : Loops) (n0 : Nat) (t0 : Value) (s : AS) : Option (Value × List Blk × Option Nat) :=
(C n_slots_Latest [t0, .int .i64 0, .int .i64 2] s.H).bind fun r1 =>
(pureRun PP (Instr.extract r1.1 0)).bind fun x2 =>
(pureRun PP (Instr.extract r1.1 1)).bind fun x3 =>
(aFn PP (.func (.func n_super_Boot_1) #[] #[]) [x2, x3]).bind fun g5 =>
(C g5.1 g5.2 (AS.mk r1.2.1 (joinEsc s.esc r1.2.2)).H).bind fun r4 =>
fin PP false n0 [r4.1] (AS.mk r4.2.1 (joinEsc (AS.mk r1.2.1 (joinEsc s.esc r1.2.2)).esc r4.2.2))
def T : Tab := ⟨fun i => none, fun i => none, false, fun i => none, fun _ => false, false, false, fun _ => false, 51, false⟩
end super_Boot
namespace actlog_Get
noncomputable def sh (C : Am.Callee) (L : Loops) (n0 : Nat) (t0 : Value) (s : AS) : Option (Value × List Blk × Option Nat) :=
(C n_actlog_here [] s.H).bind fun r1 =>
(aFn PP (.func (.func n_actlog_log_of) #[] #[]) [r1.1, t0]).bind fun g3 =>
(C g3.1 g3.2 (AS.mk r1.2.1 (joinEsc s.esc r1.2.2)).H).bind fun r2 =>
(pureRun PP (Instr.extract r2.1 0)).bind fun x4 =>
(pureRun PP (Instr.extract r2.1 1)).bind fun x5 =>
fin PP false n0 [x5] (AS.mk r2.2.1 (joinEsc (AS.mk r1.2.1 (joinEsc s.esc r1.2.2)).esc r2.2.2))
def T : Tab := ⟨fun i => none, fun i => none, false, fun i => none, fun _ => false, false, false, fun _ => false, 52, false⟩
end actlog_Get
namespace dirty_Get
noncomputable def sh (C : Am.Callee) (L : Loops) (n0 : Nat) (t0 : Value) (s : AS) : Option (Value × List Blk × Option Nat) :=
(aBuild PP t_dirty_bitmap [(0, t0)]).bind fun x1 =>
(C n_dirty_bitmap_mask [x1] s.H).bind fun r2 =>
fin PP false n0 [r2.1] (AS.mk r2.2.1 (joinEsc s.esc r2.2.2))
def T : Tab := ⟨fun i => none, fun i => none, false, fun i => none, fun _ => false, false, false, fun _ => false, 53, false⟩
end dirty_Get
namespace twainref08_Boot
noncomputable def sh (C : Am.Callee) (L : Loops) (n0 : Nat) (t0 : Value) (s : AS) : Option (Value × List Blk × Option Nat) :=
(C n_twainref07_Latest [t0, .int .i64 0, .int .i64 2] s.H).bind fun r1 =>
(pureRun PP (Instr.extract r1.1 0)).bind fun x2 =>
(pureRun PP (Instr.extract r1.1 1)).bind fun x3 =>
(aBin PP .rem t_uint64 (.tmp 10) (.const (.int .u64 4294967296)) x3 (.int .u64 4294967296)).bind fun x4 =>
(aConv PP t_uint64 t_uint32 x4 (AS.mk r1.2.1 (joinEsc s.esc r1.2.2))).bind fun r5 =>
fin PP false n0 [r5.1] r5.2
def T : Tab := ⟨fun i => none, fun i => none, false, fun i => none, fun _ => false, false, false, fun _ => false, 54, false⟩
end twainref08_Boot
namespace twainref10_Get
noncomputable def sh (C : Am.Callee) (L : Loops) (n0 : Nat) (t0 : Value) (s : AS) : Option (Value × List Blk × Option Nat) :=
(C n_twainref07_Latest [t0, .int .i64 2, .int .i64 4] s.H).bind fun r1 =>
(pureRun PP (Instr.extract r1.1 0)).bind fun x2 =>
(pureRun PP (Instr.extract r1.1 1)).bind fun x3 =>
fin PP false n0 [x3] (AS.mk r1.2.1 (joinEsc s.esc r1.2.2))
def T : Tab := ⟨fun i => none, fun i => none, false, fun i => none, fun _ => false, false, false, fun _ => false, 55, false⟩
end twainref10_Get
namespace twainref11_Get
noncomputable def sh (C : Am.Callee) (L : Loops) (n0 : Nat) (t0 : Value) (s : AS) : Option (Value × List Blk × Option Nat) :=
(C n_twainref07_Latest [t0, .int .i64 6, .int .i64 2] s.H).bind fun r1 =>
(pureRun PP (Instr.extract r1.1 0)).bind fun x2 =>
(pureRun PP (Instr.extract r1.1 1)).bind fun x3 =>
fin PP false n0 [x3] (AS.mk r1.2.1 (joinEsc s.esc r1.2.2))
def T : Tab := ⟨fun i => none, fun i => none, false, fun i => none, fun _ => false, false, false, fun _ => false, 56, false⟩
end twainref11_Get
namespace crc_Step
noncomputable def loop3 (C : Am.Callee) (L : Loops) (n0 : Nat) (t0 t9 : Value) (s : AS) : Option ((List Value × AS) ⊕ (AEx × List Value × AS)) :=
(aBin PP .lss t_int (.tmp 9) (.const (.int .i64 2)) t9 (.int .i64 2)).bind fun x3 =>
bcase x3 (
(aBin PP .shr t_uint32 (.tmp 11) (.const (.int .u64 4)) t0 (.int .u64 4)).bind fun x4 =>
(aConv PP t_uint32 t_uint8 t0 s).bind fun r5 =>
(C n_crc_half [r5.1] r5.2.H).bind fun r6 =>
(aBin PP .xor t_uint32 (.tmp 12) (.tmp 15) x4 r6.1).bind fun x7 =>
(aBin PP .add t_int (.tmp 9) (.const (.int .i64 1)) t9 (.int .i64 1)).bind fun x8 =>
some (.inl ([x7, x8], AS.mk r6.2.1 (joinEsc r5.2.esc r6.2.2)))) (
some (.inr (.exit 0, [t0], s)))
noncomputable def loop3s (C : Am.Callee) (L : Loops) (n0 : Nat) : List Value × AS → Option ((List Value × AS) ⊕ (AEx × List Value × AS)) := fun s => loop3 C L n0 (s.1.getD 0 unk) (s.1.getD 1 unk) s.2
noncomputable def j2 (C : Am.Callee) (L : Loops) (n0 : Nat) (t0 : Value) (s : AS) : Option (Value × List Blk × Option Nat) :=
fin PP false n0 [t0] s
noncomputable def sh (C : Am.Callee) (L : Loops) (n0 : Nat) (t0 t1 : Value) (s : AS) : Option (Value × List Blk × Option Nat) :=
(aConv PP t_uint8 t_uint32 t1 s).bind fun r1 =>
(aBin PP .xor t_uint32 (.tmp 5) (.tmp 7) t0 r1.1).bind fun x2 =>
((L n0 (loop3s C L n0) ([x2, .int .i64 0], r1.2)).bind fun r9 =>
match r9.1 with
| .normal => some (AEx.normal, [(r9.2.1.getD 0 unk)], r9.2.2)
| .exit i => if i = 0 then some (AEx.normal, [(r9.2.1.getD 0 unk)], r9.2.2) else some (AEx.exit i, [(r9.2.1.getD 0 unk)], r9.2.2)
| .ret => some (AEx.ret, [(r9.2.1.getD 0 unk)], r9.2.2)).bind fun r10 =>
match r10.1 with
| .normal => j2 C L n0 ((r10.2.1.getD 0 unk)) r10.2.2
| .exit i => none
| .ret => fin PP false n0 [unk] r10.2.2
def T : Tab := ⟨fun i => if i = 3 then some [0, 9] else none, fun i => if i = 3 then some [0] else none, false, fun i => if i = 6 then some [0] else none, fun _ => false, false, false, fun _ => false, 59, false⟩
end crc_Step
namespace twainref03_Step
noncomputable def j1 (C : Am.Callee) (L : Loops) (n0 : Nat) (t0 t5 : Value) (s : AS) : Option ((List Value × AS) ⊕ (AEx × List Value × AS)) :=
(aBin PP .add t_int (.tmp 12) (.const (.int .i64 1)) t5 (.int .i64 1)).bind fun x10 =>
some (.inl ([t0, x10], s))
noncomputable def loop3 (C : Am.Callee) (L : Loops) (n0 : Nat) (t0 t5 : Value) (s : AS) : Option ((List Value × AS) ⊕ (AEx × List Value × AS)) :=
(aBin PP .lss t_int (.tmp 10) (.const (.int .i64 8)) t5 (.int .i64 8)).bind fun x3 =>
bcase x3 (
((aBin PP .rem t_uint32 (.tmp 14) (.const (.int .u32 2)) t0 (.int .u32 2)).bind fun x4 =>
(aBin PP .eql t_uint32 (.tmp 15) (.const (.int .u32 1)) x4 (.int .u32 1)).bind fun x5 =>
bcase x5 (
(aBin PP .quo t_uint32 (.tmp 17) (.const (.int .u32 2)) t0 (.int .u32 2)).bind fun x6 =>
(aBin PP .xor t_uint32 (.tmp 18) (.const (.int .u32 3988292384)) x6 (.int .u32 3988292384)).bind fun x7 =>
some (AEx.normal, [x7, t5], s)) (
(aBin PP .quo t_uint32 (.tmp 20) (.const (.int .u32 2)) t0 (.int .u32 2)).bind fun x8 =>
some (AEx.normal, [x8, t5], s))).bind fun r9 =>
match r9.1 with
| .normal => j1 C L n0 ((r9.2.1.getD 0 unk)) ((r9.2.1.getD 1 unk)) r9.2.2
| .exit i => some (.inr (.exit i, [(r9.2.1.getD 0 unk)], r9.2.2))
| .ret => some (.inr (.ret, [(r9.2.1.getD 0 unk)], r9.2.2))) (
some (.inr (.exit 0, [t0], s)))
noncomputable def loop3s (C : Am.Callee) (L : Loops) (n0 : Nat) : List Value × AS → Option ((List Value × AS) ⊕ (AEx × List Value × AS)) := fun s => loop3 C L n0 (s.1.getD 0 unk) (s.1.getD 1 unk) s.2
noncomputable def j3 (C : Am.Callee) (L : Loops) (n0 : Nat) (t0 : Value) (s : AS) : Option (Value × List Blk × Option Nat) :=
fin PP false n0 [t0] s
noncomputable def sh (C : Am.Callee) (L : Loops) (n0 : Nat) (t0 t1 : Value) (s : AS) : Option (Value × List Blk × Option Nat) :=
(aConv PP t_uint8 t_uint32 t1 s).bind fun r1 =>
(aBin PP .xor t_uint32 (.tmp 6) (.tmp 8) t0 r1.1).bind fun x2 =>
((L n0 (loop3s C L n0) ([x2, .int .i64 0], r1.2)).bind fun r11 =>
match r11.1 with
| .normal => some (AEx.normal, [(r11.2.1.getD 0 unk)], r11.2.2)
| .exit i => if i = 0 then some (AEx.normal, [(r11.2.1.getD 0 unk)], r11.2.2) else some (AEx.exit i, [(r11.2.1.getD 0 unk)], r11.2.2)
| .ret => some (AEx.ret, [(r11.2.1.getD 0 unk)], r11.2.2)).bind fun r12 =>
match r12.1 with
| .normal => j3 C L n0 ((r12.2.1.getD 0 unk)) r12.2.2
| .exit i => none
| .ret => fin PP false n0 [unk] r12.2.2
def T : Tab := ⟨fun i => if i = 3 then some [0, 5] else none, fun i => if i = 3 then some [0] else none, false, fun i => if i = 4 then some [0, 5] else if i = 8 then some [0] else none, fun _ => false, false, false, fun _ => false, 60, false⟩
end twainref03_Step
namespace bits_in
noncomputable def sh (C : Am.Callee) (L : Loops) (n0 : Nat) (t0 : Value) (s : AS) : Option (Value × List Blk × Option Nat) :=
(aBin PP .geq t_int (.tmp 3) (.const (.int .i64 0)) t0 (.int .i64 0)).bind fun x1 =>
bcase x1 (
(aBin PP .lss t_int (.tmp 6) (.const (.int .i64 64)) t0 (.int .i64 64)).bind fun x2 =>
fin PP false n0 [x2] s) (
fin PP false n0 [.bool false] s)
def T : Tab := ⟨fun i => none, fun i => none, false, fun i => none, fun _ => false, false, false, fun _ => false, 61, false⟩
end bits_in
namespace super_Boot_1
noncomputable def sh (C : Am.Callee) (L : Loops) (n0 : Nat) (t0 t1 : Value) (s : AS) : Option (Value × List Blk × Option Nat) :=
(aConv PP t_uint64 t_uint32 t1 s).bind fun r1 =>
fin PP false n0 [r1.1] r1.2
def T : Tab := ⟨fun i => none, fun i => none, false, fun i => none, fun _ => false, false, false, fun _ => false, 62, false⟩
end super_Boot_1
namespace slots_Latest
noncomputable def sh (C : Am.Callee) (L : Loops) (n0 : Nat) (t0 t1 t2 : Value) (s : AS) : Option (Value × List Blk × Option Nat) :=
(aBuild PP t_slots_ring [(0, t1), (1, t2)]).bind fun x1 =>
(C n_slots_ring_latest [x1, t0] s.H).bind fun r2 =>
(aBox t_slots_entry ((zeroP PP t_slots_entry).getD unk) (AS.mk r2.2.1 (joinEsc s.esc r2.2.2))).bind fun r3 =>
(aStore 2 r3.2 r3.1 r2.1).bind fun s4 =>
(aFieldAddr PP t_slots_entry r3.1 0).bind fun x5 =>
(aLoad false 1 s4 x5).bind fun x6 =>
(aFieldAddr PP t_slots_entry r3.1 1).bind fun x7 =>
(aLoad false 1 s4 x7).bind fun x8 =>
fin PP false n0 [x6, x8] s4
def T : Tab := ⟨fun i => none, fun i => none, false, fun i => none, fun _ => false, false, false, fun _ => false, 63, false⟩
end slots_Latest
namespace actlog_log_of
noncomputable def sh (C : Am.Callee) (L : Loops) (n0 : Nat) (t0 t1 : Value) (s : AS) : Option (Value × List Blk × Option Nat) :=
(aBox t_actlog_log t0 s).bind fun r1 =>
(aFieldAddr PP t_actlog_log r1.1 0).bind fun x2 =>
(aLoad false 1 r1.2 x2).bind fun x3 =>
(aFieldAddr PP t_actlog_log r1.1 1).bind fun x4 =>
(aLoad false 1 r1.2 x4).bind fun x5 =>
(C n_slots_Latest [t1, x3, x5] r1.2.H).bind fun r6 =>
(pureRun PP (Instr.extract r6.1 0)).bind fun x7 =>
(pureRun PP (Instr.extract r6.1 1)).bind fun x8 =>
fin PP false n0 [x7, x8] (AS.mk r6.2.1 (joinEsc r1.2.esc r6.2.2))
def T : Tab := ⟨fun i => none, fun i => none, false, fun i => none, fun _ => false, false, false, fun _ => false, 64, false⟩
end actlog_log_of
namespace actlog_here
noncomputable def sh (C : Am.Callee) (L : Loops) (n0 : Nat) (s : AS) : Option (Value × List Blk × Option Nat) :=
(aBox t_actlog_log ((zeroP PP t_actlog_log).getD unk) s).bind fun r1 =>
(aBuild PP t_actlog_log [(0, .int .i64 2), (1, .int .i64 4)]).bind fun x2 =>
(aStore 2 r1.2 r1.1 x2).bind fun s3 =>
((aLoad true 2 s3 r1.1).bind fun x5 => (some []).bind fun y6 => some (x5 :: y6)).bind fun z4 => fin PP false n0 z4 s3
def T : Tab := ⟨fun i => none, fun i => none, false, fun i => none, fun _ => false, false, false, fun _ => false, 65, false⟩
end actlog_here
namespace dirty_bitmap_mask
noncomputable def sh (C : Am.Callee) (L : Loops) (n0 : Nat) (t0 : Value) (s : AS) : Option (Value × List Blk × Option Nat) :=
(aBox t_dirty_bitmap t0 s).bind fun r1 =>
(aFieldAddr PP t_dirty_bitmap r1.1 0).bind fun x2 =>
(aLoad false 1 r1.2 x2).bind fun x3 =>
(C n_slots_Latest [x3, .int .i64 6, .int .i64 2] r1.2.H).bind fun r4 =>
(pureRun PP (Instr.extract r4.1 0)).bind fun x5 =>
(pureRun PP (Instr.extract r4.1 1)).bind fun x6 =>
fin PP false n0 [x6] (AS.mk r4.2.1 (joinEsc r1.2.esc r4.2.2))
def T : Tab := ⟨fun i => none, fun i => none, false, fun i => none, fun _ => false, false, false, fun _ => false, 66, false⟩
end dirty_bitmap_mask
namespace twainref07_Latest
noncomputable def j0 (C : Am.Callee) (L : Loops) (n0 : Nat) (t0 t1 t2 t8 t9 t30 : Value) (s : AS) : Option (AEx × List Value × AS) :=
bcase t30 (
some (AEx.ret, [t0, t1, t2, .int .u32 0, .int .u64 0, t8, t9], s)) (
some (AEx.normal, [t0, t1, t2, unk, unk, t8, t9], s))
noncomputable def j3 (C : Am.Callee) (L : Loops) (n0 : Nat) (t0 t1 t2 t8 t9 t10 t13 t14 t68 : Value) (s : AS) : Option (AEx × List Value × AS) :=
bcase t68 (
some (AEx.normal, [t0, t1, t2, t13, t14, t10], s)) (
some (AEx.normal, [t0, t1, t2, t8, t9, t10], s))
noncomputable def j4 (C : Am.Callee) (L : Loops) (n0 : Nat) (t0 t1 t2 t8 t9 t10 : Value) (s : AS) : Option ((List Value × AS) ⊕ (AEx × List Value × AS)) :=
(aBin PP .add t_int (.tmp 37) (.const (.int .i64 1)) t10 (.int .i64 1)).bind fun x29 =>
some (.inl ([t0, t1, t2, t8, t9, x29], s))
noncomputable def loop5 (C : Am.Callee) (L : Loops) (n0 : Nat) (t0 t1 t2 t8 t9 t10 : Value) (s : AS) : Option ((List Value × AS) ⊕ (AEx × List Value × AS)) :=
(aBin PP .add t_int (.tmp 33) (.tmp 34) t1 t2).bind fun x11 =>
(aBin PP .lss t_int (.tmp 32) (.tmp 35) t10 x11).bind fun x12 =>
bcase x12 (
((C n_P_twainref06_Disk_Read [t0, t10] s.H).bind fun r13 =>
(pureRun PP (Instr.extract r13.1 0)).bind fun x14 =>
(pureRun PP (Instr.extract r13.1 1)).bind fun x15 =>
(aBox t_api_Sector ((zeroP PP t_api_Sector).getD unk) (AS.mk r13.2.1 (joinEsc s.esc r13.2.2))).bind fun r16 =>
(aStore 16 r16.2 r16.1 x14).bind fun s17 =>
(aLoad true 16 s17 r16.1).bind fun x18 =>
(C n_twainref05_Open [x18] s17.H).bind fun r19 =>
(pureRun PP (Instr.extract r19.1 0)).bind fun x20 =>
(pureRun PP (Instr.extract r19.1 1)).bind fun x21 =>
(pureRun PP (Instr.extract r19.1 2)).bind fun x22 =>
((aBin PP .eql t_int (.tmp 51) (.const (.int .i64 0)) x15 (.int .i64 0)).bind fun x23 =>
bcase x23 (
bcase x22 (
(aBin PP .gtr t_uint32 (.tmp 57) (.tmp 58) x20 t8).bind fun x24 =>
bcase x24 (
(C n_twainref07_Place [x20, t1, t2] (AS.mk r19.2.1 (joinEsc s17.esc r19.2.2)).H).bind fun r25 =>
(aBin PP .eql t_int (.tmp 65) (.tmp 66) r25.1 t10).bind fun x26 =>
some (AEx.normal, [t0, t1, t2, t8, t9, t10, x20, x21, x26], AS.mk r25.2.1 (joinEsc (AS.mk r19.2.1 (joinEsc s17.esc r19.2.2)).esc r25.2.2))) (
some (AEx.normal, [t0, t1, t2, t8, t9, t10, x20, x21, .bool false], AS.mk r19.2.1 (joinEsc s17.esc r19.2.2)))) (
some (AEx.normal, [t0, t1, t2, t8, t9, t10, x20, x21, .bool false], AS.mk r19.2.1 (joinEsc s17.esc r19.2.2)))) (
some (AEx.normal, [t0, t1, t2, t8, t9, t10, x20, x21, .bool false], AS.mk r19.2.1 (joinEsc s17.esc r19.2.2)))).bind fun r27 =>
match r27.1 with
| .normal => j3 C L n0 ((r27.2.1.getD 0 unk)) ((r27.2.1.getD 1 unk)) ((r27.2.1.getD 2 unk)) ((r27.2.1.getD 3 unk)) ((r27.2.1.getD 4 unk)) ((r27.2.1.getD 5 unk)) ((r27.2.1.getD 6 unk)) ((r27.2.1.getD 7 unk)) ((r27.2.1.getD 8 unk)) r27.2.2
| .exit i => if i = 1 then some (AEx.normal, [(r27.2.1.getD 0 unk), (r27.2.1.getD 1 unk), (r27.2.1.getD 2 unk), (r27.2.1.getD 3 unk), (r27.2.1.getD 4 unk), (r27.2.1.getD 5 unk)], r27.2.2) else some (AEx.exit i, [(r27.2.1.getD 0 unk), (r27.2.1.getD 1 unk), (r27.2.1.getD 2 unk), (r27.2.1.getD 3 unk), (r27.2.1.getD 4 unk), (r27.2.1.getD 5 unk)], r27.2.2)
| .ret => some (AEx.ret, [(r27.2.1.getD 0 unk), (r27.2.1.getD 1 unk), (r27.2.1.getD 2 unk), (r27.2.1.getD 3 unk), (r27.2.1.getD 4 unk), (r27.2.1.getD 5 unk)], r27.2.2)).bind fun r28 =>
match r28.1 with
| .normal => j4 C L n0 ((r28.2.1.getD 0 unk)) ((r28.2.1.getD 1 unk)) ((r28.2.1.getD 2 unk)) ((r28.2.1.getD 3 unk)) ((r28.2.1.getD 4 unk)) ((r28.2.1.getD 5 unk)) r28.2.2
| .exit i => some (.inr (.exit i, [(r28.2.1.getD 3 unk), (r28.2.1.getD 4 unk)], r28.2.2))
| .ret => some (.inr (.ret, [(r28.2.1.getD 3 unk), (r28.2.1.getD 4 unk)], r28.2.2))) (
some (.inr (.exit 0, [t8, t9], s)))
noncomputable def loop5s (C : Am.Callee) (L : Loops) (n0 : Nat) : List Value × AS → Option ((List Value × AS) ⊕ (AEx × List Value × AS)) := fun s => loop5 C L n0 (s.1.getD 0 unk) (s.1.getD 1 unk) (s.1.getD 2 unk) (s.1.getD 3 unk) (s.1.getD 4 unk) (s.1.getD 5 unk) s.2
noncomputable def j6 (C : Am.Callee) (L : Loops) (n0 : Nat) (t8 t9 : Value) (s : AS) : Option (Value × List Blk × Option Nat) :=
fin PP false n0 [t8, t9] s
noncomputable def j1 (C : Am.Callee) (L : Loops) (n0 : Nat) (t0 t1 t2 t8 t9 : Value) (s : AS) : Option (Value × List Blk × Option Nat) :=
((L n0 (loop5s C L n0) ([t0, t1, t2, t8, t9, t1], s)).bind fun r30 =>
match r30.1 with
| .normal => some (AEx.normal, [(r30.2.1.getD 0 unk), (r30.2.1.getD 1 unk)], r30.2.2)
| .exit i => if i = 0 then some (AEx.normal, [(r30.2.1.getD 0 unk), (r30.2.1.getD 1 unk)], r30.2.2) else some (AEx.exit i, [(r30.2.1.getD 0 unk), (r30.2.1.getD 1 unk)], r30.2.2)
| .ret => some (AEx.ret, [(r30.2.1.getD 0 unk), (r30.2.1.getD 1 unk)], r30.2.2)).bind fun r31 =>
match r31.1 with
| .normal => j6 C L n0 ((r31.2.1.getD 0 unk)) ((r31.2.1.getD 1 unk)) r31.2.2
| .exit i => none
| .ret => fin PP false n0 [unk, unk] r31.2.2
noncomputable def sh (C : Am.Callee) (L : Loops) (n0 : Nat) (t0 t1 t2 : Value) (s : AS) : Option (Value × List Blk × Option Nat) :=
(((C n_twainref07_ring [t1, t2] s.H).bind fun r1 =>
(aUn PP .not r1.1).bind fun x2 =>
bcase x2 (
some (AEx.normal, [t0, t1, t2, .int .u32 0, .int .u64 0, .bool true], AS.mk r1.2.1 (joinEsc s.esc r1.2.2))) (
(aNil t0).bind fun x3 =>
(aFieldAddr PP t_twainref06_Disk x3 0).bind fun x4 =>
(aLoad false 1 (AS.mk r1.2.1 (joinEsc s.esc r1.2.2)) x4).bind fun x5 =>
(aLen PP t_L_twainref06_Cell x5 (AS.mk r1.2.1 (joinEsc s.esc r1.2.2))).bind fun x6 =>
(aBin PP .sub t_int (.tmp 26) (.tmp 27) x6 t2).bind fun x7 =>
(aBin PP .gtr t_int (.tmp 21) (.tmp 28) t1 x7).bind fun x8 =>
some (AEx.normal, [t0, t1, t2, .int .u32 0, .int .u64 0, x8], AS.mk r1.2.1 (joinEsc s.esc r1.2.2)))).bind fun r9 =>
match r9.1 with
| .normal => j0 C L n0 ((r9.2.1.getD 0 unk)) ((r9.2.1.getD 1 unk)) ((r9.2.1.getD 2 unk)) ((r9.2.1.getD 3 unk)) ((r9.2.1.getD 4 unk)) ((r9.2.1.getD 5 unk)) r9.2.2
| .exit i => some (AEx.exit i, [(r9.2.1.getD 0 unk), (r9.2.1.getD 1 unk), (r9.2.1.getD 2 unk), unk, unk, (r9.2.1.getD 3 unk), (r9.2.1.getD 4 unk)], r9.2.2)
| .ret => some (AEx.ret, [(r9.2.1.getD 0 unk), (r9.2.1.getD 1 unk), (r9.2.1.getD 2 unk), unk, unk, (r9.2.1.getD 3 unk), (r9.2.1.getD 4 unk)], r9.2.2)).bind fun r10 =>
match r10.1 with
| .normal => j1 C L n0 ((r10.2.1.getD 0 unk)) ((r10.2.1.getD 1 unk)) ((r10.2.1.getD 2 unk)) ((r10.2.1.getD 5 unk)) ((r10.2.1.getD 6 unk)) r10.2.2
| .exit i => none
| .ret => fin PP false n0 [(r10.2.1.getD 3 unk), (r10.2.1.getD 4 unk)] r10.2.2
def T : Tab := ⟨fun i => if i = 5 then some [0, 1, 2, 8, 9, 10] else none, fun i => if i = 5 then some [8, 9] else none, false, fun i => if i = 3 then some [0, 1, 2, 8, 9, 30] else if i = 4 then some [0, 1, 2, 6, 7, 8, 9] else if i = 6 then some [0, 1, 2, 8, 9, 10] else if i = 10 then some [0, 1, 2, 8, 9, 10, 13, 14, 68] else if i = 11 then some [8, 9] else none, fun _ => false, false, false, fun _ => false, 67, false⟩
end twainref07_Latest
namespace crc_half
noncomputable def sh (C : Am.Callee) (L : Loops) (n0 : Nat) (t0 : Value) (s : AS) : Option (Value × List Blk × Option Nat) :=
(aBuild PP t_A16_uint32 [(0, .int .u32 0), (1, .int .u32 498536548), (2, .int .u32 997073096), (3, .int .u32 651767980), (4, .int .u32 1994146192), (5, .int .u32 1802195444), (6, .int .u32 1303535960), (7, .int .u32 1342533948), (8, .int .u32 3988292384), (9, .int .u32 4027552580), (10, .int .u32 3604390888), (11, .int .u32 3412177804), (12, .int .u32 2607071920), (13, .int .u32 2262029012), (14, .int .u32 2685067896), (15, .int .u32 3183342108)]).bind fun x1 =>
(aBox t_A16_uint32 ((zeroP PP t_A16_uint32).getD unk) s).bind fun r2 =>
(aStore 16 r2.2 r2.1 x1).bind fun s3 =>
(aBin PP .and t_uint8 (.tmp 5) (.const (.int .u8 15)) t0 (.int .u8 15)).bind fun x4 =>
(aIndexAddr PP t_A16_uint32 r2.1 x4).bind fun x5 =>
(aLoad false 1 s3 x5).bind fun x6 =>
fin PP false n0 [x6] s3
def T : Tab := ⟨fun i => none, fun i => none, false, fun i => none, fun _ => false, false, false, fun _ => false, 70, false⟩
end crc_half
namespace slots_ring_latest
noncomputable def j1 (C : Am.Callee) (L : Loops) (n0 : Nat) (t1 t2 t4 t5 t7 t14 t15 t34 : Value) (s : AS) : Option (AEx × List Value × AS) :=
bcase t34 (
(aLoad true 2 s t7).bind fun x31 =>
(aStore 2 s t5 x31).bind fun s32 =>
some (AEx.normal, [t1, t2, t4, t5, t14, t15], s32)) (
some (AEx.normal, [t1, t2, t4, t5, t14, t15], s))
noncomputable def j2 (C : Am.Callee) (L : Loops) (n0 : Nat) (t1 t2 t4 t5 t14 t15 : Value) (s : AS) : Option ((List Value × AS) ⊕ (AEx × List Value × AS)) :=
(aBin PP .add t_int (.tmp 15) (.const (.int .i64 1)) t15 (.int .i64 1)).bind fun x34 =>
some (.inl ([t1, t2, t4, t5, t14, x34], s))
noncomputable def loop5 (C : Am.Callee) (L : Loops) (n0 : Nat) (t1 t2 t4 t5 t14 t15 : Value) (s : AS) : Option ((List Value × AS) ⊕ (AEx × List Value × AS)) :=
(aBin PP .lss t_int (.tmp 15) (.tmp 14) t15 t14).bind fun x14 =>
bcase x14 (
((aLoad true 2 s t2).bind fun x15 =>
(aFieldAddr PP t_slots_ring t2 0).bind fun x16 =>
(aLoad false 1 s x16).bind fun x17 =>
(aBin PP .add t_int (.tmp 21) (.tmp 22) x17 t15).bind fun x18 =>
(C n_slots_ring_read [x15, t1, x18] s.H).bind fun r19 =>
(aBox t_slots_entry ((zeroP PP t_slots_entry).getD unk) (AS.mk r19.2.1 (joinEsc s.esc r19.2.2))).bind fun r20 =>
(aStore 2 r20.2 r20.1 r19.1).bind fun s21 =>
((aLoad true 2 s21 r20.1).bind fun x22 =>
(aBuild PP t_slots_entry []).bind fun x23 =>
(aBin PP .neq t_slots_entry (.tmp 25) (.tmp 26) x22 x23).bind fun x24 =>
bcase x24 (
(aFieldAddr PP t_slots_entry r20.1 0).bind fun x25 =>
(aLoad false 1 s21 x25).bind fun x26 =>
(aFieldAddr PP t_slots_entry t5 0).bind fun x27 =>
(aLoad false 1 s21 x27).bind fun x28 =>
(aBin PP .gtr t_uint32 (.tmp 30) (.tmp 32) x26 x28).bind fun x29 =>
some (AEx.normal, [t1, t2, t4, t5, r20.1, t14, t15, x29], s21)) (
some (AEx.normal, [t1, t2, t4, t5, r20.1, t14, t15, .bool false], s21))).bind fun r30 =>
match r30.1 with
| .normal => j1 C L n0 ((r30.2.1.getD 0 unk)) ((r30.2.1.getD 1 unk)) ((r30.2.1.getD 2 unk)) ((r30.2.1.getD 3 unk)) ((r30.2.1.getD 4 unk)) ((r30.2.1.getD 5 unk)) ((r30.2.1.getD 6 unk)) ((r30.2.1.getD 7 unk)) r30.2.2
| .exit i => if i = 1 then some (AEx.normal, [(r30.2.1.getD 0 unk), (r30.2.1.getD 1 unk), (r30.2.1.getD 2 unk), (r30.2.1.getD 3 unk), (r30.2.1.getD 5 unk), (r30.2.1.getD 6 unk)], r30.2.2) else some (AEx.exit i, [(r30.2.1.getD 0 unk), (r30.2.1.getD 1 unk), (r30.2.1.getD 2 unk), (r30.2.1.getD 3 unk), (r30.2.1.getD 5 unk), (r30.2.1.getD 6 unk)], r30.2.2)
| .ret => some (AEx.ret, [(r30.2.1.getD 0 unk), (r30.2.1.getD 1 unk), (r30.2.1.getD 2 unk), (r30.2.1.getD 3 unk), (r30.2.1.getD 5 unk), (r30.2.1.getD 6 unk)], r30.2.2)).bind fun r33 =>
match r33.1 with
| .normal => j2 C L n0 ((r33.2.1.getD 0 unk)) ((r33.2.1.getD 1 unk)) ((r33.2.1.getD 2 unk)) ((r33.2.1.getD 3 unk)) ((r33.2.1.getD 4 unk)) ((r33.2.1.getD 5 unk)) r33.2.2
| .exit i => some (.inr (.exit i, [(r33.2.1.getD 2 unk), (r33.2.1.getD 3 unk)], r33.2.2))
| .ret => some (.inr (.ret, [(r33.2.1.getD 2 unk), (r33.2.1.getD 3 unk)], r33.2.2))) (
some (.inr (.exit 0, [t4, t5], s)))
noncomputable def loop5s (C : Am.Callee) (L : Loops) (n0 : Nat) : List Value × AS → Option ((List Value × AS) ⊕ (AEx × List Value × AS)) := fun s => loop5 C L n0 (s.1.getD 0 unk) (s.1.getD 1 unk) (s.1.getD 2 unk) (s.1.getD 3 unk) (s.1.getD 4 unk) (s.1.getD 5 unk) s.2
noncomputable def j4 (C : Am.Callee) (L : Loops) (n0 : Nat) (t4 t5 : Value) (s : AS) : Option (Value × List Blk × Option Nat) :=
(aLoad true 2 s t5).bind fun x37 =>
(aStore 2 s t4 x37).bind fun s38 =>
((aLoad true 2 s38 t4).bind fun x40 => (some []).bind fun y41 => some (x40 :: y41)).bind fun z39 => fin PP false n0 z39 s38
noncomputable def sh (C : Am.Callee) (L : Loops) (n0 : Nat) (t0 t1 : Value) (s : AS) : Option (Value × List Blk × Option Nat) :=
(aBox t_slots_ring t0 s).bind fun r1 =>
(aBox t_slots_entry ((zeroP PP t_slots_entry).getD unk) r1.2).bind fun r2 =>
(aBox t_slots_entry ((zeroP PP t_slots_entry).getD unk) r2.2).bind fun r3 =>
(aLoad true 2 r3.2 r1.1).bind fun x4 =>
(C n_slots_ring_on [x4, t1] r3.2.H).bind fun r5 =>
(aUn PP .not r5.1).bind fun x6 =>
bcase x6 (
(aLoad true 2 (AS.mk r5.2.1 (joinEsc r3.2.esc r5.2.2)) r3.1).bind fun x7 =>
(aStore 2 (AS.mk r5.2.1 (joinEsc r3.2.esc r5.2.2)) r2.1 x7).bind fun s8 =>
((aLoad true 2 s8 r2.1).bind fun x10 => (some []).bind fun y11 => some (x10 :: y11)).bind fun z9 => fin PP false n0 z9 s8) (
((aFieldAddr PP t_slots_ring r1.1 1).bind fun x12 =>
(aLoad false 1 (AS.mk r5.2.1 (joinEsc r3.2.esc r5.2.2)) x12).bind fun x13 =>
(L n0 (loop5s C L n0) ([t1, r1.1, r2.1, r3.1, x13, .int .i64 0], AS.mk r5.2.1 (joinEsc r3.2.esc r5.2.2))).bind fun r35 =>
match r35.1 with
| .normal => some (AEx.normal, [(r35.2.1.getD 0 unk), (r35.2.1.getD 1 unk)], r35.2.2)
| .exit i => if i = 0 then some (AEx.normal, [(r35.2.1.getD 0 unk), (r35.2.1.getD 1 unk)], r35.2.2) else some (AEx.exit i, [(r35.2.1.getD 0 unk), (r35.2.1.getD 1 unk)], r35.2.2)
| .ret => some (AEx.ret, [(r35.2.1.getD 0 unk), (r35.2.1.getD 1 unk)], r35.2.2)).bind fun r36 =>
match r36.1 with
| .normal => j4 C L n0 ((r36.2.1.getD 0 unk)) ((r36.2.1.getD 1 unk)) r36.2.2
| .exit i => none
| .ret => ((aLoad true 2 r36.2.2 ((r36.2.1.getD 0 unk))).bind fun x43 => (some []).bind fun y44 => some (x43 :: y44)).bind fun z42 => fin PP false n0 z42 r36.2.2)
def T : Tab := ⟨fun i => if i = 5 then some [1, 2, 4, 5, 14, 15] else none, fun i => if i = 5 then some [4, 5] else none, false, fun i => if i = 9 then some [1, 2, 4, 5, 7, 14, 15, 34] else if i = 10 then some [1, 2, 4, 5, 14, 15] else if i = 11 then some [4, 5] else none, fun _ => false, false, false, fun _ => false, 71, false⟩
end slots_ring_latest
namespace twainref07_ring
noncomputable def sh (C : Am.Callee) (L : Loops) (n0 : Nat) (t0 t1 : Value) (s : AS) : Option (Value × List Blk × Option Nat) :=
(aBin PP .geq t_int (.tmp 5) (.const (.int .i64 2)) t1 (.int .i64 2)).bind fun x1 =>
bcase x1 (
(aBin PP .leq t_int (.tmp 8) (.const (.int .i64 8)) t1 (.int .i64 8)).bind fun x2 =>
bcase x2 (
(aBin PP .geq t_int (.tmp 12) (.const (.int .i64 0)) t0 (.int .i64 0)).bind fun x3 =>
bcase x3 (
(aBin PP .leq t_int (.tmp 16) (.const (.int .i64 1024)) t0 (.int .i64 1024)).bind fun x4 =>
fin PP false n0 [x4] s) (
fin PP false n0 [.bool false] s)) (
fin PP false n0 [.bool false] s)) (
fin PP false n0 [.bool false] s)
def T : Tab := ⟨fun i => none, fun i => none, false, fun i => none, fun _ => false, false, false, fun _ => false, 72, false⟩
end twainref07_ring
namespace P_twainref06_Disk_Read
noncomputable def sh (C : Am.Callee) (L : Loops) (n0 : Nat) (t0 t1 : Value) (s : AS) : Option (Value × List Blk × Option Nat) :=
(aBox t_api_Sector ((zeroP PP t_api_Sector).getD unk) s).bind fun r1 =>
(C n_P_twainref06_Disk_in [t0, t1] r1.2.H).bind fun r2 =>
(aUn PP .not r2.1).bind fun x3 =>
bcase x3 (
(aBuild PP t_api_Sector []).bind fun x4 =>
(aStore 16 (AS.mk r2.2.1 (joinEsc r1.2.esc r2.2.2)) r1.1 x4).bind fun s5 =>
((aLoad true 16 s5 r1.1).bind fun x7 => ((some (.int .i64 13)).bind fun x9 => (some []).bind fun y10 => some (x9 :: y10)).bind fun y8 => some (x7 :: y8)).bind fun z6 => fin PP false n0 z6 s5) (
(aNil t0).bind fun x11 =>
(aFieldAddr PP t_twainref06_Disk x11 2).bind fun x12 =>
(aLoad false 1 (AS.mk r2.2.1 (joinEsc r1.2.esc r2.2.2)) x12).bind fun x13 =>
bcase x13 (
(aBuild PP t_api_Sector []).bind fun x14 =>
(aStore 16 (AS.mk r2.2.1 (joinEsc r1.2.esc r2.2.2)) r1.1 x14).bind fun s15 =>
((aLoad true 16 s15 r1.1).bind fun x17 => ((some (.int .i64 3)).bind fun x19 => (some []).bind fun y20 => some (x19 :: y20)).bind fun y18 => some (x17 :: y18)).bind fun z16 => fin PP false n0 z16 s15) (
(aNil t0).bind fun x21 =>
(aFieldAddr PP t_twainref06_Disk x21 0).bind fun x22 =>
(aLoad false 1 (AS.mk r2.2.1 (joinEsc r1.2.esc r2.2.2)) x22).bind fun x23 =>
(aIndexAddr PP t_L_twainref06_Cell x23 t1).bind fun x24 =>
(aFieldAddr PP t_twainref06_Cell x24 2).bind fun x25 =>
(aLoad false 1 (AS.mk r2.2.1 (joinEsc r1.2.esc r2.2.2)) x25).bind fun x26 =>
bcase x26 (
(aNil t0).bind fun x27 =>
(aFieldAddr PP t_twainref06_Disk x27 0).bind fun x28 =>
(aLoad false 1 (AS.mk r2.2.1 (joinEsc r1.2.esc r2.2.2)) x28).bind fun x29 =>
(aIndexAddr PP t_L_twainref06_Cell x29 t1).bind fun x30 =>
(aFieldAddr PP t_twainref06_Cell x30 1).bind fun x31 =>
(aLoad true 16 (AS.mk r2.2.1 (joinEsc r1.2.esc r2.2.2)) x31).bind fun x32 =>
(aStore 16 (AS.mk r2.2.1 (joinEsc r1.2.esc r2.2.2)) r1.1 x32).bind fun s33 =>
((aLoad true 16 s33 r1.1).bind fun x35 => ((some (.int .i64 0)).bind fun x37 => (some []).bind fun y38 => some (x37 :: y38)).bind fun y36 => some (x35 :: y36)).bind fun z34 => fin PP false n0 z34 s33) (
(aNil t0).bind fun x39 =>
(aFieldAddr PP t_twainref06_Disk x39 0).bind fun x40 =>
(aLoad false 1 (AS.mk r2.2.1 (joinEsc r1.2.esc r2.2.2)) x40).bind fun x41 =>
(aIndexAddr PP t_L_twainref06_Cell x41 t1).bind fun x42 =>
(aFieldAddr PP t_twainref06_Cell x42 0).bind fun x43 =>
(aLoad true 16 (AS.mk r2.2.1 (joinEsc r1.2.esc r2.2.2)) x43).bind fun x44 =>
(aStore 16 (AS.mk r2.2.1 (joinEsc r1.2.esc r2.2.2)) r1.1 x44).bind fun s45 =>
((aLoad true 16 s45 r1.1).bind fun x47 => ((some (.int .i64 0)).bind fun x49 => (some []).bind fun y50 => some (x49 :: y50)).bind fun y48 => some (x47 :: y48)).bind fun z46 => fin PP false n0 z46 s45)))
def T : Tab := ⟨fun i => none, fun i => none, false, fun i => none, fun _ => false, false, false, fun _ => false, 73, false⟩
end P_twainref06_Disk_Read
namespace twainref05_Open
noncomputable def sh (C : Am.Callee) (L : Loops) (n0 : Nat) (t0 : Value) (s : AS) : Option (Value × List Blk × Option Nat) :=
(aBox t_api_Sector t0 s).bind fun r1 =>
(bsl PP t_L_uint8 0 [] [] r1.2).bind fun r2 =>
(aSlice PP t_api_Sector r1.1 none none none r2.2).bind fun x3 =>
eBuiltin PP .append #[t_L_uint8, t_L_uint8] [r2.1, x3] r2.2 fun x4 s5 =>
(C n_twainref02_Get32 [x4] s5.H).bind fun r6 =>
(pureRun PP (Instr.extract r6.1 0)).bind fun x7 =>
(pureRun PP (Instr.extract r6.1 1)).bind fun x8 =>
(aSlice PP t_L_uint8 x4 (some (.int .i64 4)) none none (AS.mk r6.2.1 (joinEsc s5.esc r6.2.2))).bind fun x9 =>
(C n_twainref02_Get [x9, .int .i64 8] (AS.mk r6.2.1 (joinEsc s5.esc r6.2.2)).H).bind fun r10 =>
(pureRun PP (Instr.extract r10.1 0)).bind fun x11 =>
(pureRun PP (Instr.extract r10.1 1)).bind fun x12 =>
(aLoad true 16 (AS.mk r10.2.1 (joinEsc (AS.mk r6.2.1 (joinEsc s5.esc r6.2.2)).esc r10.2.2)) r1.1).bind fun x13 =>
(C n_twainref05_Record [x7, x11] (AS.mk r10.2.1 (joinEsc (AS.mk r6.2.1 (joinEsc s5.esc r6.2.2)).esc r10.2.2)).H).bind fun r14 =>
if ((((aLoad true 16 (AS.mk r14.2.1 (joinEsc (AS.mk r10.2.1 (joinEsc (AS.mk r6.2.1 (joinEsc s5.esc r6.2.2)).esc r10.2.2)).esc r14.2.2)) r1.1).bind fun x16 =>
some (veq x16 x13)) == some true) && true) = true then
(aBin PP .neq t_api_Sector (.tmp 26) (.tmp 27) r14.1 x13).bind fun x15 =>
bcase x15 (
fin PP false n0 [.int .u32 0, .int .u64 0, .bool false] (AS.mk r14.2.1 (joinEsc (AS.mk r10.2.1 (joinEsc (AS.mk r6.2.1 (joinEsc s5.esc r6.2.2)).esc r10.2.2)).esc r14.2.2))) (
fin PP false n0 [x7, x11, .bool true] (AS.mk r14.2.1 (joinEsc (AS.mk r10.2.1 (joinEsc (AS.mk r6.2.1 (joinEsc s5.esc r6.2.2)).esc r10.2.2)).esc r14.2.2)))
else none
def T : Tab := ⟨fun i => none, fun i => none, false, fun i => none, fun _ => false, false, false, fun _ => false, 74, false⟩
end twainref05_Open
namespace twainref07_Place
noncomputable def sh (C : Am.Callee) (L : Loops) (n0 : Nat) (t0 t1 t2 : Value) (s : AS) : Option (Value × List Blk × Option Nat) :=
(C n_twainref07_ring [t1, t2] s.H).bind fun r1 =>
(aUn PP .not r1.1).bind fun x2 =>
bcase x2 (
fin PP false n0 [.int .i64 0] (AS.mk r1.2.1 (joinEsc s.esc r1.2.2))) (
(aConv PP t_uint32 t_int t0 (AS.mk r1.2.1 (joinEsc s.esc r1.2.2))).bind fun r3 =>
(aBin PP .rem t_int (.tmp 13) (.tmp 14) r3.1 t2).bind fun x4 =>
(aBin PP .add t_int (.tmp 11) (.tmp 15) t1 x4).bind fun x5 =>
fin PP false n0 [x5] r3.2)
def T : Tab := ⟨fun i => none, fun i => none, false, fun i => none, fun _ => false, false, false, fun _ => false, 75, false⟩
end twainref07_Place
namespace slots_ring_on
noncomputable def sh (C : Am.Callee) (L : Loops) (n0 : Nat) (t0 t1 : Value) (s : AS) : Option (Value × List Blk × Option Nat) :=
(aBox t_slots_ring t0 s).bind fun r1 =>
(aLoad true 2 r1.2 r1.1).bind fun x2 =>
(C n_slots_ring_good [x2] r1.2.H).bind fun r3 =>
bcase r3.1 (
(aFieldAddr PP t_slots_ring r1.1 0).bind fun x4 =>
(aLoad false 1 (AS.mk r3.2.1 (joinEsc r1.2.esc r3.2.2)) x4).bind fun x5 =>
(aFieldAddr PP t_slots_ring r1.1 1).bind fun x6 =>
(aLoad false 1 (AS.mk r3.2.1 (joinEsc r1.2.esc r3.2.2)) x6).bind fun x7 =>
(C n_P_disk_Disk_Size [t1] (AS.mk r3.2.1 (joinEsc r1.2.esc r3.2.2)).H).bind fun r8 =>
if ((((aLoad false 1 (AS.mk r8.2.1 (joinEsc (AS.mk r3.2.1 (joinEsc r1.2.esc r3.2.2)).esc r8.2.2)) x4).bind fun x12 =>
some (veq x12 x5)) == some true) && ((((aLoad false 1 (AS.mk r8.2.1 (joinEsc (AS.mk r3.2.1 (joinEsc r1.2.esc r3.2.2)).esc r8.2.2)) x6).bind fun x11 =>
some (veq x11 x7)) == some true) && true)) = true then
(aBin PP .sub t_int (.tmp 11) (.tmp 13) r8.1 x7).bind fun x9 =>
(aBin PP .leq t_int (.tmp 9) (.tmp 14) x5 x9).bind fun x10 =>
fin PP false n0 [x10] (AS.mk r8.2.1 (joinEsc (AS.mk r3.2.1 (joinEsc r1.2.esc r3.2.2)).esc r8.2.2))
else none) (
fin PP false n0 [.bool false] (AS.mk r3.2.1 (joinEsc r1.2.esc r3.2.2)))
def T : Tab := ⟨fun i => none, fun i => none, false, fun i => none, fun _ => false, false, false, fun _ => false, 77, false⟩
end slots_ring_on
namespace slots_ring_read
noncomputable def j0 (C : Am.Callee) (L : Loops) (n0 : Nat) (t6 t9 t10 t35 : Value) (s : AS) : Option (AEx × List Value × AS) :=
bcase t35 (
(aBuild PP t_slots_entry []).bind fun x24 =>
(aStore 2 s t6 x24).bind fun s25 =>
some (AEx.ret, [t6, t9, t10], s25)) (
some (AEx.normal, [t6, t9, t10], s))
noncomputable def j1 (C : Am.Callee) (L : Loops) (n0 : Nat) (t6 t9 t10 : Value) (s : AS) : Option (Value × List Blk × Option Nat) :=
(aBuild PP t_slots_entry [(0, t9), (1, t10)]).bind fun x27 =>
(aStore 2 s t6 x27).bind fun s28 =>
((aLoad true 2 s28 t6).bind fun x30 => (some []).bind fun y31 => some (x30 :: y31)).bind fun z29 => fin PP false n0 z29 s28
noncomputable def sh (C : Am.Callee) (L : Loops) (n0 : Nat) (t0 t1 t2 : Value) (s : AS) : Option (Value × List Blk × Option Nat) :=
(aBox t_slots_ring t0 s).bind fun r1 =>
(aBox t_slots_entry ((zeroP PP t_slots_entry).getD unk) r1.2).bind fun r2 =>
(C n_P_disk_Disk_Read [t1, t2] r2.2.H).bind fun r3 =>
(pureRun PP (Instr.extract r3.1 0)).bind fun x4 =>
(pureRun PP (Instr.extract r3.1 1)).bind fun x5 =>
(aBox t_api_Sector ((zeroP PP t_api_Sector).getD unk) (AS.mk r3.2.1 (joinEsc r2.2.esc r3.2.2))).bind fun r6 =>
(aStore 16 r6.2 r6.1 x4).bind fun s7 =>
(aBin PP .neq t_api_Errno (.tmp 18) (.const (.int .i64 0)) x5 (.int .i64 0)).bind fun x8 =>
bcase x8 (
(aBuild PP t_slots_entry []).bind fun x9 =>
(aStore 2 s7 r2.1 x9).bind fun s10 =>
((aLoad true 2 s10 r2.1).bind fun x12 => (some []).bind fun y13 => some (x12 :: y13)).bind fun z11 => fin PP false n0 z11 s10) (
(aLoad true 16 s7 r6.1).bind fun x14 =>
(C n_seal_Open [x14] s7.H).bind fun r15 =>
(pureRun PP (Instr.extract r15.1 0)).bind fun x16 =>
(pureRun PP (Instr.extract r15.1 1)).bind fun x17 =>
(pureRun PP (Instr.extract r15.1 2)).bind fun x18 =>
(((aUn PP .not x18).bind fun x19 =>
bcase x19 (
some (AEx.normal, [r2.1, x16, x17, .bool true], AS.mk r15.2.1 (joinEsc s7.esc r15.2.2))) (
(aLoad true 2 (AS.mk r15.2.1 (joinEsc s7.esc r15.2.2)) r1.1).bind fun x20 =>
(C n_slots_ring_place [x20, x16] (AS.mk r15.2.1 (joinEsc s7.esc r15.2.2)).H).bind fun r21 =>
(aBin PP .neq t_int (.tmp 32) (.tmp 33) r21.1 t2).bind fun x22 =>
some (AEx.normal, [r2.1, x16, x17, x22], AS.mk r21.2.1 (joinEsc (AS.mk r15.2.1 (joinEsc s7.esc r15.2.2)).esc r21.2.2)))).bind fun r23 =>
match r23.1 with
| .normal => j0 C L n0 ((r23.2.1.getD 0 unk)) ((r23.2.1.getD 1 unk)) ((r23.2.1.getD 2 unk)) ((r23.2.1.getD 3 unk)) r23.2.2
| .exit i => some (AEx.exit i, [(r23.2.1.getD 0 unk), (r23.2.1.getD 1 unk), (r23.2.1.getD 2 unk)], r23.2.2)
| .ret => some (AEx.ret, [(r23.2.1.getD 0 unk), (r23.2.1.getD 1 unk), (r23.2.1.getD 2 unk)], r23.2.2)).bind fun r26 =>
match r26.1 with
| .normal => j1 C L n0 ((r26.2.1.getD 0 unk)) ((r26.2.1.getD 1 unk)) ((r26.2.1.getD 2 unk)) r26.2.2
| .exit i => none
| .ret => ((aLoad true 2 r26.2.2 ((r26.2.1.getD 0 unk))).bind fun x33 => (some []).bind fun y34 => some (x33 :: y34)).bind fun z32 => fin PP false n0 z32 r26.2.2)
def T : Tab := ⟨fun i => none, fun i => none, false, fun i => if i = 6 then some [6, 9, 10, 35] else if i = 7 then some [6, 9, 10] else none, fun _ => false, false, false, fun _ => false, 78, false⟩
end slots_ring_read
namespace twainref02_Get32
noncomputable def sh (C : Am.Callee) (L : Loops) (n0 : Nat) (t0 : Value) (s : AS) : Option (Value × List Blk × Option Nat) :=
(C n_twainref02_Get [t0, .int .i64 4] s.H).bind fun r1 =>
(pureRun PP (Instr.extract r1.1 0)).bind fun x2 =>
(pureRun PP (Instr.extract r1.1 1)).bind fun x3 =>
(aConv PP t_uint64 t_uint32 x2 (AS.mk r1.2.1 (joinEsc s.esc r1.2.2))).bind fun r4 =>
fin PP false n0 [r4.1, x3] r4.2
def T : Tab := ⟨fun i => none, fun i => none, false, fun i => none, fun _ => false, false, false, fun _ => false, 79, false⟩
end twainref02_Get32
namespace twainref02_Get
noncomputable def loop5 (C : Am.Callee) (L : Loops) (n0 : Nat) (t0 t1 t6 t7 : Value) (s : AS) : Option ((List Value × AS) ⊕ (AEx × List Value × AS)) :=
(aBin PP .lss t_int (.tmp 12) (.tmp 13) t7 t1).bind fun x3 =>
bcase x3 (
(aBin PP .mul t_uint64 (.const (.int .u64 256)) (.tmp 17) (.int .u64 256) t6).bind fun x4 =>
(aIndexAddr PP t_L_uint8 t0 t7).bind fun x5 =>
(aLoad false 1 s x5).bind fun x6 =>
(aConv PP t_uint8 t_uint64 x6 s).bind fun r7 =>
(aBin PP .add t_uint64 (.tmp 18) (.tmp 23) x4 r7.1).bind fun x8 =>
(aBin PP .add t_int (.tmp 15) (.const (.int .i64 1)) t7 (.int .i64 1)).bind fun x9 =>
some (.inl ([t0, t1, x8, x9], r7.2))) (
some (.inr (.exit 0, [t6], s)))
noncomputable def loop5s (C : Am.Callee) (L : Loops) (n0 : Nat) : List Value × AS → Option ((List Value × AS) ⊕ (AEx × List Value × AS)) := fun s => loop5 C L n0 (s.1.getD 0 unk) (s.1.getD 1 unk) (s.1.getD 2 unk) (s.1.getD 3 unk) s.2
noncomputable def j2 (C : Am.Callee) (L : Loops) (n0 : Nat) (t6 : Value) (s : AS) : Option (Value × List Blk × Option Nat) :=
fin PP false n0 [t6, .bool true] s
noncomputable def sh (C : Am.Callee) (L : Loops) (n0 : Nat) (t0 t1 : Value) (s : AS) : Option (Value × List Blk × Option Nat) :=
(aLen PP t_L_uint8 t0 s).bind fun x1 =>
(aBin PP .lss t_int (.tmp 9) (.tmp 10) x1 t1).bind fun x2 =>
bcase x2 (
fin PP false n0 [.int .u64 0, .bool false] s) (
((L n0 (loop5s C L n0) ([t0, t1, .int .u64 0, .int .i64 0], s)).bind fun r10 =>
match r10.1 with
| .normal => some (AEx.normal, [(r10.2.1.getD 0 unk)], r10.2.2)
| .exit i => if i = 0 then some (AEx.normal, [(r10.2.1.getD 0 unk)], r10.2.2) else some (AEx.exit i, [(r10.2.1.getD 0 unk)], r10.2.2)
| .ret => some (AEx.ret, [(r10.2.1.getD 0 unk)], r10.2.2)).bind fun r11 =>
match r11.1 with
| .normal => j2 C L n0 ((r11.2.1.getD 0 unk)) r11.2.2
| .exit i => none
| .ret => fin PP false n0 [unk, unk] r11.2.2)
def T : Tab := ⟨fun i => if i = 5 then some [0, 1, 6, 7] else none, fun i => if i = 5 then some [6] else none, false, fun i => if i = 8 then some [6] else none, fun _ => false, false, false, fun _ => false, 80, false⟩
end twainref02_Get
namespace twainref05_Record
noncomputable def loop4 (C : Am.Callee) (L : Loops) (n0 : Nat) (t4 t5 t6 t13 : Value) (s : AS) : Option ((List Value × AS) ⊕ (AEx × List Value × AS)) :=
(aBin PP .lss t_int (.tmp 13) (.const (.int .i64 16)) t13 (.int .i64 16)).bind fun x6 =>
bcase x6 (
(aIndexAddr PP t_L_uint8 t6 t13).bind fun x7 =>
(aLoad false 1 s x7).bind fun x8 =>
(aIndexAddr PP t_api_Sector t5 t13).bind fun x9 =>
(aStore 1 s x9 x8).bind fun s10 =>
(aBin PP .add t_int (.tmp 13) (.const (.int .i64 1)) t13 (.int .i64 1)).bind fun x11 =>
some (.inl ([t4, t5, t6, x11], s10))) (
some (.inr (.exit 0, [t4, t5], s)))
noncomputable def loop4s (C : Am.Callee) (L : Loops) (n0 : Nat) : List Value × AS → Option ((List Value × AS) ⊕ (AEx × List Value × AS)) := fun s => loop4 C L n0 (s.1.getD 0 unk) (s.1.getD 1 unk) (s.1.getD 2 unk) (s.1.getD 3 unk) s.2
noncomputable def j2 (C : Am.Callee) (L : Loops) (n0 : Nat) (t4 t5 : Value) (s : AS) : Option (Value × List Blk × Option Nat) :=
(aLoad true 16 s t5).bind fun x14 =>
(aStore 16 s t4 x14).bind fun s15 =>
((aLoad true 16 s15 t4).bind fun x17 => (some []).bind fun y18 => some (x17 :: y18)).bind fun z16 => fin PP false n0 z16 s15
noncomputable def sh (C : Am.Callee) (L : Loops) (n0 : Nat) (t0 t1 : Value) (s : AS) : Option (Value × List Blk × Option Nat) :=
(aBox t_api_Sector ((zeroP PP t_api_Sector).getD unk) s).bind fun r1 =>
(aBox t_api_Sector ((zeroP PP t_api_Sector).getD unk) r1.2).bind fun r2 =>
(C n_twainref02_Put32 [.slice none 0 0, t0] r2.2.H).bind fun r3 =>
(C n_twainref02_Put64 [r3.1, t1] (AS.mk r3.2.1 (joinEsc r2.2.esc r3.2.2)).H).bind fun r4 =>
(C n_twainref05_Put [r4.1] (AS.mk r4.2.1 (joinEsc (AS.mk r3.2.1 (joinEsc r2.2.esc r3.2.2)).esc r4.2.2)).H).bind fun r5 =>
((L n0 (loop4s C L n0) ([r1.1, r2.1, r5.1, .int .i64 0], AS.mk r5.2.1 (joinEsc (AS.mk r4.2.1 (joinEsc (AS.mk r3.2.1 (joinEsc r2.2.esc r3.2.2)).esc r4.2.2)).esc r5.2.2))).bind fun r12 =>
match r12.1 with
| .normal => some (AEx.normal, [(r12.2.1.getD 0 unk), (r12.2.1.getD 1 unk)], r12.2.2)
| .exit i => if i = 0 then some (AEx.normal, [(r12.2.1.getD 0 unk), (r12.2.1.getD 1 unk)], r12.2.2) else some (AEx.exit i, [(r12.2.1.getD 0 unk), (r12.2.1.getD 1 unk)], r12.2.2)
| .ret => some (AEx.ret, [(r12.2.1.getD 0 unk), (r12.2.1.getD 1 unk)], r12.2.2)).bind fun r13 =>
match r13.1 with
| .normal => j2 C L n0 ((r13.2.1.getD 0 unk)) ((r13.2.1.getD 1 unk)) r13.2.2
| .exit i => none
| .ret => ((aLoad true 16 r13.2.2 ((r13.2.1.getD 0 unk))).bind fun x20 => (some []).bind fun y21 => some (x20 :: y21)).bind fun z19 => fin PP false n0 z19 r13.2.2
def T : Tab := ⟨fun i => if i = 4 then some [4, 5, 6, 13] else none, fun i => if i = 4 then some [4, 5] else none, false, fun i => if i = 8 then some [4, 5] else none, fun _ => false, false, false, fun _ => false, 81, false⟩
end twainref05_Record
namespace slots_ring_good
noncomputable def sh (C : Am.Callee) (L : Loops) (n0 : Nat) (t0 : Value) (s : AS) : Option (Value × List Blk × Option Nat) :=
(aBox t_slots_ring t0 s).bind fun r1 =>
(aFieldAddr PP t_slots_ring r1.1 1).bind fun x2 =>
(aLoad false 1 r1.2 x2).bind fun x3 =>
(aBin PP .geq t_int (.tmp 4) (.const (.int .i64 2)) x3 (.int .i64 2)).bind fun x4 =>
bcase x4 (
(aFieldAddr PP t_slots_ring r1.1 1).bind fun x5 =>
(aLoad false 1 r1.2 x5).bind fun x6 =>
(aBin PP .leq t_int (.tmp 8) (.const (.int .i64 8)) x6 (.int .i64 8)).bind fun x7 =>
bcase x7 (
(aFieldAddr PP t_slots_ring r1.1 0).bind fun x8 =>
(aLoad false 1 r1.2 x8).bind fun x9 =>
(aBin PP .geq t_int (.tmp 13) (.const (.int .i64 0)) x9 (.int .i64 0)).bind fun x10 =>
bcase x10 (
(aFieldAddr PP t_slots_ring r1.1 0).bind fun x11 =>
(aLoad false 1 r1.2 x11).bind fun x12 =>
(aBin PP .leq t_int (.tmp 18) (.const (.int .i64 1024)) x12 (.int .i64 1024)).bind fun x13 =>
fin PP false n0 [x13] r1.2) (
fin PP false n0 [.bool false] r1.2)) (
fin PP false n0 [.bool false] r1.2)) (
fin PP false n0 [.bool false] r1.2)
def T : Tab := ⟨fun i => none, fun i => none, false, fun i => none, fun _ => false, false, false, fun _ => false, 82, false⟩
end slots_ring_good
namespace P_disk_Disk_Read
noncomputable def sh (C : Am.Callee) (L : Loops) (n0 : Nat) (t0 t1 : Value) (s : AS) : Option (Value × List Blk × Option Nat) :=
(aBox t_api_Sector ((zeroP PP t_api_Sector).getD unk) s).bind fun r1 =>
(C n_P_disk_Disk_Made [t0] r1.2.H).bind fun r2 =>
(aUn PP .not r2.1).bind fun x3 =>
bcase x3 (
(aBuild PP t_api_Sector []).bind fun x4 =>
(aStore 16 (AS.mk r2.2.1 (joinEsc r1.2.esc r2.2.2)) r1.1 x4).bind fun s5 =>
((aLoad true 16 s5 r1.1).bind fun x7 => ((some (.int .i64 1)).bind fun x9 => (some []).bind fun y10 => some (x9 :: y10)).bind fun y8 => some (x7 :: y8)).bind fun z6 => fin PP false n0 z6 s5) (
(C n_P_disk_Disk_has [t0, t1] (AS.mk r2.2.1 (joinEsc r1.2.esc r2.2.2)).H).bind fun r11 =>
(aUn PP .not r11.1).bind fun x12 =>
bcase x12 (
(aBuild PP t_api_Sector []).bind fun x13 =>
(aStore 16 (AS.mk r11.2.1 (joinEsc (AS.mk r2.2.1 (joinEsc r1.2.esc r2.2.2)).esc r11.2.2)) r1.1 x13).bind fun s14 =>
((aLoad true 16 s14 r1.1).bind fun x16 => ((some (.int .i64 13)).bind fun x18 => (some []).bind fun y19 => some (x18 :: y19)).bind fun y17 => some (x16 :: y17)).bind fun z15 => fin PP false n0 z15 s14) (
(aNil t0).bind fun x20 =>
(aFieldAddr PP t_disk_Disk x20 3).bind fun x21 =>
(aLoad false 1 (AS.mk r11.2.1 (joinEsc (AS.mk r2.2.1 (joinEsc r1.2.esc r2.2.2)).esc r11.2.2)) x21).bind fun x22 =>
bcase x22 (
(aBuild PP t_api_Sector []).bind fun x23 =>
(aStore 16 (AS.mk r11.2.1 (joinEsc (AS.mk r2.2.1 (joinEsc r1.2.esc r2.2.2)).esc r11.2.2)) r1.1 x23).bind fun s24 =>
((aLoad true 16 s24 r1.1).bind fun x26 => ((some (.int .i64 3)).bind fun x28 => (some []).bind fun y29 => some (x28 :: y29)).bind fun y27 => some (x26 :: y27)).bind fun z25 => fin PP false n0 z25 s24) (
(aNil t0).bind fun x30 =>
(aFieldAddr PP t_disk_Disk x30 1).bind fun x31 =>
(aLoad false 1 (AS.mk r11.2.1 (joinEsc (AS.mk r2.2.1 (joinEsc r1.2.esc r2.2.2)).esc r11.2.2)) x31).bind fun x32 =>
(aLookup PP t_M_int_api_Sector x32 t1 true (AS.mk r11.2.1 (joinEsc (AS.mk r2.2.1 (joinEsc r1.2.esc r2.2.2)).esc r11.2.2))).bind fun x33 =>
(pureRun PP (Instr.extract x33 0)).bind fun x34 =>
(pureRun PP (Instr.extract x33 1)).bind fun x35 =>
(aBox t_api_Sector ((zeroP PP t_api_Sector).getD unk) (AS.mk r11.2.1 (joinEsc (AS.mk r2.2.1 (joinEsc r1.2.esc r2.2.2)).esc r11.2.2))).bind fun r36 =>
(aStore 16 r36.2 r36.1 x34).bind fun s37 =>
bcase x35 (
(aLoad true 16 s37 r36.1).bind fun x38 =>
(aStore 16 s37 r1.1 x38).bind fun s39 =>
((aLoad true 16 s39 r1.1).bind fun x41 => ((some (.int .i64 0)).bind fun x43 => (some []).bind fun y44 => some (x43 :: y44)).bind fun y42 => some (x41 :: y42)).bind fun z40 => fin PP false n0 z40 s39) (
(aNil t0).bind fun x45 =>
(aFieldAddr PP t_disk_Disk x45 0).bind fun x46 =>
(aLoad false 1 s37 x46).bind fun x47 =>
(aIndexAddr PP t_L_api_Sector x47 t1).bind fun x48 =>
(aLoad true 16 s37 x48).bind fun x49 =>
(aStore 16 s37 r1.1 x49).bind fun s50 =>
((aLoad true 16 s50 r1.1).bind fun x52 => ((some (.int .i64 0)).bind fun x54 => (some []).bind fun y55 => some (x54 :: y55)).bind fun y53 => some (x52 :: y53)).bind fun z51 => fin PP false n0 z51 s50))))
def T : Tab := ⟨fun i => none, fun i => none, false, fun i => none, fun _ => false, false, false, fun _ => false, 83, false⟩
end P_disk_Disk_Read
namespace seal_Open
noncomputable def sh (C : Am.Callee) (L : Loops) (n0 : Nat) (t0 : Value) (s : AS) : Option (Value × List Blk × Option Nat) :=
(aBox t_api_Sector t0 s).bind fun r1 =>
(aSlice PP t_api_Sector r1.1 none none none r1.2).bind fun x2 =>
(C n_num_Get32 [x2] r1.2.H).bind fun r3 =>
(pureRun PP (Instr.extract r3.1 0)).bind fun x4 =>
(pureRun PP (Instr.extract r3.1 1)).bind fun x5 =>
(aSlice PP t_api_Sector r1.1 (some (.int .i64 4)) none none (AS.mk r3.2.1 (joinEsc r1.2.esc r3.2.2))).bind fun x6 =>
(C n_num_Get64 [x6] (AS.mk r3.2.1 (joinEsc r1.2.esc r3.2.2)).H).bind fun r7 =>
(pureRun PP (Instr.extract r7.1 0)).bind fun x8 =>
(pureRun PP (Instr.extract r7.1 1)).bind fun x9 =>
(aLoad true 16 (AS.mk r7.2.1 (joinEsc (AS.mk r3.2.1 (joinEsc r1.2.esc r3.2.2)).esc r7.2.2)) r1.1).bind fun x10 =>
(C n_seal_Record [x4, x8] (AS.mk r7.2.1 (joinEsc (AS.mk r3.2.1 (joinEsc r1.2.esc r3.2.2)).esc r7.2.2)).H).bind fun r11 =>
if ((((aLoad true 16 (AS.mk r11.2.1 (joinEsc (AS.mk r7.2.1 (joinEsc (AS.mk r3.2.1 (joinEsc r1.2.esc r3.2.2)).esc r7.2.2)).esc r11.2.2)) r1.1).bind fun x13 =>
some (veq x13 x10)) == some true) && true) = true then
(aBin PP .neq t_api_Sector (.tmp 19) (.tmp 22) x10 r11.1).bind fun x12 =>
bcase x12 (
fin PP false n0 [.int .u32 0, .int .u64 0, .bool false] (AS.mk r11.2.1 (joinEsc (AS.mk r7.2.1 (joinEsc (AS.mk r3.2.1 (joinEsc r1.2.esc r3.2.2)).esc r7.2.2)).esc r11.2.2))) (
fin PP false n0 [x4, x8, .bool true] (AS.mk r11.2.1 (joinEsc (AS.mk r7.2.1 (joinEsc (AS.mk r3.2.1 (joinEsc r1.2.esc r3.2.2)).esc r7.2.2)).esc r11.2.2)))
else none
def T : Tab := ⟨fun i => none, fun i => none, false, fun i => none, fun _ => false, false, false, fun _ => false, 84, false⟩
end seal_Open
namespace slots_ring_place
noncomputable def sh (C : Am.Callee) (L : Loops) (n0 : Nat) (t0 t1 : Value) (s : AS) : Option (Value × List Blk × Option Nat) :=
(aBox t_slots_ring t0 s).bind fun r1 =>
(aFieldAddr PP t_slots_ring r1.1 0).bind fun x2 =>
(aLoad false 1 r1.2 x2).bind fun x3 =>
(aFieldAddr PP t_slots_ring r1.1 1).bind fun x4 =>
(aLoad false 1 r1.2 x4).bind fun x5 =>
(aConv PP t_int t_uint32 x5 r1.2).bind fun r6 =>
(aBin PP .rem t_uint32 (.tmp 7) (.tmp 10) t1 r6.1).bind fun x7 =>
(aConv PP t_uint32 t_int x7 r6.2).bind fun r8 =>
(aBin PP .add t_int (.tmp 6) (.tmp 12) x3 r8.1).bind fun x9 =>
fin PP false n0 [x9] r8.2
def T : Tab := ⟨fun i => none, fun i => none, false, fun i => none, fun _ => false, false, false, fun _ => false, 85, false⟩
end slots_ring_place
namespace twainref05_Put
noncomputable def loop4 (C : Am.Callee) (L : Loops) (n0 : Nat) (t3 t4 t5 : Value) (s : AS) : Option ((List Value × AS) ⊕ (AEx × List Value × AS)) :=
(aBin PP .lss t_int (.tmp 11) (.const (.int .i64 4)) t5 (.int .i64 4)).bind fun x5 =>
bcase x5 (
(aBin PP .rem t_uint32 (.tmp 16) (.const (.int .u32 256)) t4 (.int .u32 256)).bind fun x6 =>
(aConv PP t_uint32 t_uint8 x6 s).bind fun r7 =>
(bsl PP t_L_uint8 1 [0] [r7.1] r7.2).bind fun r8 =>
eBuiltin PP .append #[t_L_uint8, t_L_uint8] [t3, r8.1] r8.2 fun x9 s10 =>
(aBin PP .quo t_uint32 (.tmp 21) (.const (.int .u32 256)) t4 (.int .u32 256)).bind fun x11 =>
(aBin PP .add t_int (.tmp 13) (.const (.int .i64 1)) t5 (.int .i64 1)).bind fun x12 =>
some (.inl ([x9, x11, x12], s10))) (
some (.inr (.exit 0, [t3], s)))
noncomputable def loop4s (C : Am.Callee) (L : Loops) (n0 : Nat) : List Value × AS → Option ((List Value × AS) ⊕ (AEx × List Value × AS)) := fun s => loop4 C L n0 (s.1.getD 0 unk) (s.1.getD 1 unk) (s.1.getD 2 unk) s.2
noncomputable def j2 (C : Am.Callee) (L : Loops) (n0 : Nat) (t3 : Value) (s : AS) : Option (Value × List Blk × Option Nat) :=
fin PP false n0 [t3] s
noncomputable def sh (C : Am.Callee) (L : Loops) (n0 : Nat) (t0 : Value) (s : AS) : Option (Value × List Blk × Option Nat) :=
(bsl PP t_L_uint8 0 [] [] s).bind fun r1 =>
eBuiltin PP .append #[t_L_uint8, t_L_uint8] [r1.1, t0] r1.2 fun x2 s3 =>
(C n_twainref03_Sum [t0] s3.H).bind fun r4 =>
((L n0 (loop4s C L n0) ([x2, r4.1, .int .i64 0], AS.mk r4.2.1 (joinEsc s3.esc r4.2.2))).bind fun r13 =>
match r13.1 with
| .normal => some (AEx.normal, [(r13.2.1.getD 0 unk)], r13.2.2)
| .exit i => if i = 0 then some (AEx.normal, [(r13.2.1.getD 0 unk)], r13.2.2) else some (AEx.exit i, [(r13.2.1.getD 0 unk)], r13.2.2)
| .ret => some (AEx.ret, [(r13.2.1.getD 0 unk)], r13.2.2)).bind fun r14 =>
match r14.1 with
| .normal => j2 C L n0 ((r14.2.1.getD 0 unk)) r14.2.2
| .exit i => none
| .ret => fin PP false n0 [unk] r14.2.2
def T : Tab := ⟨fun i => if i = 4 then some [3, 4, 5] else none, fun i => if i = 4 then some [3] else none, false, fun i => if i = 8 then some [3] else none, fun _ => false, false, false, fun _ => false, 86, false⟩
end twainref05_Put
namespace twainref02_Put64
noncomputable def sh (C : Am.Callee) (L : Loops) (n0 : Nat) (t0 t1 : Value) (s : AS) : Option (Value × List Blk × Option Nat) :=
(C n_twainref02_Put [t0, t1, .int .i64 8] s.H).bind fun r1 =>
fin PP false n0 [r1.1] (AS.mk r1.2.1 (joinEsc s.esc r1.2.2))
def T : Tab := ⟨fun i => none, fun i => none, false, fun i => none, fun _ => false, false, false, fun _ => false, 87, false⟩
end twainref02_Put64
namespace twainref02_Put32
noncomputable def sh (C : Am.Callee) (L : Loops) (n0 : Nat) (t0 t1 : Value) (s : AS) : Option (Value × List Blk × Option Nat) :=
(aConv PP t_uint32 t_uint64 t1 s).bind fun r1 =>
(C n_twainref02_Put [t0, r1.1, .int .i64 4] r1.2.H).bind fun r2 =>
fin PP false n0 [r2.1] (AS.mk r2.2.1 (joinEsc r1.2.esc r2.2.2))
def T : Tab := ⟨fun i => none, fun i => none, false, fun i => none, fun _ => false, false, false, fun _ => false, 88, false⟩
end twainref02_Put32
namespace num_Get32
noncomputable def sh (C : Am.Callee) (L : Loops) (n0 : Nat) (t0 : Value) (s : AS) : Option (Value × List Blk × Option Nat) :=
(C n_num_get_uint32 [t0, .int .i64 4] s.H).bind fun r1 =>
(pureRun PP (Instr.extract r1.1 0)).bind fun x2 =>
(pureRun PP (Instr.extract r1.1 1)).bind fun x3 =>
fin PP false n0 [x2, x3] (AS.mk r1.2.1 (joinEsc s.esc r1.2.2))
def T : Tab := ⟨fun i => none, fun i => none, false, fun i => none, fun _ => false, false, false, fun _ => false, 89, false⟩
end num_Get32
namespace num_Get64
noncomputable def sh (C : Am.Callee) (L : Loops) (n0 : Nat) (t0 : Value) (s : AS) : Option (Value × List Blk × Option Nat) :=
(C n_num_get_uint64 [t0, .int .i64 8] s.H).bind fun r1 =>
(pureRun PP (Instr.extract r1.1 0)).bind fun x2 =>
(pureRun PP (Instr.extract r1.1 1)).bind fun x3 =>
fin PP false n0 [x2, x3] (AS.mk r1.2.1 (joinEsc s.esc r1.2.2))
def T : Tab := ⟨fun i => none, fun i => none, false, fun i => none, fun _ => false, false, false, fun _ => false, 90, false⟩
end num_Get64
namespace seal_Record
noncomputable def sh (C : Am.Callee) (L : Loops) (n0 : Nat) (t0 t1 : Value) (s : AS) : Option (Value × List Blk × Option Nat) :=
(aBox t_api_Sector ((zeroP PP t_api_Sector).getD unk) s).bind fun r1 =>
(aBox t_api_Sector ((zeroP PP t_api_Sector).getD unk) r1.2).bind fun r2 =>
(aSlice PP t_api_Sector r2.1 none none none r2.2).bind fun x3 =>
(C n_num_Put32 [.slice none 0 0, t0] r2.2.H).bind fun r4 =>
if ((((aSlice PP t_api_Sector r2.1 none none none (AS.mk r4.2.1 (joinEsc r2.2.esc r4.2.2))).bind fun x16 =>
some (veq x16 x3)) == some true) && true) = true then
(C n_num_Put64 [r4.1, t1] (AS.mk r4.2.1 (joinEsc r2.2.esc r4.2.2)).H).bind fun r5 =>
if ((((aSlice PP t_api_Sector r2.1 none none none (AS.mk r5.2.1 (joinEsc (AS.mk r4.2.1 (joinEsc r2.2.esc r4.2.2)).esc r5.2.2))).bind fun x15 =>
some (veq x15 x3)) == some true) && true) = true then
(C n_seal_Put [r5.1] (AS.mk r5.2.1 (joinEsc (AS.mk r4.2.1 (joinEsc r2.2.esc r4.2.2)).esc r5.2.2)).H).bind fun r6 =>
if ((((aSlice PP t_api_Sector r2.1 none none none (AS.mk r6.2.1 (joinEsc (AS.mk r5.2.1 (joinEsc (AS.mk r4.2.1 (joinEsc r2.2.esc r4.2.2)).esc r5.2.2)).esc r6.2.2))).bind fun x14 =>
some (veq x14 x3)) == some true) && true) = true then
eBuiltin PP .copy #[t_L_uint8, t_L_uint8] [x3, r6.1] (AS.mk r6.2.1 (joinEsc (AS.mk r5.2.1 (joinEsc (AS.mk r4.2.1 (joinEsc r2.2.esc r4.2.2)).esc r5.2.2)).esc r6.2.2)) fun x7 s8 =>
(aLoad true 16 s8 r2.1).bind fun x9 =>
(aStore 16 s8 r1.1 x9).bind fun s10 =>
((aLoad true 16 s10 r1.1).bind fun x12 => (some []).bind fun y13 => some (x12 :: y13)).bind fun z11 => fin PP false n0 z11 s10
else none
else none
else none
def T : Tab := ⟨fun i => none, fun i => none, false, fun i => none, fun _ => false, false, false, fun _ => false, 91, false⟩
end seal_Record
namespace twainref02_Put
noncomputable def loop3 (C : Am.Callee) (L : Loops) (n0 : Nat) (t0 t1 t2 t7 t8 : Value) (s : AS) : Option ((List Value × AS) ⊕ (AEx × List Value × AS)) :=
(aBin PP .lss t_int (.tmp 13) (.tmp 14) t8 t2).bind fun x4 =>
bcase x4 (
(bsl PP t_L_uint8 1 [0] [.int .u8 0] s).bind fun r5 =>
eBuiltin PP .append #[t_L_uint8, t_L_uint8] [t7, r5.1] r5.2 fun x6 s7 =>
(aBin PP .add t_int (.tmp 16) (.const (.int .i64 1)) t8 (.int .i64 1)).bind fun x8 =>
some (.inl ([t0, t1, t2, x6, x8], s7))) (
some (.inr (.exit 0, [t0, t1, t7], s)))
noncomputable def loop3s (C : Am.Callee) (L : Loops) (n0 : Nat) : List Value × AS → Option ((List Value × AS) ⊕ (AEx × List Value × AS)) := fun s => loop3 C L n0 (s.1.getD 0 unk) (s.1.getD 1 unk) (s.1.getD 2 unk) (s.1.getD 3 unk) (s.1.getD 4 unk) s.2
noncomputable def loop7 (C : Am.Callee) (L : Loops) (n0 : Nat) (t0 t1 t7 t9 : Value) (s : AS) : Option ((List Value × AS) ⊕ (AEx × List Value × AS)) :=
(aLen PP t_L_uint8 t0 s).bind fun x13 =>
(aBin PP .geq t_int (.tmp 24) (.tmp 26) t9 x13).bind fun x14 =>
bcase x14 (
(aBin PP .rem t_uint64 (.tmp 32) (.const (.int .u64 256)) t1 (.int .u64 256)).bind fun x15 =>
(aConv PP t_uint64 t_uint8 x15 s).bind fun r16 =>
(aIndexAddr PP t_L_uint8 t7 t9).bind fun x17 =>
(aStore 1 r16.2 x17 r16.1).bind fun s18 =>
(aBin PP .quo t_uint64 (.tmp 36) (.const (.int .u64 256)) t1 (.int .u64 256)).bind fun x19 =>
(aBin PP .sub t_int (.tmp 28) (.const (.int .i64 1)) t9 (.int .i64 1)).bind fun x20 =>
some (.inl ([t0, x19, t7, x20], s18))) (
some (.inr (.exit 2, [t7], s)))
noncomputable def loop7s (C : Am.Callee) (L : Loops) (n0 : Nat) : List Value × AS → Option ((List Value × AS) ⊕ (AEx × List Value × AS)) := fun s => loop7 C L n0 (s.1.getD 0 unk) (s.1.getD 1 unk) (s.1.getD 2 unk) (s.1.getD 3 unk) s.2
noncomputable def j5 (C : Am.Callee) (L : Loops) (n0 : Nat) (t7 : Value) (s : AS) : Option (Value × List Blk × Option Nat) :=
fin PP false n0 [t7] s
noncomputable def j2 (C : Am.Callee) (L : Loops) (n0 : Nat) (t0 t1 t7 : Value) (s : AS) : Option (Value × List Blk × Option Nat) :=
((aLen PP t_L_uint8 t7 s).bind fun x11 =>
(aBin PP .sub t_int (.tmp 22) (.const (.int .i64 1)) x11 (.int .i64 1)).bind fun x12 =>
(L n0 (loop7s C L n0) ([t0, t1, t7, x12], s)).bind fun r21 =>
match r21.1 with
| .normal => some (AEx.normal, [(r21.2.1.getD 0 unk)], r21.2.2)
| .exit i => if i = 2 then some (AEx.normal, [(r21.2.1.getD 0 unk)], r21.2.2) else some (AEx.exit i, [(r21.2.1.getD 0 unk)], r21.2.2)
| .ret => some (AEx.ret, [(r21.2.1.getD 0 unk)], r21.2.2)).bind fun r22 =>
match r22.1 with
| .normal => j5 C L n0 ((r22.2.1.getD 0 unk)) r22.2.2
| .exit i => none
| .ret => fin PP false n0 [unk] r22.2.2
noncomputable def sh (C : Am.Callee) (L : Loops) (n0 : Nat) (t0 t1 t2 : Value) (s : AS) : Option (Value × List Blk × Option Nat) :=
(bsl PP t_L_uint8 0 [] [] s).bind fun r1 =>
eBuiltin PP .append #[t_L_uint8, t_L_uint8] [r1.1, t0] r1.2 fun x2 s3 =>
((L n0 (loop3s C L n0) ([t0, t1, t2, x2, .int .i64 0], s3)).bind fun r9 =>
match r9.1 with
| .normal => some (AEx.normal, [(r9.2.1.getD 0 unk), (r9.2.1.getD 1 unk), (r9.2.1.getD 2 unk)], r9.2.2)
| .exit i => if i = 0 then some (AEx.normal, [(r9.2.1.getD 0 unk), (r9.2.1.getD 1 unk), (r9.2.1.getD 2 unk)], r9.2.2) else some (AEx.exit i, [(r9.2.1.getD 0 unk), (r9.2.1.getD 1 unk), (r9.2.1.getD 2 unk)], r9.2.2)
| .ret => some (AEx.ret, [(r9.2.1.getD 0 unk), (r9.2.1.getD 1 unk), (r9.2.1.getD 2 unk)], r9.2.2)).bind fun r10 =>
match r10.1 with
| .normal => j2 C L n0 ((r10.2.1.getD 0 unk)) ((r10.2.1.getD 1 unk)) ((r10.2.1.getD 2 unk)) r10.2.2
| .exit i => none
| .ret => fin PP false n0 [unk] r10.2.2
def T : Tab := ⟨fun i => if i = 3 then some [0, 1, 2, 7, 8] else if i = 7 then some [0, 1, 7, 9] else none, fun i => if i = 3 then some [0, 1, 7] else if i = 7 then some [7] else none, false, fun i => if i = 6 then some [0, 1, 7] else if i = 11 then some [7] else none, fun _ => false, false, false, fun _ => false, 92, false⟩
end twainref02_Put
namespace num_get_uint32
noncomputable def loop5 (C : Am.Callee) (L : Loops) (n0 : Nat) (t6 t15 t16 t17 : Value) (s : AS) : Option ((List Value × AS) ⊕ (AEx × List Value × AS)) :=
(aBin PP .lss t_int (.tmp 17) (.tmp 16) t17 t16).bind fun x5 =>
bcase x5 (
(aIndexAddr PP t_L_uint8 t15 t17).bind fun x6 =>
(aLoad false 1 s x6).bind fun x7 =>
(aBin PP .shl t_uint32 (.tmp 21) (.const (.int .u64 8)) t6 (.int .u64 8)).bind fun x8 =>
(aConv PP t_uint8 t_uint32 x7 s).bind fun r9 =>
(aBin PP .or t_uint32 (.tmp 22) (.tmp 24) x8 r9.1).bind fun x10 =>
(aBin PP .add t_int (.tmp 17) (.const (.int .i64 1)) t17 (.int .i64 1)).bind fun x11 =>
some (.inl ([x10, t15, t16, x11], r9.2))) (
some (.inr (.exit 0, [t6], s)))
noncomputable def loop5s (C : Am.Callee) (L : Loops) (n0 : Nat) : List Value × AS → Option ((List Value × AS) ⊕ (AEx × List Value × AS)) := fun s => loop5 C L n0 (s.1.getD 0 unk) (s.1.getD 1 unk) (s.1.getD 2 unk) (s.1.getD 3 unk) s.2
noncomputable def j2 (C : Am.Callee) (L : Loops) (n0 : Nat) (t6 : Value) (s : AS) : Option (Value × List Blk × Option Nat) :=
fin PP false n0 [t6, .bool true] s
noncomputable def sh (C : Am.Callee) (L : Loops) (n0 : Nat) (t0 t1 : Value) (s : AS) : Option (Value × List Blk × Option Nat) :=
(aLen PP t_L_uint8 t0 s).bind fun x1 =>
(aBin PP .lss t_int (.tmp 10) (.tmp 11) x1 t1).bind fun x2 =>
bcase x2 (
fin PP false n0 [.int .u32 0, .bool false] s) (
((aSlice PP t_L_uint8 t0 none (some t1) none s).bind fun x3 =>
(aLen PP t_L_uint8 x3 s).bind fun x4 =>
(L n0 (loop5s C L n0) ([.int .u32 0, x3, x4, .int .i64 0], s)).bind fun r12 =>
match r12.1 with
| .normal => some (AEx.normal, [(r12.2.1.getD 0 unk)], r12.2.2)
| .exit i => if i = 0 then some (AEx.normal, [(r12.2.1.getD 0 unk)], r12.2.2) else some (AEx.exit i, [(r12.2.1.getD 0 unk)], r12.2.2)
| .ret => some (AEx.ret, [(r12.2.1.getD 0 unk)], r12.2.2)).bind fun r13 =>
match r13.1 with
| .normal => j2 C L n0 ((r13.2.1.getD 0 unk)) r13.2.2
| .exit i => none
| .ret => fin PP false n0 [unk, unk] r13.2.2)
def T : Tab := ⟨fun i => if i = 5 then some [6, 15, 16, 17] else none, fun i => if i = 5 then some [6] else none, false, fun i => if i = 9 then some [6] else none, fun _ => false, false, false, fun _ => false, 93, false⟩
end num_get_uint32
namespace num_get_uint64
noncomputable def loop5 (C : Am.Callee) (L : Loops) (n0 : Nat) (t6 t15 t16 t17 : Value) (s : AS) : Option ((List Value × AS) ⊕ (AEx × List Value × AS)) :=
(aBin PP .lss t_int (.tmp 17) (.tmp 16) t17 t16).bind fun x5 =>
bcase x5 (
(aIndexAddr PP t_L_uint8 t15 t17).bind fun x6 =>
(aLoad false 1 s x6).bind fun x7 =>
(aBin PP .shl t_uint64 (.tmp 21) (.const (.int .u64 8)) t6 (.int .u64 8)).bind fun x8 =>
(aConv PP t_uint8 t_uint64 x7 s).bind fun r9 =>
(aBin PP .or t_uint64 (.tmp 22) (.tmp 24) x8 r9.1).bind fun x10 =>
(aBin PP .add t_int (.tmp 17) (.const (.int .i64 1)) t17 (.int .i64 1)).bind fun x11 =>
some (.inl ([x10, t15, t16, x11], r9.2))) (
some (.inr (.exit 0, [t6], s)))
noncomputable def loop5s (C : Am.Callee) (L : Loops) (n0 : Nat) : List Value × AS → Option ((List Value × AS) ⊕ (AEx × List Value × AS)) := fun s => loop5 C L n0 (s.1.getD 0 unk) (s.1.getD 1 unk) (s.1.getD 2 unk) (s.1.getD 3 unk) s.2
noncomputable def j2 (C : Am.Callee) (L : Loops) (n0 : Nat) (t6 : Value) (s : AS) : Option (Value × List Blk × Option Nat) :=
fin PP false n0 [t6, .bool true] s
noncomputable def sh (C : Am.Callee) (L : Loops) (n0 : Nat) (t0 t1 : Value) (s : AS) : Option (Value × List Blk × Option Nat) :=
(aLen PP t_L_uint8 t0 s).bind fun x1 =>
(aBin PP .lss t_int (.tmp 10) (.tmp 11) x1 t1).bind fun x2 =>
bcase x2 (
fin PP false n0 [.int .u64 0, .bool false] s) (
((aSlice PP t_L_uint8 t0 none (some t1) none s).bind fun x3 =>
(aLen PP t_L_uint8 x3 s).bind fun x4 =>
(L n0 (loop5s C L n0) ([.int .u64 0, x3, x4, .int .i64 0], s)).bind fun r12 =>
match r12.1 with
| .normal => some (AEx.normal, [(r12.2.1.getD 0 unk)], r12.2.2)
| .exit i => if i = 0 then some (AEx.normal, [(r12.2.1.getD 0 unk)], r12.2.2) else some (AEx.exit i, [(r12.2.1.getD 0 unk)], r12.2.2)
| .ret => some (AEx.ret, [(r12.2.1.getD 0 unk)], r12.2.2)).bind fun r13 =>
match r13.1 with
| .normal => j2 C L n0 ((r13.2.1.getD 0 unk)) r13.2.2
| .exit i => none
| .ret => fin PP false n0 [unk, unk] r13.2.2)
def T : Tab := ⟨fun i => if i = 5 then some [6, 15, 16, 17] else none, fun i => if i = 5 then some [6] else none, false, fun i => if i = 9 then some [6] else none, fun _ => false, false, false, fun _ => false, 94, false⟩
end num_get_uint64
namespace seal_Put
noncomputable def sh (C : Am.Callee) (L : Loops) (n0 : Nat) (t0 : Value) (s : AS) : Option (Value × List Blk × Option Nat) :=
(C n_seal_sum [t0] s.H).bind fun r1 =>
(aBox t_A4_uint8 ((zeroP PP t_A4_uint8).getD unk) (AS.mk r1.2.1 (joinEsc s.esc r1.2.2))).bind fun r2 =>
(aStore 4 r2.2 r2.1 r1.1).bind fun s3 =>
(aLen PP t_L_uint8 t0 s3).bind fun x4 =>
(aBin PP .add t_int (.tmp 8) (.const (.int .i64 4)) x4 (.int .i64 4)).bind fun x5 =>
(aMakeSlice PP t_L_uint8 x5 x5 s3).bind fun r6 =>
(aSlice PP t_A4_uint8 r2.1 none none none r6.2).bind fun x7 =>
eBuiltin PP .copy #[t_L_uint8, t_L_uint8] [r6.1, t0] r6.2 fun x8 s9 =>
if ((((aSlice PP t_A4_uint8 r2.1 none none none s9).bind fun x13 =>
some (veq x13 x7)) == some true) && true) = true then
(aSlice PP t_L_uint8 r6.1 (some x8) none none s9).bind fun x10 =>
eBuiltin PP .copy #[t_L_uint8, t_L_uint8] [x10, x7] s9 fun x11 s12 =>
fin PP false n0 [r6.1] s12
else none
def T : Tab := ⟨fun i => none, fun i => none, false, fun i => none, fun _ => false, false, false, fun _ => false, 95, false⟩
end seal_Put
namespace num_Put64
noncomputable def sh (C : Am.Callee) (L : Loops) (n0 : Nat) (t0 t1 : Value) (s : AS) : Option (Value × List Blk × Option Nat) :=
(C n_num_put_uint64 [t0, t1, .int .i64 8] s.H).bind fun r1 =>
fin PP false n0 [r1.1] (AS.mk r1.2.1 (joinEsc s.esc r1.2.2))
def T : Tab := ⟨fun i => none, fun i => none, false, fun i => none, fun _ => false, false, false, fun _ => false, 96, false⟩
end num_Put64
namespace num_Put32
noncomputable def sh (C : Am.Callee) (L : Loops) (n0 : Nat) (t0 t1 : Value) (s : AS) : Option (Value × List Blk × Option Nat) :=
(C n_num_put_uint32 [t0, t1, .int .i64 4] s.H).bind fun r1 =>
fin PP false n0 [r1.1] (AS.mk r1.2.1 (joinEsc s.esc r1.2.2))
def T : Tab := ⟨fun i => none, fun i => none, false, fun i => none, fun _ => false, false, false, fun _ => false, 97, false⟩
end num_Put32
namespace seal_sum
noncomputable def sh (C : Am.Callee) (L : Loops) (n0 : Nat) (t0 : Value) (s : AS) : Option (Value × List Blk × Option Nat) :=
(aBox t_A4_uint8 ((zeroP PP t_A4_uint8).getD unk) s).bind fun r1 =>
(aBox t_A4_uint8 ((zeroP PP t_A4_uint8).getD unk) r1.2).bind fun r2 =>
(aSlice PP t_A4_uint8 r2.1 none none none r2.2).bind fun x3 =>
(C n_crc_Sum [t0] r2.2.H).bind fun r4 =>
if ((((aSlice PP t_A4_uint8 r2.1 none none none (AS.mk r4.2.1 (joinEsc r2.2.esc r4.2.2))).bind fun x30 =>
some (veq x30 x3)) == some true) && true) = true then
(C n_num_Put32 [.slice none 0 0, r4.1] (AS.mk r4.2.1 (joinEsc r2.2.esc r4.2.2)).H).bind fun r5 =>
if ((((aSlice PP t_A4_uint8 r2.1 none none none (AS.mk r5.2.1 (joinEsc (AS.mk r4.2.1 (joinEsc r2.2.esc r4.2.2)).esc r5.2.2))).bind fun x29 =>
some (veq x29 x3)) == some true) && true) = true then
eBuiltin PP .copy #[t_L_uint8, t_L_uint8] [x3, r5.1] (AS.mk r5.2.1 (joinEsc (AS.mk r4.2.1 (joinEsc r2.2.esc r4.2.2)).esc r5.2.2)) fun x6 s7 =>
(aIndexAddr PP t_A4_uint8 r2.1 (.int .i64 3)).bind fun x8 =>
(aLoad false 1 s7 x8).bind fun x9 =>
(aIndexAddr PP t_A4_uint8 r2.1 (.int .i64 2)).bind fun x10 =>
(aLoad false 1 s7 x10).bind fun x11 =>
(aIndexAddr PP t_A4_uint8 r2.1 (.int .i64 1)).bind fun x12 =>
(aLoad false 1 s7 x12).bind fun x13 =>
(aIndexAddr PP t_A4_uint8 r2.1 (.int .i64 0)).bind fun x14 =>
(aLoad false 1 s7 x14).bind fun x15 =>
(aIndexAddr PP t_A4_uint8 r2.1 (.int .i64 0)).bind fun x16 =>
(aStore 1 s7 x16 x9).bind fun s17 =>
(aIndexAddr PP t_A4_uint8 r2.1 (.int .i64 1)).bind fun x18 =>
(aStore 1 s17 x18 x11).bind fun s19 =>
(aIndexAddr PP t_A4_uint8 r2.1 (.int .i64 2)).bind fun x20 =>
(aStore 1 s19 x20 x13).bind fun s21 =>
(aIndexAddr PP t_A4_uint8 r2.1 (.int .i64 3)).bind fun x22 =>
(aStore 1 s21 x22 x15).bind fun s23 =>
(aLoad true 4 s23 r2.1).bind fun x24 =>
(aStore 4 s23 r1.1 x24).bind fun s25 =>
((aLoad true 4 s25 r1.1).bind fun x27 => (some []).bind fun y28 => some (x27 :: y28)).bind fun z26 => fin PP false n0 z26 s25
else none
else none
def T : Tab := ⟨fun i => none, fun i => none, false, fun i => none, fun _ => false, false, false, fun _ => false, 98, false⟩
end seal_sum
namespace num_put_uint64
noncomputable def loop3 (C : Am.Callee) (L : Loops) (n0 : Nat) (t0 t1 t7 t8 : Value) (s : AS) : Option ((List Value × AS) ⊕ (AEx × List Value × AS)) :=
(aBin PP .geq t_int (.tmp 13) (.const (.int .i64 0)) t8 (.int .i64 0)).bind fun x3 =>
bcase x3 (
(aConv PP t_uint64 t_uint8 t1 s).bind fun r4 =>
(aIndexAddr PP t_L_uint8 t7 t8).bind fun x5 =>
(aStore 1 r4.2 x5 r4.1).bind fun s6 =>
(aBin PP .shr t_uint64 (.tmp 22) (.const (.int .u64 8)) t1 (.int .u64 8)).bind fun x7 =>
(aBin PP .sub t_int (.tmp 15) (.const (.int .i64 1)) t8 (.int .i64 1)).bind fun x8 =>
some (.inl ([t0, x7, t7, x8], s6))) (
some (.inr (.exit 0, [t0, t7], s)))
noncomputable def loop3s (C : Am.Callee) (L : Loops) (n0 : Nat) : List Value × AS → Option ((List Value × AS) ⊕ (AEx × List Value × AS)) := fun s => loop3 C L n0 (s.1.getD 0 unk) (s.1.getD 1 unk) (s.1.getD 2 unk) (s.1.getD 3 unk) s.2
noncomputable def j2 (C : Am.Callee) (L : Loops) (n0 : Nat) (t0 t7 : Value) (s : AS) : Option (Value × List Blk × Option Nat) :=
(C n_num_join [t0, t7] s.H).bind fun r11 =>
fin PP false n0 [r11.1] (AS.mk r11.2.1 (joinEsc s.esc r11.2.2))
noncomputable def sh (C : Am.Callee) (L : Loops) (n0 : Nat) (t0 t1 t2 : Value) (s : AS) : Option (Value × List Blk × Option Nat) :=
(aMakeSlice PP t_L_uint8 t2 t2 s).bind fun r1 =>
((aBin PP .sub t_int (.tmp 11) (.const (.int .i64 1)) t2 (.int .i64 1)).bind fun x2 =>
(L n0 (loop3s C L n0) ([t0, t1, r1.1, x2], r1.2)).bind fun r9 =>
match r9.1 with
| .normal => some (AEx.normal, [(r9.2.1.getD 0 unk), (r9.2.1.getD 1 unk)], r9.2.2)
| .exit i => if i = 0 then some (AEx.normal, [(r9.2.1.getD 0 unk), (r9.2.1.getD 1 unk)], r9.2.2) else some (AEx.exit i, [(r9.2.1.getD 0 unk), (r9.2.1.getD 1 unk)], r9.2.2)
| .ret => some (AEx.ret, [(r9.2.1.getD 0 unk), (r9.2.1.getD 1 unk)], r9.2.2)).bind fun r10 =>
match r10.1 with
| .normal => j2 C L n0 ((r10.2.1.getD 0 unk)) ((r10.2.1.getD 1 unk)) r10.2.2
| .exit i => none
| .ret => fin PP false n0 [unk] r10.2.2
def T : Tab := ⟨fun i => if i = 3 then some [0, 1, 7, 8] else none, fun i => if i = 3 then some [0, 7] else none, false, fun i => if i = 7 then some [0, 7] else none, fun _ => false, false, false, fun _ => false, 99, false⟩
end num_put_uint64
namespace num_put_uint32
noncomputable def loop3 (C : Am.Callee) (L : Loops) (n0 : Nat) (t0 t1 t7 t8 : Value) (s : AS) : Option ((List Value × AS) ⊕ (AEx × List Value × AS)) :=
(aBin PP .geq t_int (.tmp 13) (.const (.int .i64 0)) t8 (.int .i64 0)).bind fun x3 =>
bcase x3 (
(aConv PP t_uint32 t_uint8 t1 s).bind fun r4 =>
(aIndexAddr PP t_L_uint8 t7 t8).bind fun x5 =>
(aStore 1 r4.2 x5 r4.1).bind fun s6 =>
(aBin PP .shr t_uint32 (.tmp 22) (.const (.int .u64 8)) t1 (.int .u64 8)).bind fun x7 =>
(aBin PP .sub t_int (.tmp 15) (.const (.int .i64 1)) t8 (.int .i64 1)).bind fun x8 =>
some (.inl ([t0, x7, t7, x8], s6))) (
some (.inr (.exit 0, [t0, t7], s)))
noncomputable def loop3s (C : Am.Callee) (L : Loops) (n0 : Nat) : List Value × AS → Option ((List Value × AS) ⊕ (AEx × List Value × AS)) := fun s => loop3 C L n0 (s.1.getD 0 unk) (s.1.getD 1 unk) (s.1.getD 2 unk) (s.1.getD 3 unk) s.2
noncomputable def j2 (C : Am.Callee) (L : Loops) (n0 : Nat) (t0 t7 : Value) (s : AS) : Option (Value × List Blk × Option Nat) :=
(C n_num_join [t0, t7] s.H).bind fun r11 =>
fin PP false n0 [r11.1] (AS.mk r11.2.1 (joinEsc s.esc r11.2.2))
noncomputable def sh (C : Am.Callee) (L : Loops) (n0 : Nat) (t0 t1 t2 : Value) (s : AS) : Option (Value × List Blk × Option Nat) :=
(aMakeSlice PP t_L_uint8 t2 t2 s).bind fun r1 =>
((aBin PP .sub t_int (.tmp 11) (.const (.int .i64 1)) t2 (.int .i64 1)).bind fun x2 =>
(L n0 (loop3s C L n0) ([t0, t1, r1.1, x2], r1.2)).bind fun r9 =>
match r9.1 with
| .normal => some (AEx.normal, [(r9.2.1.getD 0 unk), (r9.2.1.getD 1 unk)], r9.2.2)
| .exit i => if i = 0 then some (AEx.normal, [(r9.2.1.getD 0 unk), (r9.2.1.getD 1 unk)], r9.2.2) else some (AEx.exit i, [(r9.2.1.getD 0 unk), (r9.2.1.getD 1 unk)], r9.2.2)
| .ret => some (AEx.ret, [(r9.2.1.getD 0 unk), (r9.2.1.getD 1 unk)], r9.2.2)).bind fun r10 =>
match r10.1 with
| .normal => j2 C L n0 ((r10.2.1.getD 0 unk)) ((r10.2.1.getD 1 unk)) r10.2.2
| .exit i => none
| .ret => fin PP false n0 [unk] r10.2.2
def T : Tab := ⟨fun i => if i = 3 then some [0, 1, 7, 8] else none, fun i => if i = 3 then some [0, 7] else none, false, fun i => if i = 7 then some [0, 7] else none, fun _ => false, false, false, fun _ => false, 100, false⟩
end num_put_uint32
namespace num_join
noncomputable def sh (C : Am.Callee) (L : Loops) (n0 : Nat) (t0 t1 : Value) (s : AS) : Option (Value × List Blk × Option Nat) :=
(aLen PP t_L_uint8 t0 s).bind fun x1 =>
(aLen PP t_L_uint8 t1 s).bind fun x2 =>
(aBin PP .add t_int (.tmp 7) (.tmp 9) x1 x2).bind fun x3 =>
(aMakeSlice PP t_L_uint8 (.int .i64 0) x3 s).bind fun r4 =>
eBuiltin PP .append #[t_L_uint8, t_L_uint8] [r4.1, t0] r4.2 fun x5 s6 =>
eBuiltin PP .append #[t_L_uint8, t_L_uint8] [x5, t1] s6 fun x7 s8 =>
fin PP false n0 [x7] s8
def T : Tab := ⟨fun i => none, fun i => none, false, fun i => none, fun _ => false, false, false, fun _ => false, 101, false⟩
end num_join
end Go.Proofs.YtadllcgmimbjdaaGreat
