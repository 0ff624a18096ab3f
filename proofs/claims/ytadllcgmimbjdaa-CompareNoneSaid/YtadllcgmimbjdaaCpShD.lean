/- A part of the proof: CpShD. Its conditions: none. -/
import Derived.Test.YtadllcgmimbjdaaAm13c
import Derived.Test.YtadllcgmimbjdaaChecked
set_option linter.all false
set_option linter.unusedVariables false
set_option linter.unusedSimpArgs false
set_option linter.unnecessarySimpa false
namespace Go.Proofs.Ytadllcgmimbjdaa
open Go Go.Am
set_option linter.unusedVariables false
noncomputable abbrev PP : Program := Try.prog
abbrev n_main_main : FuncId := 0
abbrev n_gosem_cut : FuncId := 1
abbrev n_gosem_cut_init : FuncId := 2
abbrev n_twainlaw46_CompareSums : FuncId := 3
abbrev n_twainlaw46_CompareNone : FuncId := 4
abbrev n_twainlaw46_lives : FuncId := 5
abbrev n_disk_New : FuncId := 6
abbrev n_P_disk_Disk_Write : FuncId := 7
abbrev n_P_disk_Disk_Flush : FuncId := 8
abbrev n_compare_Unlike : FuncId := 9
abbrev n_compare_Suspect : FuncId := 10
abbrev n_compare_Sums : FuncId := 11
abbrev n_compare_Explained : FuncId := 12
abbrev n_data_Write : FuncId := 13
abbrev n_P_disk_Disk_Made : FuncId := 14
abbrev n_P_disk_Disk_has : FuncId := 15
abbrev n_P_disk_Disk_spend : FuncId := 16
abbrev n_data_Sectors : FuncId := 17
abbrev n_compare_at : FuncId := 18
abbrev n_bits_With : FuncId := 19
abbrev n_compare_extents : FuncId := 20
abbrev n_compare_sum : FuncId := 21
abbrev n_P_world_World_Net : FuncId := 22
abbrev n_P_world_World_Disk : FuncId := 23
abbrev n_compare_Known : FuncId := 24
abbrev n_data_check : FuncId := 25
abbrev n_data_each : FuncId := 26
abbrev n_P_disk_Disk_Size : FuncId := 27
abbrev n_P_disk_Disk_Durable : FuncId := 28
abbrev n_bits_One : FuncId := 29
abbrev n_span_Whole : FuncId := 30
abbrev n_crc_Sum : FuncId := 31
abbrev n_crc_More : FuncId := 32
abbrev n_P_world_World_is : FuncId := 33
abbrev n_P_world_World_has : FuncId := 34
abbrev n_meta_Mine : FuncId := 35
abbrev n_meta_Look : FuncId := 36
abbrev n_span_Good : FuncId := 37
abbrev n_data_each_1 : FuncId := 38
abbrev n_bits_in : FuncId := 39
abbrev n_crc_Step : FuncId := 40
abbrev n_super_Boot : FuncId := 41
abbrev n_actlog_Get : FuncId := 42
abbrev n_dirty_Get : FuncId := 43
abbrev n_span_Plain : FuncId := 44
abbrev n_span_End : FuncId := 45
abbrev n_crc_half : FuncId := 46
abbrev n_super_Boot_1 : FuncId := 47
abbrev n_slots_Latest : FuncId := 48
abbrev n_actlog_log_of : FuncId := 49
abbrev n_actlog_here : FuncId := 50
abbrev n_dirty_bitmap_mask : FuncId := 51
abbrev n_span_within : FuncId := 52
abbrev n_slots_ring_latest : FuncId := 53
abbrev n_slots_ring_on : FuncId := 54
abbrev n_slots_ring_read : FuncId := 55
abbrev n_slots_ring_good : FuncId := 56
abbrev n_P_disk_Disk_Read : FuncId := 57
abbrev n_seal_Open : FuncId := 58
abbrev n_slots_ring_place : FuncId := 59
abbrev n_num_Get32 : FuncId := 60
abbrev n_num_Get64 : FuncId := 61
abbrev n_seal_Record : FuncId := 62
abbrev n_num_get_uint32 : FuncId := 63
abbrev n_num_get_uint64 : FuncId := 64
abbrev n_seal_Put : FuncId := 65
abbrev n_num_Put64 : FuncId := 66
abbrev n_num_Put32 : FuncId := 67
abbrev n_seal_sum : FuncId := 68
abbrev n_num_put_uint64 : FuncId := 69
abbrev n_num_put_uint32 : FuncId := 70
abbrev n_num_join : FuncId := 71
abbrev n_runtime_boundsError_Error : FuncId := 72
abbrev n_runtime_boundsError_RuntimeError : FuncId := 73
abbrev n_runtime_errorString_Error : FuncId := 74
abbrev n_runtime_errorString_RuntimeError : FuncId := 75
abbrev n_runtime_plainError_Error : FuncId := 76
abbrev n_runtime_plainError_RuntimeError : FuncId := 77
abbrev n_runtime_errorAddressString_Error : FuncId := 78
abbrev n_runtime_errorAddressString_RuntimeError : FuncId := 79
abbrev n_P_runtime_TypeAssertionError_Error : FuncId := 80
abbrev n_P_runtime_TypeAssertionError_RuntimeError : FuncId := 81
abbrev n_P_runtime_PanicNilError_Error : FuncId := 82
abbrev n_P_runtime_PanicNilError_RuntimeError : FuncId := 83
abbrev n_P_internal_abi_Type_Align : FuncId := 84
abbrev n_internal_runtime_maps_unhashableTypeE_d411d0 : FuncId := 85
abbrev n_internal_runtime_maps_unhashableTypeE_88efe4 : FuncId := 86
abbrev n_P_disk_Disk_Broken : FuncId := 87
abbrev n_api_Errno_Error : FuncId := 88
abbrev n_P_node_Node_Stop : FuncId := 89
abbrev n_P_net_Net_Len : FuncId := 90
abbrev n_internal_abi_Kind_String : FuncId := 91
abbrev n_P_inbox_In_Ack : FuncId := 92
abbrev n_P_mirror_Mirror_Forget : FuncId := 93
abbrev n_P_table_Table_Full : FuncId := 94
abbrev n_P_resync_Resync_Left : FuncId := 95
abbrev n_P_outbox_Out_Full : FuncId := 96
abbrev n_P_keep_Keep_Heard : FuncId := 97
abbrev n_P_flight_Flights_Extents : FuncId := 98
abbrev n_P_hot_Set_Load : FuncId := 99
abbrev n_P_later_Queue_Len : FuncId := 100
abbrev n_P_plan_Plan_Left : FuncId := 101
abbrev n_P_plan_Plan_drop : FuncId := 102
abbrev n_P_itree_Tree_Height : FuncId := 103
abbrev n_P_itree_node_mend : FuncId := 104
abbrev t_unit : TypeId := 0
abbrev t_F023062 : TypeId := 1
abbrev t_int64 : TypeId := 2
abbrev t_int : TypeId := 3
abbrev t_bool : TypeId := 4
abbrev t_uint8 : TypeId := 5
abbrev t_abi_BoundsErrorCode : TypeId := 6
abbrev t_S81e5bf : TypeId := 7
abbrev t_runtime_boundsError : TypeId := 8
abbrev t_string : TypeId := 9
abbrev t_runtime_errorString : TypeId := 10
abbrev t_runtime_plainError : TypeId := 11
abbrev t_uintptr : TypeId := 12
abbrev t_S9bc4a9 : TypeId := 13
abbrev t_runtime_errorAddressString : TypeId := 14
abbrev t_P_runtime_TypeAssertionError : TypeId := 15
abbrev t_P_runtime_PanicNilError : TypeId := 16
abbrev t_P_abi_Type : TypeId := 17
abbrev t_S6875f2 : TypeId := 18
abbrev t_maps_unhashableTypeError : TypeId := 19
abbrev t_interface : TypeId := 20
abbrev t_int32 : TypeId := 21
abbrev t_L_twainlaw46_Fill : TypeId := 22
abbrev t_Fa86e39 : TypeId := 23
abbrev t_P_disk_Disk : TypeId := 24
abbrev t_api_Errno : TypeId := 25
abbrev t_P_disk_Disk_api_Errno : TypeId := 26
abbrev t_Ffa18c7 : TypeId := 27
abbrev t_A16_uint8 : TypeId := 28
abbrev t_api_Sector : TypeId := 29
abbrev t_S26b746 : TypeId := 30
abbrev t_twainlaw46_Fill : TypeId := 31
abbrev t_Fe16a4e : TypeId := 32
abbrev t_F3d0fc2 : TypeId := 33
abbrev t_uint64 : TypeId := 34
abbrev t_F58cf1f : TypeId := 35
abbrev t_F5f2897 : TypeId := 36
abbrev t_L_uint32 : TypeId := 37
abbrev t_Fd0e03b : TypeId := 38
abbrev t_F9c9d0b : TypeId := 39
abbrev t_Feaf0aa : TypeId := 40
abbrev t_P_world_World : TypeId := 41
abbrev t_Sd45aba : TypeId := 42
abbrev t_api_Config : TypeId := 43
abbrev t_P_node_Node : TypeId := 44
abbrev t_S9f544f : TypeId := 45
abbrev t_world_side : TypeId := 46
abbrev t_A2_world_side : TypeId := 47
abbrev t_P_net_Net : TypeId := 48
abbrev t_L_world_Event : TypeId := 49
abbrev t_S0a4710 : TypeId := 50
abbrev t_world_World : TypeId := 51
abbrev t_F63b482 : TypeId := 52
abbrev t_S6c464c : TypeId := 53
abbrev t_api_Span : TypeId := 54
abbrev t_L_uint8 : TypeId := 55
abbrev t_L_api_Sector : TypeId := 56
abbrev t_M_int_api_Sector : TypeId := 57
abbrev t_S968285 : TypeId := 58
abbrev t_disk_Disk : TypeId := 59
abbrev t_F403d54 : TypeId := 60
abbrev t_Fde32d4 : TypeId := 61
abbrev t_F257e64 : TypeId := 62
abbrev t_F774292 : TypeId := 63
abbrev t_uint32 : TypeId := 64
abbrev t_Fe08163 : TypeId := 65
abbrev t_Facc849 : TypeId := 66
abbrev t_Fd45046 : TypeId := 67
abbrev t_Fed35bc : TypeId := 68
abbrev t_F30b9f7 : TypeId := 69
abbrev t_iter_Seq2_int_int : TypeId := 70
abbrev t_F86126d : TypeId := 71
abbrev t_F92c41c : TypeId := 72
abbrev t_Fa1e216 : TypeId := 73
abbrev t_F6e3454 : TypeId := 74
abbrev t_F1797d6 : TypeId := 75
abbrev t_F3ee5a2 : TypeId := 76
abbrev t_Fb92bf1 : TypeId := 77
abbrev t_Fab6be2 : TypeId := 78
abbrev t_S0865a2 : TypeId := 79
abbrev t_meta_Meta : TypeId := 80
abbrev t_F3b2c39 : TypeId := 81
abbrev t_F2d9935 : TypeId := 82
abbrev t_F0d5626 : TypeId := 83
abbrev t_F6136f8 : TypeId := 84
abbrev t_F8b6434 : TypeId := 85
abbrev t_F89728b : TypeId := 86
abbrev t_F42507d : TypeId := 87
abbrev t_F3f7f15 : TypeId := 88
abbrev t_uint : TypeId := 89
abbrev t_F23c5bf : TypeId := 90
abbrev t_Fd53837 : TypeId := 91
abbrev t_uint32_uint64 : TypeId := 92
abbrev t_F10e0bd : TypeId := 93
abbrev t_F75df95 : TypeId := 94
abbrev t_Fa2a859 : TypeId := 95
abbrev t_Sc1ba45 : TypeId := 96
abbrev t_actlog_log : TypeId := 97
abbrev t_Fa05e6f : TypeId := 98
abbrev t_Sefa627 : TypeId := 99
abbrev t_dirty_bitmap : TypeId := 100
abbrev t_F706738 : TypeId := 101
abbrev t_A16_uint32 : TypeId := 102
abbrev t_S75fa14 : TypeId := 103
abbrev t_slots_entry : TypeId := 104
abbrev t_Sc1ba45_2 : TypeId := 105
abbrev t_slots_ring : TypeId := 106
abbrev t_Fa6bbeb : TypeId := 107
abbrev t_F9ecc72 : TypeId := 108
abbrev t_Fdb4a94 : TypeId := 109
abbrev t_api_Sector_api_Errno : TypeId := 110
abbrev t_Fb03d5a : TypeId := 111
abbrev t_uint32_uint64_bool : TypeId := 112
abbrev t_F81f65d : TypeId := 113
abbrev t_F6b0bc9 : TypeId := 114
abbrev t_api_Sector_bool : TypeId := 115
abbrev t_uint32_bool : TypeId := 116
abbrev t_F590840 : TypeId := 117
abbrev t_uint64_bool : TypeId := 118
abbrev t_F5c08af : TypeId := 119
abbrev t_Fbf61a3 : TypeId := 120
abbrev t_Fafe9a1 : TypeId := 121
abbrev t_Fd18904 : TypeId := 122
abbrev t_F1aae77 : TypeId := 123
abbrev t_F8790d8 : TypeId := 124
abbrev t_F077268 : TypeId := 125
abbrev t_A4_uint8 : TypeId := 126
abbrev t_Fe09e81 : TypeId := 127
abbrev t_F740fec : TypeId := 128
abbrev t_F92a3bd : TypeId := 129
abbrev t_F0a10e3 : TypeId := 130
abbrev t_F6c6759 : TypeId := 131
abbrev t_S6911b8 : TypeId := 132
abbrev t_runtime_TypeAssertionError : TypeId := 133
abbrev t_A0_P_runtime_PanicNilError : TypeId := 134
abbrev t_S674f3b : TypeId := 135
abbrev t_runtime_PanicNilError : TypeId := 136
abbrev t_abi_TFlag : TypeId := 137
abbrev t_abi_Kind : TypeId := 138
abbrev t_F0a8967 : TypeId := 139
abbrev t_P_uint8 : TypeId := 140
abbrev t_abi_NameOff : TypeId := 141
abbrev t_abi_TypeOff : TypeId := 142
abbrev t_Scd6355 : TypeId := 143
abbrev t_abi_Type : TypeId := 144
abbrev t_P_session_Session : TypeId := 145
abbrev t_S509171 : TypeId := 146
abbrev t_api_Message : TypeId := 147
abbrev t_P_mirror_Mirror : TypeId := 148
abbrev t_P_table_Table : TypeId := 149
abbrev t_P_resync_Resync : TypeId := 150
abbrev t_L_api_Done : TypeId := 151
abbrev t_L_L_uint8 : TypeId := 152
abbrev t_Se763e4 : TypeId := 153
abbrev t_node_run : TypeId := 154
abbrev t_Sf811e2 : TypeId := 155
abbrev t_node_Node : TypeId := 156
abbrev t_F200dff : TypeId := 157
abbrev t_A2_L_L_uint8 : TypeId := 158
abbrev t_Sfbc761 : TypeId := 159
abbrev t_net_Net : TypeId := 160
abbrev t_S21fe5b : TypeId := 161
abbrev t_api_Request : TypeId := 162
abbrev t_S71e5a8 : TypeId := 163
abbrev t_world_Event : TypeId := 164
abbrev t_unsafe_Pointer : TypeId := 165
abbrev t_P_outbox_Out : TypeId := 166
abbrev t_P_inbox_In : TypeId := 167
abbrev t_S786427 : TypeId := 168
abbrev t_session_boxes : TypeId := 169
abbrev t_P_keep_Keep : TypeId := 170
abbrev t_Sfc5b81 : TypeId := 171
abbrev t_session_Session : TypeId := 172
abbrev t_P_flight_Flights : TypeId := 173
abbrev t_S092a38 : TypeId := 174
abbrev t_mirror_fleet : TypeId := 175
abbrev t_P_hot_Set : TypeId := 176
abbrev t_P_later_Queue : TypeId := 177
abbrev t_S590152 : TypeId := 178
abbrev t_mirror_Mirror : TypeId := 179
abbrev t_M_table_key_api_Request : TypeId := 180
abbrev t_Sa8ff58 : TypeId := 181
abbrev t_table_Table : TypeId := 182
abbrev t_P_plan_Plan : TypeId := 183
abbrev t_Scef9f4 : TypeId := 184
abbrev t_resync_Resync : TypeId := 185
abbrev t_S1c0402 : TypeId := 186
abbrev t_api_Done : TypeId := 187
abbrev t_S01ecbc : TypeId := 188
abbrev t_outbox_Out : TypeId := 189
abbrev t_Se89774 : TypeId := 190
abbrev t_inbox_In : TypeId := 191
abbrev t_S4729f8 : TypeId := 192
abbrev t_keep_Keep : TypeId := 193
abbrev t_P_itree_Tree : TypeId := 194
abbrev t_M_flight_key_flight_Write : TypeId := 195
abbrev t_S4e8ea8 : TypeId := 196
abbrev t_flight_Flights : TypeId := 197
abbrev t_Fc5aefb : TypeId := 198
abbrev t_L_int : TypeId := 199
abbrev t_S241e22 : TypeId := 200
abbrev t_hot_Set : TypeId := 201
abbrev t_L_later_Write : TypeId := 202
abbrev t_S82af62 : TypeId := 203
abbrev t_later_Queue : TypeId := 204
abbrev t_S091167 : TypeId := 205
abbrev t_table_key : TypeId := 206
abbrev t_A2_uint64 : TypeId := 207
abbrev t_S6e1fb2 : TypeId := 208
abbrev t_plan_Plan : TypeId := 209
abbrev t_F796ac1 : TypeId := 210
abbrev t_P_itree_node : TypeId := 211
abbrev t_S523343 : TypeId := 212
abbrev t_itree_Tree : TypeId := 213
abbrev t_S091167_2 : TypeId := 214
abbrev t_flight_key : TypeId := 215
abbrev t_Sf37c98 : TypeId := 216
abbrev t_flight_Write : TypeId := 217
abbrev t_Sbf2364 : TypeId := 218
abbrev t_later_Write : TypeId := 219
abbrev t_S09a407 : TypeId := 220
abbrev t_itree_entry : TypeId := 221
abbrev t_A2_P_itree_node : TypeId := 222
abbrev t_Sac96b0 : TypeId := 223
abbrev t_itree_node : TypeId := 224
namespace twainlaw46_CompareSums
noncomputable def j1 (C : Am.Callee) (L : Loops) (n0 : Nat) (t3 t5 t22 t23 t24 : Value) (s : AS) : Option ((List Value × AS) ⊕ (AEx × List Value × AS)) :=
(aBin PP .add t_int (.tmp 24) (.const (.int .i64 1)) t24 (.int .i64 1)).bind fun x29 =>
some (.inl ([t3, t5, t22, t23, x29], s))
noncomputable def loop6 (C : Am.Callee) (L : Loops) (n0 : Nat) (t3 t5 t22 t23 t24 : Value) (s : AS) : Option ((List Value × AS) ⊕ (AEx × List Value × AS)) :=
(aBin PP .lss t_int (.tmp 24) (.tmp 23) t24 t23).bind fun x11 =>
bcase x11 (
((aIndexAddr PP t_L_twainlaw46_Fill t22 t24).bind fun x12 =>
(aLoad true 18 s x12).bind fun x13 =>
(aBox t_twainlaw46_Fill ((zeroP PP t_twainlaw46_Fill).getD unk) s).bind fun r14 =>
(aStore 18 r14.2 r14.1 x13).bind fun s15 =>
(aFieldAddr PP t_twainlaw46_Fill r14.1 0).bind fun x16 =>
(aLoad false 1 s15 x16).bind fun x17 =>
bcase x17 (
(aFieldAddr PP t_twainlaw46_Fill r14.1 1).bind fun x18 =>
(aLoad false 1 s15 x18).bind fun x19 =>
(aFieldAddr PP t_twainlaw46_Fill r14.1 2).bind fun x20 =>
(aLoad true 16 s15 x20).bind fun x21 =>
(C n_P_disk_Disk_Write [t5, x19, x21] s15.H).bind fun r22 =>
some (AEx.normal, [t3, t5, t22, t23, t24], AS.mk r22.2.1 (joinEsc s15.esc r22.2.2))) (
(aFieldAddr PP t_twainlaw46_Fill r14.1 1).bind fun x23 =>
(aLoad false 1 s15 x23).bind fun x24 =>
(aFieldAddr PP t_twainlaw46_Fill r14.1 2).bind fun x25 =>
(aLoad true 16 s15 x25).bind fun x26 =>
(C n_P_disk_Disk_Write [t3, x24, x26] s15.H).bind fun r27 =>
some (AEx.normal, [t3, t5, t22, t23, t24], AS.mk r27.2.1 (joinEsc s15.esc r27.2.2)))).bind fun r28 =>
match r28.1 with
| .normal => j1 C L n0 ((r28.2.1.getD 0 unk)) ((r28.2.1.getD 1 unk)) ((r28.2.1.getD 2 unk)) ((r28.2.1.getD 3 unk)) ((r28.2.1.getD 4 unk)) r28.2.2
| .exit i => some (.inr (.exit i, [(r28.2.1.getD 0 unk), (r28.2.1.getD 1 unk)], r28.2.2))
| .ret => some (.inr (.ret, [(r28.2.1.getD 0 unk), (r28.2.1.getD 1 unk)], r28.2.2))) (
some (.inr (.exit 0, [t3, t5], s)))
noncomputable def loop6s (C : Am.Callee) (L : Loops) (n0 : Nat) : List Value × AS → Option ((List Value × AS) ⊕ (AEx × List Value × AS)) := fun s => loop6 C L n0 (s.1.getD 0 unk) (s.1.getD 1 unk) (s.1.getD 2 unk) (s.1.getD 3 unk) (s.1.getD 4 unk) s.2
noncomputable def j3 (C : Am.Callee) (L : Loops) (n0 : Nat) (t3 t5 : Value) (s : AS) : Option (Value × List Blk × Option Nat) :=
(C n_P_disk_Disk_Flush [t3] s.H).bind fun r32 =>
(C n_P_disk_Disk_Flush [t5] (AS.mk r32.2.1 (joinEsc s.esc r32.2.2)).H).bind fun r33 =>
(C n_compare_Unlike [t3, t5] (AS.mk r33.2.1 (joinEsc (AS.mk r32.2.1 (joinEsc s.esc r32.2.2)).esc r33.2.2)).H).bind fun r34 =>
(C n_compare_Sums [t3] (AS.mk r34.2.1 (joinEsc (AS.mk r33.2.1 (joinEsc (AS.mk r32.2.1 (joinEsc s.esc r32.2.2)).esc r33.2.2)).esc r34.2.2)).H).bind fun r35 =>
(C n_compare_Sums [t5] (AS.mk r35.2.1 (joinEsc (AS.mk r34.2.1 (joinEsc (AS.mk r33.2.1 (joinEsc (AS.mk r32.2.1 (joinEsc s.esc r32.2.2)).esc r33.2.2)).esc r34.2.2)).esc r35.2.2)).H).bind fun r36 =>
(C n_compare_Suspect [r35.1, r36.1] (AS.mk r36.2.1 (joinEsc (AS.mk r35.2.1 (joinEsc (AS.mk r34.2.1 (joinEsc (AS.mk r33.2.1 (joinEsc (AS.mk r32.2.1 (joinEsc s.esc r32.2.2)).esc r33.2.2)).esc r34.2.2)).esc r35.2.2)).esc r36.2.2)).H).bind fun r37 =>
(aBin PP .andNot t_uint64 (.tmp 54) (.tmp 55) r37.1 r34.1).bind fun x38 =>
(aBin PP .eql t_uint64 (.tmp 56) (.const (.int .u64 0)) x38 (.int .u64 0)).bind fun x39 =>
bcase x39 (
(C n_compare_Unlike [t5, t3] (AS.mk r37.2.1 (joinEsc (AS.mk r36.2.1 (joinEsc (AS.mk r35.2.1 (joinEsc (AS.mk r34.2.1 (joinEsc (AS.mk r33.2.1 (joinEsc (AS.mk r32.2.1 (joinEsc s.esc r32.2.2)).esc r33.2.2)).esc r34.2.2)).esc r35.2.2)).esc r36.2.2)).esc r37.2.2)).H).bind fun r40 =>
(aBin PP .eql t_uint64 (.tmp 61) (.tmp 62) r40.1 r34.1).bind fun x41 =>
bcase x41 (
(C n_compare_Unlike [t3, t3] (AS.mk r40.2.1 (joinEsc (AS.mk r37.2.1 (joinEsc (AS.mk r36.2.1 (joinEsc (AS.mk r35.2.1 (joinEsc (AS.mk r34.2.1 (joinEsc (AS.mk r33.2.1 (joinEsc (AS.mk r32.2.1 (joinEsc s.esc r32.2.2)).esc r33.2.2)).esc r34.2.2)).esc r35.2.2)).esc r36.2.2)).esc r37.2.2)).esc r40.2.2)).H).bind fun r42 =>
(aBin PP .eql t_uint64 (.tmp 68) (.const (.int .u64 0)) r42.1 (.int .u64 0)).bind fun x43 =>
bcase x43 (
(C n_twainlaw46_lives [] (AS.mk r42.2.1 (joinEsc (AS.mk r40.2.1 (joinEsc (AS.mk r37.2.1 (joinEsc (AS.mk r36.2.1 (joinEsc (AS.mk r35.2.1 (joinEsc (AS.mk r34.2.1 (joinEsc (AS.mk r33.2.1 (joinEsc (AS.mk r32.2.1 (joinEsc s.esc r32.2.2)).esc r33.2.2)).esc r34.2.2)).esc r35.2.2)).esc r36.2.2)).esc r37.2.2)).esc r40.2.2)).esc r42.2.2)).H).bind fun r44 =>
fin PP false n0 [r44.1] (AS.mk r44.2.1 (joinEsc (AS.mk r42.2.1 (joinEsc (AS.mk r40.2.1 (joinEsc (AS.mk r37.2.1 (joinEsc (AS.mk r36.2.1 (joinEsc (AS.mk r35.2.1 (joinEsc (AS.mk r34.2.1 (joinEsc (AS.mk r33.2.1 (joinEsc (AS.mk r32.2.1 (joinEsc s.esc r32.2.2)).esc r33.2.2)).esc r34.2.2)).esc r35.2.2)).esc r36.2.2)).esc r37.2.2)).esc r40.2.2)).esc r42.2.2)).esc r44.2.2))) (
fin PP false n0 [.bool false] (AS.mk r42.2.1 (joinEsc (AS.mk r40.2.1 (joinEsc (AS.mk r37.2.1 (joinEsc (AS.mk r36.2.1 (joinEsc (AS.mk r35.2.1 (joinEsc (AS.mk r34.2.1 (joinEsc (AS.mk r33.2.1 (joinEsc (AS.mk r32.2.1 (joinEsc s.esc r32.2.2)).esc r33.2.2)).esc r34.2.2)).esc r35.2.2)).esc r36.2.2)).esc r37.2.2)).esc r40.2.2)).esc r42.2.2)))) (
fin PP false n0 [.bool false] (AS.mk r40.2.1 (joinEsc (AS.mk r37.2.1 (joinEsc (AS.mk r36.2.1 (joinEsc (AS.mk r35.2.1 (joinEsc (AS.mk r34.2.1 (joinEsc (AS.mk r33.2.1 (joinEsc (AS.mk r32.2.1 (joinEsc s.esc r32.2.2)).esc r33.2.2)).esc r34.2.2)).esc r35.2.2)).esc r36.2.2)).esc r37.2.2)).esc r40.2.2)))) (
fin PP false n0 [.bool false] (AS.mk r37.2.1 (joinEsc (AS.mk r36.2.1 (joinEsc (AS.mk r35.2.1 (joinEsc (AS.mk r34.2.1 (joinEsc (AS.mk r33.2.1 (joinEsc (AS.mk r32.2.1 (joinEsc s.esc r32.2.2)).esc r33.2.2)).esc r34.2.2)).esc r35.2.2)).esc r36.2.2)).esc r37.2.2)))
noncomputable def sh (C : Am.Callee) (L : Loops) (n0 : Nat) (t0 : Value) (s : AS) : Option (Value × List Blk × Option Nat) :=
(aLen PP t_L_twainlaw46_Fill t0 s).bind fun x1 =>
(aBin PP .gtr t_int (.tmp 11) (.const (.int .i64 60)) x1 (.int .i64 60)).bind fun x2 =>
bcase x2 (
(C n_twainlaw46_lives [] s.H).bind fun r3 =>
fin PP false n0 [r3.1] (AS.mk r3.2.1 (joinEsc s.esc r3.2.2))) (
(C n_disk_New [.int .i64 40] s.H).bind fun r4 =>
(pureRun PP (Instr.extract r4.1 0)).bind fun x5 =>
(pureRun PP (Instr.extract r4.1 1)).bind fun x6 =>
(C n_disk_New [.int .i64 40] (AS.mk r4.2.1 (joinEsc s.esc r4.2.2)).H).bind fun r7 =>
(pureRun PP (Instr.extract r7.1 0)).bind fun x8 =>
(pureRun PP (Instr.extract r7.1 1)).bind fun x9 =>
((aLen PP t_L_twainlaw46_Fill t0 (AS.mk r7.2.1 (joinEsc (AS.mk r4.2.1 (joinEsc s.esc r4.2.2)).esc r7.2.2))).bind fun x10 =>
(L n0 (loop6s C L n0) ([x5, x8, t0, x10, .int .i64 0], AS.mk r7.2.1 (joinEsc (AS.mk r4.2.1 (joinEsc s.esc r4.2.2)).esc r7.2.2))).bind fun r30 =>
match r30.1 with
| .normal => some (AEx.normal, [(r30.2.1.getD 0 unk), (r30.2.1.getD 1 unk)], r30.2.2)
| .exit i => if i = 0 then some (AEx.normal, [(r30.2.1.getD 0 unk), (r30.2.1.getD 1 unk)], r30.2.2) else some (AEx.exit i, [(r30.2.1.getD 0 unk), (r30.2.1.getD 1 unk)], r30.2.2)
| .ret => some (AEx.ret, [(r30.2.1.getD 0 unk), (r30.2.1.getD 1 unk)], r30.2.2)).bind fun r31 =>
match r31.1 with
| .normal => j3 C L n0 ((r31.2.1.getD 0 unk)) ((r31.2.1.getD 1 unk)) r31.2.2
| .exit i => none
| .ret => fin PP false n0 [unk] r31.2.2)
def T : Tab := ⟨fun i => if i = 6 then some [3, 5, 22, 23, 24] else none, fun i => if i = 6 then some [3, 5] else none, false, fun i => if i = 11 then some [3, 5, 22, 23, 24] else if i = 12 then some [3, 5] else none, fun _ => false, false, false, fun _ => false, 3, false⟩
end twainlaw46_CompareSums
namespace twainlaw46_CompareNone
noncomputable def loop5 (C : Am.Callee) (L : Loops) (n0 : Nat) (t3 t15 t16 t17 : Value) (s : AS) : Option ((List Value × AS) ⊕ (AEx × List Value × AS)) :=
(aBin PP .lss t_int (.tmp 17) (.tmp 16) t17 t16).bind fun x8 =>
bcase x8 (
(aIndexAddr PP t_L_twainlaw46_Fill t15 t17).bind fun x9 =>
(aLoad true 18 s x9).bind fun x10 =>
(aBox t_twainlaw46_Fill ((zeroP PP t_twainlaw46_Fill).getD unk) s).bind fun r11 =>
(aStore 18 r11.2 r11.1 x10).bind fun s12 =>
(aFieldAddr PP t_twainlaw46_Fill r11.1 1).bind fun x13 =>
(aLoad false 1 s12 x13).bind fun x14 =>
(aFieldAddr PP t_twainlaw46_Fill r11.1 2).bind fun x15 =>
(aLoad true 16 s12 x15).bind fun x16 =>
(C n_P_disk_Disk_Write [t3, x14, x16] s12.H).bind fun r17 =>
(aBin PP .add t_int (.tmp 17) (.const (.int .i64 1)) t17 (.int .i64 1)).bind fun x18 =>
some (.inl ([t3, t15, t16, x18], AS.mk r17.2.1 (joinEsc s12.esc r17.2.2)))) (
some (.inr (.exit 0, [t3], s)))
noncomputable def loop5s (C : Am.Callee) (L : Loops) (n0 : Nat) : List Value × AS → Option ((List Value × AS) ⊕ (AEx × List Value × AS)) := fun s => loop5 C L n0 (s.1.getD 0 unk) (s.1.getD 1 unk) (s.1.getD 2 unk) (s.1.getD 3 unk) s.2
noncomputable def j2 (C : Am.Callee) (L : Loops) (n0 : Nat) (t3 : Value) (s : AS) : Option (Value × List Blk × Option Nat) :=
(C n_P_disk_Disk_Flush [t3] s.H).bind fun r21 =>
(C n_compare_Explained [.pointer none] (AS.mk r21.2.1 (joinEsc s.esc r21.2.2)).H).bind fun r22 =>
(aUn PP .not r22.1).bind fun x23 =>
bcase x23 (
(aBuild PP t_world_World []).bind fun x24 =>
(aBox t_world_World x24 (AS.mk r22.2.1 (joinEsc (AS.mk r21.2.1 (joinEsc s.esc r21.2.2)).esc r22.2.2))).bind fun r25 =>
(C n_compare_Explained [r25.1] r25.2.H).bind fun r26 =>
(aUn PP .not r26.1).bind fun x27 =>
bcase x27 (
(C n_compare_Unlike [.pointer none, t3] (AS.mk r26.2.1 (joinEsc r25.2.esc r26.2.2)).H).bind fun r28 =>
(aBin PP .eql t_uint64 (.tmp 40) (.const (.int .u64 0)) r28.1 (.int .u64 0)).bind fun x29 =>
bcase x29 (
(C n_compare_Unlike [t3, .pointer none] (AS.mk r28.2.1 (joinEsc (AS.mk r26.2.1 (joinEsc r25.2.esc r26.2.2)).esc r28.2.2)).H).bind fun r30 =>
(aBin PP .eql t_uint64 (.tmp 45) (.const (.int .u64 0)) r30.1 (.int .u64 0)).bind fun x31 =>
bcase x31 (
(C n_compare_Sums [.pointer none] (AS.mk r30.2.1 (joinEsc (AS.mk r28.2.1 (joinEsc (AS.mk r26.2.1 (joinEsc r25.2.esc r26.2.2)).esc r28.2.2)).esc r30.2.2)).H).bind fun r32 =>
(aLen PP t_L_uint32 r32.1 (AS.mk r32.2.1 (joinEsc (AS.mk r30.2.1 (joinEsc (AS.mk r28.2.1 (joinEsc (AS.mk r26.2.1 (joinEsc r25.2.esc r26.2.2)).esc r28.2.2)).esc r30.2.2)).esc r32.2.2))).bind fun x33 =>
(aBin PP .eql t_int (.tmp 50) (.const (.int .i64 0)) x33 (.int .i64 0)).bind fun x34 =>
bcase x34 (
(C n_twainlaw46_lives [] (AS.mk r32.2.1 (joinEsc (AS.mk r30.2.1 (joinEsc (AS.mk r28.2.1 (joinEsc (AS.mk r26.2.1 (joinEsc r25.2.esc r26.2.2)).esc r28.2.2)).esc r30.2.2)).esc r32.2.2)).H).bind fun r35 =>
fin PP false n0 [r35.1] (AS.mk r35.2.1 (joinEsc (AS.mk r32.2.1 (joinEsc (AS.mk r30.2.1 (joinEsc (AS.mk r28.2.1 (joinEsc (AS.mk r26.2.1 (joinEsc r25.2.esc r26.2.2)).esc r28.2.2)).esc r30.2.2)).esc r32.2.2)).esc r35.2.2))) (
fin PP false n0 [.bool false] (AS.mk r32.2.1 (joinEsc (AS.mk r30.2.1 (joinEsc (AS.mk r28.2.1 (joinEsc (AS.mk r26.2.1 (joinEsc r25.2.esc r26.2.2)).esc r28.2.2)).esc r30.2.2)).esc r32.2.2)))) (
fin PP false n0 [.bool false] (AS.mk r30.2.1 (joinEsc (AS.mk r28.2.1 (joinEsc (AS.mk r26.2.1 (joinEsc r25.2.esc r26.2.2)).esc r28.2.2)).esc r30.2.2)))) (
fin PP false n0 [.bool false] (AS.mk r28.2.1 (joinEsc (AS.mk r26.2.1 (joinEsc r25.2.esc r26.2.2)).esc r28.2.2)))) (
fin PP false n0 [.bool false] (AS.mk r26.2.1 (joinEsc r25.2.esc r26.2.2)))) (
fin PP false n0 [.bool false] (AS.mk r22.2.1 (joinEsc (AS.mk r21.2.1 (joinEsc s.esc r21.2.2)).esc r22.2.2)))
noncomputable def sh (C : Am.Callee) (L : Loops) (n0 : Nat) (t0 : Value) (s : AS) : Option (Value × List Blk × Option Nat) :=
(aLen PP t_L_twainlaw46_Fill t0 s).bind fun x1 =>
(aBin PP .gtr t_int (.tmp 8) (.const (.int .i64 60)) x1 (.int .i64 60)).bind fun x2 =>
bcase x2 (
(C n_twainlaw46_lives [] s.H).bind fun r3 =>
fin PP false n0 [r3.1] (AS.mk r3.2.1 (joinEsc s.esc r3.2.2))) (
(C n_disk_New [.int .i64 40] s.H).bind fun r4 =>
(pureRun PP (Instr.extract r4.1 0)).bind fun x5 =>
(pureRun PP (Instr.extract r4.1 1)).bind fun x6 =>
((aLen PP t_L_twainlaw46_Fill t0 (AS.mk r4.2.1 (joinEsc s.esc r4.2.2))).bind fun x7 =>
(L n0 (loop5s C L n0) ([x5, t0, x7, .int .i64 0], AS.mk r4.2.1 (joinEsc s.esc r4.2.2))).bind fun r19 =>
match r19.1 with
| .normal => some (AEx.normal, [(r19.2.1.getD 0 unk)], r19.2.2)
| .exit i => if i = 0 then some (AEx.normal, [(r19.2.1.getD 0 unk)], r19.2.2) else some (AEx.exit i, [(r19.2.1.getD 0 unk)], r19.2.2)
| .ret => some (AEx.ret, [(r19.2.1.getD 0 unk)], r19.2.2)).bind fun r20 =>
match r20.1 with
| .normal => j2 C L n0 ((r20.2.1.getD 0 unk)) r20.2.2
| .exit i => none
| .ret => fin PP false n0 [unk] r20.2.2)
def T : Tab := ⟨fun i => if i = 5 then some [3, 15, 16, 17] else none, fun i => if i = 5 then some [3] else none, false, fun i => if i = 9 then some [3] else none, fun _ => false, false, false, fun _ => false, 4, false⟩
end twainlaw46_CompareNone
namespace twainlaw46_lives
noncomputable def sh (C : Am.Callee) (L : Loops) (n0 : Nat) (s : AS) : Option (Value × List Blk × Option Nat) :=
(C n_disk_New [.int .i64 16] s.H).bind fun r1 =>
(pureRun PP (Instr.extract r1.1 0)).bind fun x2 =>
(pureRun PP (Instr.extract r1.1 1)).bind fun x3 =>
(C n_disk_New [.int .i64 16] (AS.mk r1.2.1 (joinEsc s.esc r1.2.2)).H).bind fun r4 =>
(pureRun PP (Instr.extract r4.1 0)).bind fun x5 =>
(pureRun PP (Instr.extract r4.1 1)).bind fun x6 =>
(aBuild PP t_api_Span [(0, .int .i64 4), (1, .int .i64 1)]).bind fun x7 =>
(bsl PP t_L_uint8 16 [0, 1, 2, 3, 4, 5, 6, 7, 8, 9, 10, 11, 12, 13, 14, 15] [.int .u8 115, .int .u8 105, .int .u8 120, .int .u8 116, .int .u8 101, .int .u8 101, .int .u8 110, .int .u8 32, .int .u8 98, .int .u8 121, .int .u8 116, .int .u8 101, .int .u8 115, .int .u8 46, .int .u8 46, .int .u8 32] (AS.mk r4.2.1 (joinEsc (AS.mk r1.2.1 (joinEsc s.esc r1.2.2)).esc r4.2.2))).bind fun r8 =>
(aConv PP t_L_uint8 t_L_uint8 r8.1 r8.2).bind fun r9 =>
(C n_data_Write [x2, x7, r9.1] r9.2.H).bind fun r10 =>
(C n_P_disk_Disk_Flush [x2] (AS.mk r10.2.1 (joinEsc r9.2.esc r10.2.2)).H).bind fun r11 =>
(aBin PP .eql t_api_Errno (.tmp 22) (.const (.int .i64 0)) r10.1 (.int .i64 0)).bind fun x12 =>
bcase x12 (
(aBin PP .eql t_api_Errno (.tmp 25) (.const (.int .i64 0)) r11.1 (.int .i64 0)).bind fun x13 =>
bcase x13 (
(C n_compare_Unlike [x2, x5] (AS.mk r11.2.1 (joinEsc (AS.mk r10.2.1 (joinEsc r9.2.esc r10.2.2)).esc r11.2.2)).H).bind fun r14 =>
(aBin PP .eql t_uint64 (.tmp 31) (.const (.int .u64 2)) r14.1 (.int .u64 2)).bind fun x15 =>
bcase x15 (
(C n_compare_Sums [x2] (AS.mk r14.2.1 (joinEsc (AS.mk r11.2.1 (joinEsc (AS.mk r10.2.1 (joinEsc r9.2.esc r10.2.2)).esc r11.2.2)).esc r14.2.2)).H).bind fun r16 =>
(aLen PP t_L_uint32 r16.1 (AS.mk r16.2.1 (joinEsc (AS.mk r14.2.1 (joinEsc (AS.mk r11.2.1 (joinEsc (AS.mk r10.2.1 (joinEsc r9.2.esc r10.2.2)).esc r11.2.2)).esc r14.2.2)).esc r16.2.2))).bind fun x17 =>
(aBin PP .eql t_int (.tmp 37) (.const (.int .i64 2)) x17 (.int .i64 2)).bind fun x18 =>
bcase x18 (
(C n_compare_Sums [x2] (AS.mk r16.2.1 (joinEsc (AS.mk r14.2.1 (joinEsc (AS.mk r11.2.1 (joinEsc (AS.mk r10.2.1 (joinEsc r9.2.esc r10.2.2)).esc r11.2.2)).esc r14.2.2)).esc r16.2.2)).H).bind fun r19 =>
(C n_compare_Sums [x5] (AS.mk r19.2.1 (joinEsc (AS.mk r16.2.1 (joinEsc (AS.mk r14.2.1 (joinEsc (AS.mk r11.2.1 (joinEsc (AS.mk r10.2.1 (joinEsc r9.2.esc r10.2.2)).esc r11.2.2)).esc r14.2.2)).esc r16.2.2)).esc r19.2.2)).H).bind fun r20 =>
(C n_compare_Suspect [r19.1, r20.1] (AS.mk r20.2.1 (joinEsc (AS.mk r19.2.1 (joinEsc (AS.mk r16.2.1 (joinEsc (AS.mk r14.2.1 (joinEsc (AS.mk r11.2.1 (joinEsc (AS.mk r10.2.1 (joinEsc r9.2.esc r10.2.2)).esc r11.2.2)).esc r14.2.2)).esc r16.2.2)).esc r19.2.2)).esc r20.2.2)).H).bind fun r21 =>
(aBin PP .eql t_uint64 (.tmp 45) (.const (.int .u64 2)) r21.1 (.int .u64 2)).bind fun x22 =>
fin PP false n0 [x22] (AS.mk r21.2.1 (joinEsc (AS.mk r20.2.1 (joinEsc (AS.mk r19.2.1 (joinEsc (AS.mk r16.2.1 (joinEsc (AS.mk r14.2.1 (joinEsc (AS.mk r11.2.1 (joinEsc (AS.mk r10.2.1 (joinEsc r9.2.esc r10.2.2)).esc r11.2.2)).esc r14.2.2)).esc r16.2.2)).esc r19.2.2)).esc r20.2.2)).esc r21.2.2))) (
fin PP false n0 [.bool false] (AS.mk r16.2.1 (joinEsc (AS.mk r14.2.1 (joinEsc (AS.mk r11.2.1 (joinEsc (AS.mk r10.2.1 (joinEsc r9.2.esc r10.2.2)).esc r11.2.2)).esc r14.2.2)).esc r16.2.2)))) (
fin PP false n0 [.bool false] (AS.mk r14.2.1 (joinEsc (AS.mk r11.2.1 (joinEsc (AS.mk r10.2.1 (joinEsc r9.2.esc r10.2.2)).esc r11.2.2)).esc r14.2.2)))) (
fin PP false n0 [.bool false] (AS.mk r11.2.1 (joinEsc (AS.mk r10.2.1 (joinEsc r9.2.esc r10.2.2)).esc r11.2.2)))) (
fin PP false n0 [.bool false] (AS.mk r11.2.1 (joinEsc (AS.mk r10.2.1 (joinEsc r9.2.esc r10.2.2)).esc r11.2.2)))
def T : Tab := ⟨fun i => none, fun i => none, false, fun i => none, fun _ => false, true, false, fun _ => false, 5, false⟩
end twainlaw46_lives
namespace disk_New
noncomputable def j0 (C : Am.Callee) (L : Loops) (n0 : Nat) (t0 t9 : Value) (s : AS) : Option (AEx × List Value × AS) :=
bcase t9 (
some (AEx.ret, [t0, .pointer none, .int .i64 2], s)) (
some (AEx.normal, [t0, unk, unk], s))
noncomputable def j1 (C : Am.Callee) (L : Loops) (n0 : Nat) (t0 : Value) (s : AS) : Option (Value × List Blk × Option Nat) :=
(aMakeSlice PP t_L_api_Sector t0 t0 s).bind fun r5 =>
(aBuild PP t_disk_Disk [(0, r5.1), (1, .map (some r5.2.H.length)), (2, .int .i64 (-1))]).bind fun x6 =>
(aBox t_disk_Disk x6 (newBlk r5.2 (.map [] 0))).bind fun r7 =>
fin PP false n0 [r7.1, .int .i64 0] r7.2
noncomputable def sh (C : Am.Callee) (L : Loops) (n0 : Nat) (t0 : Value) (s : AS) : Option (Value × List Blk × Option Nat) :=
(((aBin PP .lss t_int (.tmp 4) (.const (.int .i64 1)) t0 (.int .i64 1)).bind fun x1 =>
bcase x1 (
some (AEx.normal, [t0, .bool true], s)) (
(aBin PP .gtr t_int (.tmp 7) (.const (.int .i64 1024)) t0 (.int .i64 1024)).bind fun x2 =>
some (AEx.normal, [t0, x2], s))).bind fun r3 =>
match r3.1 with
| .normal => j0 C L n0 ((r3.2.1.getD 0 unk)) ((r3.2.1.getD 1 unk)) r3.2.2
| .exit i => some (AEx.exit i, [(r3.2.1.getD 0 unk), unk, unk], r3.2.2)
| .ret => some (AEx.ret, [(r3.2.1.getD 0 unk), unk, unk], r3.2.2)).bind fun r4 =>
match r4.1 with
| .normal => j1 C L n0 ((r4.2.1.getD 0 unk)) r4.2.2
| .exit i => none
| .ret => fin PP false n0 [(r4.2.1.getD 1 unk), (r4.2.1.getD 2 unk)] r4.2.2
def T : Tab := ⟨fun i => none, fun i => none, false, fun i => if i = 2 then some [0, 9] else if i = 3 then some [0, 2, 3] else none, fun _ => false, false, false, fun _ => false, 6, false⟩
end disk_New
namespace P_disk_Disk_Write
noncomputable def sh (C : Am.Callee) (L : Loops) (n0 : Nat) (t0 t1 t2 : Value) (s : AS) : Option (Value × List Blk × Option Nat) :=
(aBox t_api_Sector t2 s).bind fun r1 =>
(C n_P_disk_Disk_Made [t0] r1.2.H).bind fun r2 =>
(aUn PP .not r2.1).bind fun x3 =>
bcase x3 (
fin PP false n0 [.int .i64 1] (AS.mk r2.2.1 (joinEsc r1.2.esc r2.2.2))) (
(C n_P_disk_Disk_has [t0, t1] (AS.mk r2.2.1 (joinEsc r1.2.esc r2.2.2)).H).bind fun r4 =>
(aUn PP .not r4.1).bind fun x5 =>
bcase x5 (
fin PP false n0 [.int .i64 13] (AS.mk r4.2.1 (joinEsc (AS.mk r2.2.1 (joinEsc r1.2.esc r2.2.2)).esc r4.2.2))) (
(C n_P_disk_Disk_spend [t0] (AS.mk r4.2.1 (joinEsc (AS.mk r2.2.1 (joinEsc r1.2.esc r2.2.2)).esc r4.2.2)).H).bind fun r6 =>
(aBin PP .neq t_api_Errno (.tmp 19) (.const (.int .i64 0)) r6.1 (.int .i64 0)).bind fun x7 =>
bcase x7 (
fin PP false n0 [r6.1] (AS.mk r6.2.1 (joinEsc (AS.mk r4.2.1 (joinEsc (AS.mk r2.2.1 (joinEsc r1.2.esc r2.2.2)).esc r4.2.2)).esc r6.2.2))) (
(aNil t0).bind fun x8 =>
(aFieldAddr PP t_disk_Disk x8 1).bind fun x9 =>
(aLoad false 1 (AS.mk r6.2.1 (joinEsc (AS.mk r4.2.1 (joinEsc (AS.mk r2.2.1 (joinEsc r1.2.esc r2.2.2)).esc r4.2.2)).esc r6.2.2)) x9).bind fun x10 =>
(aLoad true 16 (AS.mk r6.2.1 (joinEsc (AS.mk r4.2.1 (joinEsc (AS.mk r2.2.1 (joinEsc r1.2.esc r2.2.2)).esc r4.2.2)).esc r6.2.2)) r1.1).bind fun x11 =>
(aMapUpdate PP t_M_int_api_Sector x10 t1 x11 (AS.mk r6.2.1 (joinEsc (AS.mk r4.2.1 (joinEsc (AS.mk r2.2.1 (joinEsc r1.2.esc r2.2.2)).esc r4.2.2)).esc r6.2.2))).bind fun s12 =>
fin PP false n0 [.int .i64 0] s12)))
def T : Tab := ⟨fun i => none, fun i => none, false, fun i => none, fun _ => false, false, false, fun _ => false, 7, false⟩
end P_disk_Disk_Write
namespace P_disk_Disk_Flush
noncomputable def loop7 (C : Am.Callee) (L : Loops) (n0 : Nat) {R : Type} (k' : (List Value × AS) ⊕ (AEx × List Value × AS) → Option R) (t0 t18 : Value) (s : AS) : Option R :=
(aNext t18 s).bind fun q9 => L.all q9.1 fun i10 =>
(pureRun PP (Instr.extract ((q9.2 i10).1) 0)).bind fun x11 =>
bcase x11 (
(aEntry t18 ((q9.2 i10).2)).bind fun x12 =>
(pureRun PP (Instr.extract x12 0)).bind fun x13 =>
(pureRun PP (Instr.extract x12 1)).bind fun x14 =>
(aBox t_api_Sector ((zeroP PP t_api_Sector).getD unk) ((q9.2 i10).2)).bind fun r15 =>
(aStore 16 r15.2 r15.1 x14).bind fun s16 =>
(aNil t0).bind fun x17 =>
(aFieldAddr PP t_disk_Disk x17 0).bind fun x18 =>
(aLoad false 1 s16 x18).bind fun x19 =>
(aLoad true 16 s16 r15.1).bind fun x20 =>
(aIndexAddr PP t_L_api_Sector x19 x13).bind fun x21 =>
(aStore 16 s16 x21 x20).bind fun s22 =>
k' (.inl ([t0, t18], s22))) (
k' (.inr (.exit 0, [t0], (q9.2 i10).2)))
noncomputable def loop7s (C : Am.Callee) (L : Loops) (n0 : Nat) {R : Type} : ((List Value × AS) ⊕ (AEx × List Value × AS) → Option R) → List Value × AS → Option R := fun k' s => loop7 C L n0 k' (s.1.getD 0 unk) (s.1.getD 1 unk) s.2
noncomputable def j2 (C : Am.Callee) (L : Loops) (n0 : Nat) (t0 : Value) (s : AS) : Option (Value × List Blk × Option Nat) :=
(aNil t0).bind fun x25 =>
(aFieldAddr PP t_disk_Disk x25 1).bind fun x26 =>
(aLoad false 1 s x26).bind fun x27 =>
eBuiltin PP .clear #[t_M_int_api_Sector] [x27] s fun x28 s29 =>
fin PP false n0 [.int .i64 0] s29
noncomputable def sh (C : Am.Callee) (L : Loops) (n0 : Nat) (t0 : Value) (s : AS) : Option (Value × List Blk × Option Nat) :=
(C n_P_disk_Disk_Made [t0] s.H).bind fun r1 =>
(aUn PP .not r1.1).bind fun x2 =>
bcase x2 (
fin PP false n0 [.int .i64 1] (AS.mk r1.2.1 (joinEsc s.esc r1.2.2))) (
(C n_P_disk_Disk_spend [t0] (AS.mk r1.2.1 (joinEsc s.esc r1.2.2)).H).bind fun r3 =>
(aBin PP .neq t_api_Errno (.tmp 11) (.const (.int .i64 0)) r3.1 (.int .i64 0)).bind fun x4 =>
bcase x4 (
fin PP false n0 [r3.1] (AS.mk r3.2.1 (joinEsc (AS.mk r1.2.1 (joinEsc s.esc r1.2.2)).esc r3.2.2))) (
((aNil t0).bind fun x5 =>
(aFieldAddr PP t_disk_Disk x5 1).bind fun x6 =>
(aLoad false 1 (AS.mk r3.2.1 (joinEsc (AS.mk r1.2.1 (joinEsc s.esc r1.2.2)).esc r3.2.2)) x6).bind fun x7 =>
(aRange PP t_M_int_api_Sector x7 (AS.mk r3.2.1 (joinEsc (AS.mk r1.2.1 (joinEsc s.esc r1.2.2)).esc r3.2.2))).bind fun r8 =>
L.any n0 (loop7s C L n0) ([t0, r8.1], r8.2) fun r23 =>
match r23.1 with
| .normal => some (AEx.normal, [((gc n0 r23.2.1 r23.2.2).1.getD 0 unk)], (gc n0 r23.2.1 r23.2.2).2)
| .exit i => if i = 0 then some (AEx.normal, [((gc n0 r23.2.1 r23.2.2).1.getD 0 unk)], (gc n0 r23.2.1 r23.2.2).2) else some (AEx.exit i, [((gc n0 r23.2.1 r23.2.2).1.getD 0 unk)], (gc n0 r23.2.1 r23.2.2).2)
| .ret => some (AEx.ret, [((gc n0 r23.2.1 r23.2.2).1.getD 0 unk)], (gc n0 r23.2.1 r23.2.2).2)).bind fun r24 =>
match r24.1 with
| .normal => j2 C L n0 ((r24.2.1.getD 0 unk)) r24.2.2
| .exit i => none
| .ret => fin PP false n0 [unk] r24.2.2))
def T : Tab := ⟨fun i => if i = 7 then some [0, 18] else none, fun i => if i = 7 then some [0] else none, false, fun i => if i = 10 then some [0] else none, fun _ => false, false, false, fun _ => false, 8, false⟩
end P_disk_Disk_Flush
namespace compare_Unlike
noncomputable def j1 (C : Am.Callee) (L : Loops) (n0 : Nat) (t0 t1 t5 t11 t12 : Value) (s : AS) : Option ((List Value × AS) ⊕ (AEx × List Value × AS)) :=
(aBin PP .add t_int (.tmp 12) (.const (.int .i64 1)) t12 (.int .i64 1)).bind fun x12 =>
some (.inl ([t0, t1, t5, t11, x12], s))
noncomputable def loop3 (C : Am.Callee) (L : Loops) (n0 : Nat) (t0 t1 t5 t11 t12 : Value) (s : AS) : Option ((List Value × AS) ⊕ (AEx × List Value × AS)) :=
(aBin PP .lss t_int (.tmp 12) (.tmp 11) t12 t11).bind fun x5 =>
bcase x5 (
((C n_compare_at [t0, t12] s.H).bind fun r6 =>
(C n_compare_at [t1, t12] (AS.mk r6.2.1 (joinEsc s.esc r6.2.2)).H).bind fun r7 =>
(aBin PP .neq t_api_Sector (.tmp 17) (.tmp 20) r6.1 r7.1).bind fun x8 =>
bcase x8 (
(aBin PP .quo t_int (.tmp 23) (.const (.int .i64 4)) t12 (.int .i64 4)).bind fun x9 =>
(C n_bits_With [t5, x9] (AS.mk r7.2.1 (joinEsc (AS.mk r6.2.1 (joinEsc s.esc r6.2.2)).esc r7.2.2)).H).bind fun r10 =>
some (AEx.normal, [t0, t1, r10.1, t11, t12], AS.mk r10.2.1 (joinEsc (AS.mk r7.2.1 (joinEsc (AS.mk r6.2.1 (joinEsc s.esc r6.2.2)).esc r7.2.2)).esc r10.2.2))) (
some (AEx.normal, [t0, t1, t5, t11, t12], AS.mk r7.2.1 (joinEsc (AS.mk r6.2.1 (joinEsc s.esc r6.2.2)).esc r7.2.2)))).bind fun r11 =>
match r11.1 with
| .normal => j1 C L n0 ((r11.2.1.getD 0 unk)) ((r11.2.1.getD 1 unk)) ((r11.2.1.getD 2 unk)) ((r11.2.1.getD 3 unk)) ((r11.2.1.getD 4 unk)) r11.2.2
| .exit i => some (.inr (.exit i, [(r11.2.1.getD 2 unk)], r11.2.2))
| .ret => some (.inr (.ret, [(r11.2.1.getD 2 unk)], r11.2.2))) (
some (.inr (.exit 0, [t5], s)))
noncomputable def loop3s (C : Am.Callee) (L : Loops) (n0 : Nat) : List Value × AS → Option ((List Value × AS) ⊕ (AEx × List Value × AS)) := fun s => loop3 C L n0 (s.1.getD 0 unk) (s.1.getD 1 unk) (s.1.getD 2 unk) (s.1.getD 3 unk) (s.1.getD 4 unk) s.2
noncomputable def j3 (C : Am.Callee) (L : Loops) (n0 : Nat) (t5 : Value) (s : AS) : Option (Value × List Blk × Option Nat) :=
fin PP false n0 [t5] s
noncomputable def sh (C : Am.Callee) (L : Loops) (n0 : Nat) (t0 t1 : Value) (s : AS) : Option (Value × List Blk × Option Nat) :=
((C n_data_Sectors [t0] s.H).bind fun r1 =>
(C n_data_Sectors [t1] (AS.mk r1.2.1 (joinEsc s.esc r1.2.2)).H).bind fun r2 =>
eBuiltin PP .min #[t_int, t_int] [r1.1, r2.1] (AS.mk r2.2.1 (joinEsc (AS.mk r1.2.1 (joinEsc s.esc r1.2.2)).esc r2.2.2)) fun x3 s4 =>
(L n0 (loop3s C L n0) ([t0, t1, .int .u64 0, x3, .int .i64 0], s4)).bind fun r13 =>
match r13.1 with
| .normal => some (AEx.normal, [(r13.2.1.getD 0 unk)], r13.2.2)
| .exit i => if i = 0 then some (AEx.normal, [(r13.2.1.getD 0 unk)], r13.2.2) else some (AEx.exit i, [(r13.2.1.getD 0 unk)], r13.2.2)
| .ret => some (AEx.ret, [(r13.2.1.getD 0 unk)], r13.2.2)).bind fun r14 =>
match r14.1 with
| .normal => j3 C L n0 ((r14.2.1.getD 0 unk)) r14.2.2
| .exit i => none
| .ret => fin PP false n0 [unk] r14.2.2
def T : Tab := ⟨fun i => if i = 3 then some [0, 1, 5, 11, 12] else none, fun i => if i = 3 then some [5] else none, false, fun i => if i = 7 then some [0, 1, 5, 11, 12] else if i = 8 then some [5] else none, fun _ => false, false, false, fun _ => false, 9, false⟩
end compare_Unlike
namespace compare_Suspect
noncomputable def j1 (C : Am.Callee) (L : Loops) (n0 : Nat) (t0 t1 t5 t11 t12 : Value) (s : AS) : Option ((List Value × AS) ⊕ (AEx × List Value × AS)) :=
(aBin PP .add t_int (.tmp 12) (.const (.int .i64 1)) t12 (.int .i64 1)).bind fun x13 =>
some (.inl ([t0, t1, t5, t11, x13], s))
noncomputable def loop3 (C : Am.Callee) (L : Loops) (n0 : Nat) (t0 t1 t5 t11 t12 : Value) (s : AS) : Option ((List Value × AS) ⊕ (AEx × List Value × AS)) :=
(aBin PP .lss t_int (.tmp 12) (.tmp 11) t12 t11).bind fun x5 =>
bcase x5 (
((aIndexAddr PP t_L_uint32 t0 t12).bind fun x6 =>
(aLoad false 1 s x6).bind fun x7 =>
(aIndexAddr PP t_L_uint32 t1 t12).bind fun x8 =>
(aLoad false 1 s x8).bind fun x9 =>
(aBin PP .neq t_uint32 (.tmp 18) (.tmp 22) x7 x9).bind fun x10 =>
bcase x10 (
(C n_bits_With [t5, t12] s.H).bind fun r11 =>
some (AEx.normal, [t0, t1, r11.1, t11, t12], AS.mk r11.2.1 (joinEsc s.esc r11.2.2))) (
some (AEx.normal, [t0, t1, t5, t11, t12], s))).bind fun r12 =>
match r12.1 with
| .normal => j1 C L n0 ((r12.2.1.getD 0 unk)) ((r12.2.1.getD 1 unk)) ((r12.2.1.getD 2 unk)) ((r12.2.1.getD 3 unk)) ((r12.2.1.getD 4 unk)) r12.2.2
| .exit i => some (.inr (.exit i, [(r12.2.1.getD 2 unk)], r12.2.2))
| .ret => some (.inr (.ret, [(r12.2.1.getD 2 unk)], r12.2.2))) (
some (.inr (.exit 0, [t5], s)))
noncomputable def loop3s (C : Am.Callee) (L : Loops) (n0 : Nat) : List Value × AS → Option ((List Value × AS) ⊕ (AEx × List Value × AS)) := fun s => loop3 C L n0 (s.1.getD 0 unk) (s.1.getD 1 unk) (s.1.getD 2 unk) (s.1.getD 3 unk) (s.1.getD 4 unk) s.2
noncomputable def j3 (C : Am.Callee) (L : Loops) (n0 : Nat) (t5 : Value) (s : AS) : Option (Value × List Blk × Option Nat) :=
fin PP false n0 [t5] s
noncomputable def sh (C : Am.Callee) (L : Loops) (n0 : Nat) (t0 t1 : Value) (s : AS) : Option (Value × List Blk × Option Nat) :=
((aLen PP t_L_uint32 t0 s).bind fun x1 =>
(aLen PP t_L_uint32 t1 s).bind fun x2 =>
eBuiltin PP .min #[t_int, t_int, t_int] [x1, x2, .int .i64 64] s fun x3 s4 =>
(L n0 (loop3s C L n0) ([t0, t1, .int .u64 0, x3, .int .i64 0], s4)).bind fun r14 =>
match r14.1 with
| .normal => some (AEx.normal, [(r14.2.1.getD 0 unk)], r14.2.2)
| .exit i => if i = 0 then some (AEx.normal, [(r14.2.1.getD 0 unk)], r14.2.2) else some (AEx.exit i, [(r14.2.1.getD 0 unk)], r14.2.2)
| .ret => some (AEx.ret, [(r14.2.1.getD 0 unk)], r14.2.2)).bind fun r15 =>
match r15.1 with
| .normal => j3 C L n0 ((r15.2.1.getD 0 unk)) r15.2.2
| .exit i => none
| .ret => fin PP false n0 [unk] r15.2.2
def T : Tab := ⟨fun i => if i = 3 then some [0, 1, 5, 11, 12] else none, fun i => if i = 3 then some [5] else none, false, fun i => if i = 7 then some [0, 1, 5, 11, 12] else if i = 8 then some [5] else none, fun _ => false, false, false, fun _ => false, 10, false⟩
end compare_Suspect
namespace compare_Sums
noncomputable def loop3 (C : Am.Callee) (L : Loops) (n0 : Nat) (t0 t3 t6 t7 : Value) (s : AS) : Option ((List Value × AS) ⊕ (AEx × List Value × AS)) :=
(aBin PP .lss t_int (.tmp 7) (.tmp 6) t7 t6).bind fun x2 =>
bcase x2 (
(C n_compare_sum [t0, t7] s.H).bind fun r3 =>
(bsl PP t_L_uint32 1 [0] [r3.1] (AS.mk r3.2.1 (joinEsc s.esc r3.2.2))).bind fun r4 =>
eBuiltin PP .append #[t_L_uint32, t_L_uint32] [t3, r4.1] r4.2 fun x5 s6 =>
(aBin PP .add t_int (.tmp 7) (.const (.int .i64 1)) t7 (.int .i64 1)).bind fun x7 =>
some (.inl ([t0, x5, t6, x7], s6))) (
some (.inr (.exit 0, [t3], s)))
noncomputable def loop3s (C : Am.Callee) (L : Loops) (n0 : Nat) : List Value × AS → Option ((List Value × AS) ⊕ (AEx × List Value × AS)) := fun s => loop3 C L n0 (s.1.getD 0 unk) (s.1.getD 1 unk) (s.1.getD 2 unk) (s.1.getD 3 unk) s.2
noncomputable def j2 (C : Am.Callee) (L : Loops) (n0 : Nat) (t3 : Value) (s : AS) : Option (Value × List Blk × Option Nat) :=
fin PP false n0 [t3] s
noncomputable def sh (C : Am.Callee) (L : Loops) (n0 : Nat) (t0 : Value) (s : AS) : Option (Value × List Blk × Option Nat) :=
((C n_compare_extents [t0] s.H).bind fun r1 =>
(L n0 (loop3s C L n0) ([t0, .slice none 0 0, r1.1, .int .i64 0], AS.mk r1.2.1 (joinEsc s.esc r1.2.2))).bind fun r8 =>
match r8.1 with
| .normal => some (AEx.normal, [(r8.2.1.getD 0 unk)], r8.2.2)
| .exit i => if i = 0 then some (AEx.normal, [(r8.2.1.getD 0 unk)], r8.2.2) else some (AEx.exit i, [(r8.2.1.getD 0 unk)], r8.2.2)
| .ret => some (AEx.ret, [(r8.2.1.getD 0 unk)], r8.2.2)).bind fun r9 =>
match r9.1 with
| .normal => j2 C L n0 ((r9.2.1.getD 0 unk)) r9.2.2
| .exit i => none
| .ret => fin PP false n0 [unk] r9.2.2
def T : Tab := ⟨fun i => if i = 3 then some [0, 3, 6, 7] else none, fun i => if i = 3 then some [3] else none, false, fun i => if i = 7 then some [3] else none, fun _ => false, false, false, fun _ => false, 11, false⟩
end compare_Sums
namespace compare_Explained
noncomputable def sh (C : Am.Callee) (L : Loops) (n0 : Nat) (t0 : Value) (s : AS) : Option (Value × List Blk × Option Nat) :=
(C n_P_world_World_Net [t0] s.H).bind fun r1 =>
(aBin PP .eql t_P_net_Net (.tmp 6) (.const (.pointer none)) r1.1 (.pointer none)).bind fun x2 =>
bcase x2 (
fin PP false n0 [.bool false] (AS.mk r1.2.1 (joinEsc s.esc r1.2.2))) (
(C n_P_world_World_Disk [t0, .int .i64 0] (AS.mk r1.2.1 (joinEsc s.esc r1.2.2)).H).bind fun r3 =>
(C n_P_world_World_Disk [t0, .int .i64 1] (AS.mk r3.2.1 (joinEsc (AS.mk r1.2.1 (joinEsc s.esc r1.2.2)).esc r3.2.2)).H).bind fun r4 =>
(C n_compare_Unlike [r3.1, r4.1] (AS.mk r4.2.1 (joinEsc (AS.mk r3.2.1 (joinEsc (AS.mk r1.2.1 (joinEsc s.esc r1.2.2)).esc r3.2.2)).esc r4.2.2)).H).bind fun r5 =>
(C n_compare_Known [r3.1, r4.1] (AS.mk r5.2.1 (joinEsc (AS.mk r4.2.1 (joinEsc (AS.mk r3.2.1 (joinEsc (AS.mk r1.2.1 (joinEsc s.esc r1.2.2)).esc r3.2.2)).esc r4.2.2)).esc r5.2.2)).H).bind fun r6 =>
(aBin PP .andNot t_uint64 (.tmp 14) (.tmp 17) r5.1 r6.1).bind fun x7 =>
(aBin PP .eql t_uint64 (.tmp 18) (.const (.int .u64 0)) x7 (.int .u64 0)).bind fun x8 =>
fin PP false n0 [x8] (AS.mk r6.2.1 (joinEsc (AS.mk r5.2.1 (joinEsc (AS.mk r4.2.1 (joinEsc (AS.mk r3.2.1 (joinEsc (AS.mk r1.2.1 (joinEsc s.esc r1.2.2)).esc r3.2.2)).esc r4.2.2)).esc r5.2.2)).esc r6.2.2)))
def T : Tab := ⟨fun i => none, fun i => none, false, fun i => none, fun _ => false, false, false, fun _ => false, 12, false⟩
end compare_Explained
namespace P_disk_Disk_Made
noncomputable def sh (C : Am.Callee) (L : Loops) (n0 : Nat) (t0 : Value) (s : AS) : Option (Value × List Blk × Option Nat) :=
(aBin PP .neq t_P_disk_Disk (.tmp 3) (.const (.pointer none)) t0 (.pointer none)).bind fun x1 =>
bcase x1 (
(aNil t0).bind fun x2 =>
(aFieldAddr PP t_disk_Disk x2 0).bind fun x3 =>
(aLoad false 1 s x3).bind fun x4 =>
(aBin PP .neq t_L_api_Sector (.tmp 9) (.const (.slice none 0 0)) x4 (.slice none 0 0)).bind fun x5 =>
fin PP false n0 [x5] s) (
fin PP false n0 [.bool false] s)
def T : Tab := ⟨fun i => none, fun i => none, false, fun i => none, fun _ => false, false, false, fun _ => false, 14, false⟩
end P_disk_Disk_Made
namespace P_disk_Disk_has
noncomputable def sh (C : Am.Callee) (L : Loops) (n0 : Nat) (t0 t1 : Value) (s : AS) : Option (Value × List Blk × Option Nat) :=
(aBin PP .geq t_int (.tmp 5) (.const (.int .i64 0)) t1 (.int .i64 0)).bind fun x1 =>
bcase x1 (
(aNil t0).bind fun x2 =>
(aFieldAddr PP t_disk_Disk x2 0).bind fun x3 =>
(aLoad false 1 s x3).bind fun x4 =>
(aLen PP t_L_api_Sector x4 s).bind fun x5 =>
(aBin PP .lss t_int (.tmp 8) (.tmp 13) t1 x5).bind fun x6 =>
fin PP false n0 [x6] s) (
fin PP false n0 [.bool false] s)
def T : Tab := ⟨fun i => none, fun i => none, false, fun i => none, fun _ => false, false, false, fun _ => false, 15, false⟩
end P_disk_Disk_has
namespace P_disk_Disk_spend
noncomputable def j1 (C : Am.Callee) (L : Loops) (n0 : Nat) (t0 : Value) (s : AS) : Option (Value × List Blk × Option Nat) :=
(aNil t0).bind fun x24 =>
(aFieldAddr PP t_disk_Disk x24 4).bind fun x25 =>
(aLoad false 1 s x25).bind fun x26 =>
(aBin PP .add t_int (.tmp 30) (.const (.int .i64 1)) x26 (.int .i64 1)).bind fun x27 =>
(aNil t0).bind fun x28 =>
(aFieldAddr PP t_disk_Disk x28 4).bind fun x29 =>
(aStore 1 s x29 x27).bind fun s30 =>
fin PP false n0 [.int .i64 0] s30
noncomputable def j0 (C : Am.Callee) (L : Loops) (n0 : Nat) (t0 : Value) (s : AS) : Option (Value × List Blk × Option Nat) :=
(aNil t0).bind fun x9 =>
(aFieldAddr PP t_disk_Disk x9 3).bind fun x10 =>
(aLoad false 1 s x10).bind fun x11 =>
bcase x11 (
fin PP false n0 [.int .i64 3] s) (
((aNil t0).bind fun x12 =>
(aFieldAddr PP t_disk_Disk x12 2).bind fun x13 =>
(aLoad false 1 s x13).bind fun x14 =>
(aBin PP .gtr t_int (.tmp 18) (.const (.int .i64 0)) x14 (.int .i64 0)).bind fun x15 =>
bcase x15 (
(aNil t0).bind fun x16 =>
(aFieldAddr PP t_disk_Disk x16 2).bind fun x17 =>
(aLoad false 1 s x17).bind fun x18 =>
(aBin PP .sub t_int (.tmp 23) (.const (.int .i64 1)) x18 (.int .i64 1)).bind fun x19 =>
(aNil t0).bind fun x20 =>
(aFieldAddr PP t_disk_Disk x20 2).bind fun x21 =>
(aStore 1 s x21 x19).bind fun s22 =>
some (AEx.normal, [t0], s22)) (
some (AEx.normal, [t0], s))).bind fun r23 =>
match r23.1 with
| .normal => j1 C L n0 ((r23.2.1.getD 0 unk)) r23.2.2
| .exit i => none
| .ret => fin PP false n0 [unk] r23.2.2)
noncomputable def sh (C : Am.Callee) (L : Loops) (n0 : Nat) (t0 : Value) (s : AS) : Option (Value × List Blk × Option Nat) :=
((aNil t0).bind fun x1 =>
(aFieldAddr PP t_disk_Disk x1 2).bind fun x2 =>
(aLoad false 1 s x2).bind fun x3 =>
(aBin PP .eql t_int (.tmp 6) (.const (.int .i64 0)) x3 (.int .i64 0)).bind fun x4 =>
bcase x4 (
(aNil t0).bind fun x5 =>
(aFieldAddr PP t_disk_Disk x5 3).bind fun x6 =>
(aStore 1 s x6 (.bool true)).bind fun s7 =>
some (AEx.normal, [t0], s7)) (
some (AEx.normal, [t0], s))).bind fun r8 =>
match r8.1 with
| .normal => j0 C L n0 ((r8.2.1.getD 0 unk)) r8.2.2
| .exit i => none
| .ret => fin PP false n0 [unk] r8.2.2
def T : Tab := ⟨fun i => none, fun i => none, false, fun i => if i = 3 then some [0] else if i = 7 then some [0] else none, fun _ => false, false, false, fun _ => false, 16, false⟩
end P_disk_Disk_spend
namespace data_Sectors
noncomputable def sh (C : Am.Callee) (L : Loops) (n0 : Nat) (t0 : Value) (s : AS) : Option (Value × List Blk × Option Nat) :=
(C n_P_disk_Disk_Size [t0] s.H).bind fun r1 =>
(aBin PP .sub t_int (.tmp 4) (.const (.int .i64 8)) r1.1 (.int .i64 8)).bind fun x2 =>
eBuiltin PP .max #[t_int, t_int] [x2, .int .i64 0] (AS.mk r1.2.1 (joinEsc s.esc r1.2.2)) fun x3 s4 =>
fin PP false n0 [x3] s4
def T : Tab := ⟨fun i => none, fun i => none, false, fun i => none, fun _ => false, false, false, fun _ => false, 17, false⟩
end data_Sectors
namespace compare_at
noncomputable def sh (C : Am.Callee) (L : Loops) (n0 : Nat) (t0 t1 : Value) (s : AS) : Option (Value × List Blk × Option Nat) :=
(aBox t_api_Sector ((zeroP PP t_api_Sector).getD unk) s).bind fun r1 =>
(aBin PP .add t_int (.const (.int .i64 8)) (.tmp 6) (.int .i64 8) t1).bind fun x2 =>
(C n_P_disk_Disk_Durable [t0, x2] r1.2.H).bind fun r3 =>
(aStore 16 (AS.mk r3.2.1 (joinEsc r1.2.esc r3.2.2)) r1.1 r3.1).bind fun s4 =>
((aLoad true 16 s4 r1.1).bind fun x6 => (some []).bind fun y7 => some (x6 :: y7)).bind fun z5 => fin PP false n0 z5 s4
def T : Tab := ⟨fun i => none, fun i => none, false, fun i => none, fun _ => false, false, false, fun _ => false, 18, false⟩
end compare_at
namespace bits_With
noncomputable def sh (C : Am.Callee) (L : Loops) (n0 : Nat) (t0 t1 : Value) (s : AS) : Option (Value × List Blk × Option Nat) :=
(C n_bits_One [t1] s.H).bind fun r1 =>
(aBin PP .or t_uint64 (.tmp 5) (.tmp 7) t0 r1.1).bind fun x2 =>
fin PP false n0 [x2] (AS.mk r1.2.1 (joinEsc s.esc r1.2.2))
def T : Tab := ⟨fun i => none, fun i => none, false, fun i => none, fun _ => false, false, false, fun _ => false, 19, false⟩
end bits_With
namespace compare_extents
noncomputable def sh (C : Am.Callee) (L : Loops) (n0 : Nat) (t0 : Value) (s : AS) : Option (Value × List Blk × Option Nat) :=
(C n_data_Sectors [t0] s.H).bind fun r1 =>
(aBin PP .quo t_int (.tmp 4) (.const (.int .i64 4)) r1.1 (.int .i64 4)).bind fun x2 =>
eBuiltin PP .min #[t_int, t_int] [x2, .int .i64 64] (AS.mk r1.2.1 (joinEsc s.esc r1.2.2)) fun x3 s4 =>
fin PP false n0 [x3] s4
def T : Tab := ⟨fun i => none, fun i => none, false, fun i => none, fun _ => false, false, false, fun _ => false, 20, false⟩
end compare_extents
namespace compare_sum
noncomputable def loop4 (C : Am.Callee) (L : Loops) (n0 : Nat) (t0 t5 t6 t13 t14 : Value) (s : AS) : Option ((List Value × AS) ⊕ (AEx × List Value × AS)) :=
(aBin PP .lss t_int (.tmp 14) (.tmp 13) t14 t13).bind fun x7 =>
bcase x7 (
(aFieldAddr PP t_api_Span t5 0).bind fun x8 =>
(aLoad false 1 s x8).bind fun x9 =>
(aBin PP .add t_int (.tmp 19) (.tmp 20) x9 t14).bind fun x10 =>
(C n_compare_at [t0, x10] s.H).bind fun r11 =>
(aBox t_api_Sector ((zeroP PP t_api_Sector).getD unk) (AS.mk r11.2.1 (joinEsc s.esc r11.2.2))).bind fun r12 =>
(aStore 16 r12.2 r12.1 r11.1).bind fun s13 =>
(aSlice PP t_api_Sector r12.1 none none none s13).bind fun x14 =>
(C n_crc_More [t6, x14] s13.H).bind fun r15 =>
(aBin PP .add t_int (.tmp 14) (.const (.int .i64 1)) t14 (.int .i64 1)).bind fun x16 =>
some (.inl ([t0, t5, r15.1, t13, x16], AS.mk r15.2.1 (joinEsc s13.esc r15.2.2)))) (
some (.inr (.exit 0, [t6], s)))
noncomputable def loop4s (C : Am.Callee) (L : Loops) (n0 : Nat) : List Value × AS → Option ((List Value × AS) ⊕ (AEx × List Value × AS)) := fun s => loop4 C L n0 (s.1.getD 0 unk) (s.1.getD 1 unk) (s.1.getD 2 unk) (s.1.getD 3 unk) (s.1.getD 4 unk) s.2
noncomputable def j2 (C : Am.Callee) (L : Loops) (n0 : Nat) (t6 : Value) (s : AS) : Option (Value × List Blk × Option Nat) :=
fin PP false n0 [t6] s
noncomputable def sh (C : Am.Callee) (L : Loops) (n0 : Nat) (t0 t1 : Value) (s : AS) : Option (Value × List Blk × Option Nat) :=
(C n_span_Whole [t1] s.H).bind fun r1 =>
(aBox t_api_Span ((zeroP PP t_api_Span).getD unk) (AS.mk r1.2.1 (joinEsc s.esc r1.2.2))).bind fun r2 =>
(aStore 2 r2.2 r2.1 r1.1).bind fun s3 =>
(C n_crc_Sum [.slice none 0 0] s3.H).bind fun r4 =>
((aFieldAddr PP t_api_Span r2.1 1).bind fun x5 =>
(aLoad false 1 (AS.mk r4.2.1 (joinEsc s3.esc r4.2.2)) x5).bind fun x6 =>
(L n0 (loop4s C L n0) ([t0, r2.1, r4.1, x6, .int .i64 0], AS.mk r4.2.1 (joinEsc s3.esc r4.2.2))).bind fun r17 =>
match r17.1 with
| .normal => some (AEx.normal, [(r17.2.1.getD 0 unk)], r17.2.2)
| .exit i => if i = 0 then some (AEx.normal, [(r17.2.1.getD 0 unk)], r17.2.2) else some (AEx.exit i, [(r17.2.1.getD 0 unk)], r17.2.2)
| .ret => some (AEx.ret, [(r17.2.1.getD 0 unk)], r17.2.2)).bind fun r18 =>
match r18.1 with
| .normal => j2 C L n0 ((r18.2.1.getD 0 unk)) r18.2.2
| .exit i => none
| .ret => fin PP false n0 [unk] r18.2.2
def T : Tab := ⟨fun i => if i = 4 then some [0, 5, 6, 13, 14] else none, fun i => if i = 4 then some [6] else none, false, fun i => if i = 9 then some [6] else none, fun _ => false, false, false, fun _ => false, 21, false⟩
end compare_sum
namespace P_world_World_Net
noncomputable def sh (C : Am.Callee) (L : Loops) (n0 : Nat) (t0 : Value) (s : AS) : Option (Value × List Blk × Option Nat) :=
(C n_P_world_World_is [t0] s.H).bind fun r1 =>
(aUn PP .not r1.1).bind fun x2 =>
bcase x2 (
fin PP false n0 [.pointer none] (AS.mk r1.2.1 (joinEsc s.esc r1.2.2))) (
(aNil t0).bind fun x3 =>
(aFieldAddr PP t_world_World x3 2).bind fun x4 =>
(aLoad false 1 (AS.mk r1.2.1 (joinEsc s.esc r1.2.2)) x4).bind fun x5 =>
fin PP false n0 [x5] (AS.mk r1.2.1 (joinEsc s.esc r1.2.2)))
def T : Tab := ⟨fun i => none, fun i => none, false, fun i => none, fun _ => false, false, false, fun _ => false, 22, false⟩
end P_world_World_Net
namespace P_disk_Disk_Size
noncomputable def sh (C : Am.Callee) (L : Loops) (n0 : Nat) (t0 : Value) (s : AS) : Option (Value × List Blk × Option Nat) :=
(C n_P_disk_Disk_Made [t0] s.H).bind fun r1 =>
(aUn PP .not r1.1).bind fun x2 =>
bcase x2 (
fin PP false n0 [.int .i64 0] (AS.mk r1.2.1 (joinEsc s.esc r1.2.2))) (
(aNil t0).bind fun x3 =>
(aFieldAddr PP t_disk_Disk x3 0).bind fun x4 =>
(aLoad false 1 (AS.mk r1.2.1 (joinEsc s.esc r1.2.2)) x4).bind fun x5 =>
(aLen PP t_L_api_Sector x5 (AS.mk r1.2.1 (joinEsc s.esc r1.2.2))).bind fun x6 =>
fin PP false n0 [x6] (AS.mk r1.2.1 (joinEsc s.esc r1.2.2)))
def T : Tab := ⟨fun i => none, fun i => none, false, fun i => none, fun _ => false, false, false, fun _ => false, 27, false⟩
end P_disk_Disk_Size
namespace P_disk_Disk_Durable
noncomputable def j0 (C : Am.Callee) (L : Loops) (n0 : Nat) (t0 t1 t4 t13 : Value) (s : AS) : Option (AEx × List Value × AS) :=
bcase t13 (
(aBuild PP t_api_Sector []).bind fun x7 =>
(aStore 16 s t4 x7).bind fun s8 =>
some (AEx.ret, [t0, t1, t4], s8)) (
some (AEx.normal, [t0, t1, t4], s))
noncomputable def j1 (C : Am.Callee) (L : Loops) (n0 : Nat) (t0 t1 t4 : Value) (s : AS) : Option (Value × List Blk × Option Nat) :=
(aNil t0).bind fun x10 =>
(aFieldAddr PP t_disk_Disk x10 0).bind fun x11 =>
(aLoad false 1 s x11).bind fun x12 =>
(aIndexAddr PP t_L_api_Sector x12 t1).bind fun x13 =>
(aLoad true 16 s x13).bind fun x14 =>
(aStore 16 s t4 x14).bind fun s15 =>
((aLoad true 16 s15 t4).bind fun x17 => (some []).bind fun y18 => some (x17 :: y18)).bind fun z16 => fin PP false n0 z16 s15
noncomputable def sh (C : Am.Callee) (L : Loops) (n0 : Nat) (t0 t1 : Value) (s : AS) : Option (Value × List Blk × Option Nat) :=
(aBox t_api_Sector ((zeroP PP t_api_Sector).getD unk) s).bind fun r1 =>
(((C n_P_disk_Disk_Made [t0] r1.2.H).bind fun r2 =>
(aUn PP .not r2.1).bind fun x3 =>
bcase x3 (
some (AEx.normal, [t0, t1, r1.1, .bool true], AS.mk r2.2.1 (joinEsc r1.2.esc r2.2.2))) (
(C n_P_disk_Disk_has [t0, t1] (AS.mk r2.2.1 (joinEsc r1.2.esc r2.2.2)).H).bind fun r4 =>
(aUn PP .not r4.1).bind fun x5 =>
some (AEx.normal, [t0, t1, r1.1, x5], AS.mk r4.2.1 (joinEsc (AS.mk r2.2.1 (joinEsc r1.2.esc r2.2.2)).esc r4.2.2)))).bind fun r6 =>
match r6.1 with
| .normal => j0 C L n0 ((r6.2.1.getD 0 unk)) ((r6.2.1.getD 1 unk)) ((r6.2.1.getD 2 unk)) ((r6.2.1.getD 3 unk)) r6.2.2
| .exit i => some (AEx.exit i, [(r6.2.1.getD 0 unk), (r6.2.1.getD 1 unk), (r6.2.1.getD 2 unk)], r6.2.2)
| .ret => some (AEx.ret, [(r6.2.1.getD 0 unk), (r6.2.1.getD 1 unk), (r6.2.1.getD 2 unk)], r6.2.2)).bind fun r9 =>
match r9.1 with
| .normal => j1 C L n0 ((r9.2.1.getD 0 unk)) ((r9.2.1.getD 1 unk)) ((r9.2.1.getD 2 unk)) r9.2.2
| .exit i => none
| .ret => ((aLoad true 16 r9.2.2 ((r9.2.1.getD 2 unk))).bind fun x20 => (some []).bind fun y21 => some (x20 :: y21)).bind fun z19 => fin PP false n0 z19 r9.2.2
def T : Tab := ⟨fun i => none, fun i => none, false, fun i => if i = 2 then some [0, 1, 4, 13] else if i = 3 then some [0, 1, 4] else none, fun _ => false, false, false, fun _ => false, 28, false⟩
end P_disk_Disk_Durable
namespace bits_One
noncomputable def sh (C : Am.Callee) (L : Loops) (n0 : Nat) (t0 : Value) (s : AS) : Option (Value × List Blk × Option Nat) :=
(C n_bits_in [t0] s.H).bind fun r1 =>
(aUn PP .not r1.1).bind fun x2 =>
bcase x2 (
fin PP false n0 [.int .u64 0] (AS.mk r1.2.1 (joinEsc s.esc r1.2.2))) (
(aBin PP .shl t_uint64 (.const (.int .u64 1)) (.tmp 6) (.int .u64 1) t0).bind fun x3 =>
fin PP false n0 [x3] (AS.mk r1.2.1 (joinEsc s.esc r1.2.2)))
def T : Tab := ⟨fun i => none, fun i => none, false, fun i => none, fun _ => false, false, false, fun _ => false, 29, false⟩
end bits_One
namespace span_Whole
noncomputable def j0 (C : Am.Callee) (L : Loops) (n0 : Nat) (t0 t2 t8 : Value) (s : AS) : Option (AEx × List Value × AS) :=
bcase t8 (
(aBuild PP t_api_Span []).bind fun x5 =>
(aStore 2 s t2 x5).bind fun s6 =>
some (AEx.ret, [t0, t2], s6)) (
some (AEx.normal, [t0, t2], s))
noncomputable def j1 (C : Am.Callee) (L : Loops) (n0 : Nat) (t0 t2 : Value) (s : AS) : Option (Value × List Blk × Option Nat) :=
(aBin PP .mul t_int (.tmp 10) (.const (.int .i64 4)) t0 (.int .i64 4)).bind fun x8 =>
(aBuild PP t_api_Span [(0, x8), (1, .int .i64 4)]).bind fun x9 =>
(aStore 2 s t2 x9).bind fun s10 =>
((aLoad true 2 s10 t2).bind fun x12 => (some []).bind fun y13 => some (x12 :: y13)).bind fun z11 => fin PP false n0 z11 s10
noncomputable def sh (C : Am.Callee) (L : Loops) (n0 : Nat) (t0 : Value) (s : AS) : Option (Value × List Blk × Option Nat) :=
(aBox t_api_Span ((zeroP PP t_api_Span).getD unk) s).bind fun r1 =>
(((aBin PP .lss t_int (.tmp 3) (.const (.int .i64 0)) t0 (.int .i64 0)).bind fun x2 =>
bcase x2 (
some (AEx.normal, [t0, r1.1, .bool true], r1.2)) (
(aBin PP .geq t_int (.tmp 6) (.const (.int .i64 64)) t0 (.int .i64 64)).bind fun x3 =>
some (AEx.normal, [t0, r1.1, x3], r1.2))).bind fun r4 =>
match r4.1 with
| .normal => j0 C L n0 ((r4.2.1.getD 0 unk)) ((r4.2.1.getD 1 unk)) ((r4.2.1.getD 2 unk)) r4.2.2
| .exit i => some (AEx.exit i, [(r4.2.1.getD 0 unk), (r4.2.1.getD 1 unk)], r4.2.2)
| .ret => some (AEx.ret, [(r4.2.1.getD 0 unk), (r4.2.1.getD 1 unk)], r4.2.2)).bind fun r7 =>
match r7.1 with
| .normal => j1 C L n0 ((r7.2.1.getD 0 unk)) ((r7.2.1.getD 1 unk)) r7.2.2
| .exit i => none
| .ret => ((aLoad true 2 r7.2.2 ((r7.2.1.getD 1 unk))).bind fun x15 => (some []).bind fun y16 => some (x15 :: y16)).bind fun z14 => fin PP false n0 z14 r7.2.2
def T : Tab := ⟨fun i => none, fun i => none, false, fun i => if i = 2 then some [0, 2, 8] else if i = 3 then some [0, 2] else none, fun _ => false, false, false, fun _ => false, 30, false⟩
end span_Whole
namespace crc_Sum
noncomputable def sh (C : Am.Callee) (L : Loops) (n0 : Nat) (t0 : Value) (s : AS) : Option (Value × List Blk × Option Nat) :=
(C n_crc_More [.int .u32 0, t0] s.H).bind fun r1 =>
fin PP false n0 [r1.1] (AS.mk r1.2.1 (joinEsc s.esc r1.2.2))
def T : Tab := ⟨fun i => none, fun i => none, false, fun i => none, fun _ => false, false, false, fun _ => false, 31, false⟩
end crc_Sum
namespace crc_More
noncomputable def loop3 (C : Am.Callee) (L : Loops) (n0 : Nat) (t1 t5 t10 t11 : Value) (s : AS) : Option ((List Value × AS) ⊕ (AEx × List Value × AS)) :=
(aBin PP .lss t_int (.tmp 11) (.tmp 10) t11 t10).bind fun x3 =>
bcase x3 (
(aIndexAddr PP t_L_uint8 t1 t11).bind fun x4 =>
(aLoad false 1 s x4).bind fun x5 =>
(C n_crc_Step [t5, x5] s.H).bind fun r6 =>
(aBin PP .add t_int (.tmp 11) (.const (.int .i64 1)) t11 (.int .i64 1)).bind fun x7 =>
some (.inl ([t1, r6.1, t10, x7], AS.mk r6.2.1 (joinEsc s.esc r6.2.2)))) (
some (.inr (.exit 0, [t5], s)))
noncomputable def loop3s (C : Am.Callee) (L : Loops) (n0 : Nat) : List Value × AS → Option ((List Value × AS) ⊕ (AEx × List Value × AS)) := fun s => loop3 C L n0 (s.1.getD 0 unk) (s.1.getD 1 unk) (s.1.getD 2 unk) (s.1.getD 3 unk) s.2
noncomputable def j2 (C : Am.Callee) (L : Loops) (n0 : Nat) (t5 : Value) (s : AS) : Option (Value × List Blk × Option Nat) :=
(aBin PP .xor t_uint32 (.tmp 21) (.const (.int .u32 4294967295)) t5 (.int .u32 4294967295)).bind fun x10 =>
fin PP false n0 [x10] s
noncomputable def sh (C : Am.Callee) (L : Loops) (n0 : Nat) (t0 t1 : Value) (s : AS) : Option (Value × List Blk × Option Nat) :=
(aBin PP .xor t_uint32 (.tmp 7) (.const (.int .u32 4294967295)) t0 (.int .u32 4294967295)).bind fun x1 =>
((aLen PP t_L_uint8 t1 s).bind fun x2 =>
(L n0 (loop3s C L n0) ([t1, x1, x2, .int .i64 0], s)).bind fun r8 =>
match r8.1 with
| .normal => some (AEx.normal, [(r8.2.1.getD 0 unk)], r8.2.2)
| .exit i => if i = 0 then some (AEx.normal, [(r8.2.1.getD 0 unk)], r8.2.2) else some (AEx.exit i, [(r8.2.1.getD 0 unk)], r8.2.2)
| .ret => some (AEx.ret, [(r8.2.1.getD 0 unk)], r8.2.2)).bind fun r9 =>
match r9.1 with
| .normal => j2 C L n0 ((r9.2.1.getD 0 unk)) r9.2.2
| .exit i => none
| .ret => fin PP false n0 [unk] r9.2.2
def T : Tab := ⟨fun i => if i = 3 then some [1, 5, 10, 11] else none, fun i => if i = 3 then some [5] else none, false, fun i => if i = 7 then some [5] else none, fun _ => false, false, false, fun _ => false, 32, false⟩
end crc_More
namespace P_world_World_is
noncomputable def sh (C : Am.Callee) (L : Loops) (n0 : Nat) (t0 : Value) (s : AS) : Option (Value × List Blk × Option Nat) :=
(aBin PP .neq t_P_world_World (.tmp 3) (.const (.pointer none)) t0 (.pointer none)).bind fun x1 =>
bcase x1 (
(aNil t0).bind fun x2 =>
(aFieldAddr PP t_world_World x2 2).bind fun x3 =>
(aLoad false 1 s x3).bind fun x4 =>
(aBin PP .neq t_P_net_Net (.tmp 9) (.const (.pointer none)) x4 (.pointer none)).bind fun x5 =>
fin PP false n0 [x5] s) (
fin PP false n0 [.bool false] s)
def T : Tab := ⟨fun i => none, fun i => none, false, fun i => none, fun _ => false, false, false, fun _ => false, 33, false⟩
end P_world_World_is
namespace bits_in
noncomputable def sh (C : Am.Callee) (L : Loops) (n0 : Nat) (t0 : Value) (s : AS) : Option (Value × List Blk × Option Nat) :=
(aBin PP .geq t_int (.tmp 3) (.const (.int .i64 0)) t0 (.int .i64 0)).bind fun x1 =>
bcase x1 (
(aBin PP .lss t_int (.tmp 6) (.const (.int .i64 64)) t0 (.int .i64 64)).bind fun x2 =>
fin PP false n0 [x2] s) (
fin PP false n0 [.bool false] s)
def T : Tab := ⟨fun i => none, fun i => none, false, fun i => none, fun _ => false, false, false, fun _ => false, 39, false⟩
end bits_in
namespace crc_Step
noncomputable def loop3 (C : Am.Callee) (L : Loops) (n0 : Nat) (t0 t9 : Value) (s : AS) : Option ((List Value × AS) ⊕ (AEx × List Value × AS)) :=
(aBin PP .lss t_int (.tmp 9) (.const (.int .i64 2)) t9 (.int .i64 2)).bind fun x3 =>
bcase x3 (
(aBin PP .shr t_uint32 (.tmp 11) (.const (.int .u64 4)) t0 (.int .u64 4)).bind fun x4 =>
(aConv PP t_uint32 t_uint8 t0 s).bind fun r5 =>
(C n_crc_half [r5.1] r5.2.H).bind fun r6 =>
(aBin PP .xor t_uint32 (.tmp 12) (.tmp 15) x4 r6.1).bind fun x7 =>
(aBin PP .add t_int (.tmp 9) (.const (.int .i64 1)) t9 (.int .i64 1)).bind fun x8 =>
some (.inl ([x7, x8], AS.mk r6.2.1 (joinEsc r5.2.esc r6.2.2)))) (
some (.inr (.exit 0, [t0], s)))
noncomputable def loop3s (C : Am.Callee) (L : Loops) (n0 : Nat) : List Value × AS → Option ((List Value × AS) ⊕ (AEx × List Value × AS)) := fun s => loop3 C L n0 (s.1.getD 0 unk) (s.1.getD 1 unk) s.2
noncomputable def j2 (C : Am.Callee) (L : Loops) (n0 : Nat) (t0 : Value) (s : AS) : Option (Value × List Blk × Option Nat) :=
fin PP false n0 [t0] s
noncomputable def sh (C : Am.Callee) (L : Loops) (n0 : Nat) (t0 t1 : Value) (s : AS) : Option (Value × List Blk × Option Nat) :=
(aConv PP t_uint8 t_uint32 t1 s).bind fun r1 =>
(aBin PP .xor t_uint32 (.tmp 5) (.tmp 7) t0 r1.1).bind fun x2 =>
((L n0 (loop3s C L n0) ([x2, .int .i64 0], r1.2)).bind fun r9 =>
match r9.1 with
| .normal => some (AEx.normal, [(r9.2.1.getD 0 unk)], r9.2.2)
| .exit i => if i = 0 then some (AEx.normal, [(r9.2.1.getD 0 unk)], r9.2.2) else some (AEx.exit i, [(r9.2.1.getD 0 unk)], r9.2.2)
| .ret => some (AEx.ret, [(r9.2.1.getD 0 unk)], r9.2.2)).bind fun r10 =>
match r10.1 with
| .normal => j2 C L n0 ((r10.2.1.getD 0 unk)) r10.2.2
| .exit i => none
| .ret => fin PP false n0 [unk] r10.2.2
def T : Tab := ⟨fun i => if i = 3 then some [0, 9] else none, fun i => if i = 3 then some [0] else none, false, fun i => if i = 6 then some [0] else none, fun _ => false, false, false, fun _ => false, 40, false⟩
end crc_Step
namespace crc_half
noncomputable def sh (C : Am.Callee) (L : Loops) (n0 : Nat) (t0 : Value) (s : AS) : Option (Value × List Blk × Option Nat) :=
(aBuild PP t_A16_uint32 [(0, .int .u32 0), (1, .int .u32 498536548), (2, .int .u32 997073096), (3, .int .u32 651767980), (4, .int .u32 1994146192), (5, .int .u32 1802195444), (6, .int .u32 1303535960), (7, .int .u32 1342533948), (8, .int .u32 3988292384), (9, .int .u32 4027552580), (10, .int .u32 3604390888), (11, .int .u32 3412177804), (12, .int .u32 2607071920), (13, .int .u32 2262029012), (14, .int .u32 2685067896), (15, .int .u32 3183342108)]).bind fun x1 =>
(aBox t_A16_uint32 ((zeroP PP t_A16_uint32).getD unk) s).bind fun r2 =>
(aStore 16 r2.2 r2.1 x1).bind fun s3 =>
(aBin PP .and t_uint8 (.tmp 5) (.const (.int .u8 15)) t0 (.int .u8 15)).bind fun x4 =>
(aIndexAddr PP t_A16_uint32 r2.1 x4).bind fun x5 =>
(aLoad false 1 s3 x5).bind fun x6 =>
fin PP false n0 [x6] s3
def T : Tab := ⟨fun i => none, fun i => none, false, fun i => none, fun _ => false, false, false, fun _ => false, 46, false⟩
end crc_half
end Go.Proofs.Ytadllcgmimbjdaa
