/- A part of the proof: AnShD. Its conditions: none. -/
import Derived.Test.YthdoihdngldlfaaGreatAm13c
import Derived.Test.YthdoihdngldlfaaGreatChecked
set_option linter.all false
set_option linter.unusedVariables false
set_option linter.unusedSimpArgs false
set_option linter.unnecessarySimpa false
namespace Go.Proofs.YthdoihdngldlfaaGreat
open Go Go.Am
set_option linter.unusedVariables false
noncomputable abbrev PP : Program := Tryz.prog
abbrev n_main_main : FuncId := 0
abbrev n_gosem_cut : FuncId := 1
abbrev n_gosem_cut_init : FuncId := 2
abbrev n_twainlaw39_AuditNone : FuncId := 3
abbrev n_twainlaw31_MirrorNone : FuncId := 4
abbrev n_twainlaw32_NodeNone : FuncId := 5
abbrev n_twainlaw34_WorldNone : FuncId := 6
abbrev n_twainlaw35_FairNone : FuncId := 7
abbrev n_audit_Check : FuncId := 8
abbrev n_audit_Alike : FuncId := 9
abbrev n_audit_Linear : FuncId := 10
abbrev n_twainlaw39_lives : FuncId := 11
abbrev n_twainlaw31_lives : FuncId := 12
abbrev n_P_mirror_Mirror_Write : FuncId := 13
abbrev n_P_mirror_Mirror_Take : FuncId := 14
abbrev n_P_mirror_Mirror_Go : FuncId := 15
abbrev n_P_mirror_Mirror_Forget : FuncId := 16
abbrev n_P_mirror_Mirror_Release : FuncId := 17
abbrev n_P_mirror_Mirror_Flights : FuncId := 18
abbrev n_P_mirror_Mirror_Later : FuncId := 19
abbrev n_P_mirror_Mirror_Hold : FuncId := 20
abbrev n_P_mirror_Mirror_Hot : FuncId := 21
abbrev n_P_mirror_Mirror_Busy : FuncId := 22
abbrev n_twainlaw32_lives : FuncId := 23
abbrev n_P_node_Node_Submit : FuncId := 24
abbrev n_P_node_Node_Take : FuncId := 25
abbrev n_P_node_Node_Tick : FuncId := 26
abbrev n_P_node_Node_Stop : FuncId := 27
abbrev n_P_node_Node_Start : FuncId := 28
abbrev n_P_node_Node_Status : FuncId := 29
abbrev n_P_node_Node_Poll : FuncId := 30
abbrev n_P_node_Node_Mail : FuncId := 31
abbrev n_P_node_Node_Requests : FuncId := 32
abbrev n_P_node_Node_Flying : FuncId := 33
abbrev n_P_node_Node_Unacked : FuncId := 34
abbrev n_P_node_Node_Boot : FuncId := 35
abbrev n_P_node_Node_Peer : FuncId := 36
abbrev n_P_node_Node_Left : FuncId := 37
abbrev n_P_world_World_Do : FuncId := 38
abbrev n_P_world_World_Node : FuncId := 39
abbrev n_P_world_World_Disk : FuncId := 40
abbrev n_P_world_World_Net : FuncId := 41
abbrev n_P_world_World_Events : FuncId := 42
abbrev n_P_world_World_Config : FuncId := 43
abbrev n_twainlaw34_lives : FuncId := 44
abbrev n_fair_Settle : FuncId := 45
abbrev n_fair_Round : FuncId := 46
abbrev n_fair_Quiet : FuncId := 47
abbrev n_twainlaw35_lives : FuncId := 48
abbrev n_audit_each : FuncId := 49
abbrev n_audit_Check_1 : FuncId := 50
abbrev n_audit_cached : FuncId := 51
abbrev n_history_Odd : FuncId := 52
abbrev n_audit_Check_2 : FuncId := 53
abbrev n_audit_early : FuncId := 54
abbrev n_bytes_Equal : FuncId := 55
abbrev n_data_Image : FuncId := 56
abbrev n_register_Right : FuncId := 57
abbrev n_history_Ops : FuncId := 58
abbrev n_world_New : FuncId := 59
abbrev n_twainlaw34_Set : FuncId := 60
abbrev n_audit_Name : FuncId := 61
abbrev n_disk_New : FuncId := 62
abbrev n_mirror_New : FuncId := 63
abbrev n_twainref01_Ints : FuncId := 64
abbrev n_P_mirror_Mirror_is : FuncId := 65
abbrev n_span_Good : FuncId := 66
abbrev n_data_Sectors : FuncId := 67
abbrev n_P_flight_Flights_Get : FuncId := 68
abbrev n_P_later_Queue_Over : FuncId := 69
abbrev n_P_mirror_Mirror_heats : FuncId := 70
abbrev n_P_mirror_Mirror_lay : FuncId := 71
abbrev n_P_flight_Flights_Add : FuncId := 72
abbrev n_mirror_sends : FuncId := 73
abbrev n_pack_Good : FuncId := 74
abbrev n_P_mirror_Mirror_comes : FuncId := 75
abbrev n_P_flight_Flights_End : FuncId := 76
abbrev n_P_flight_Flights_Turn : FuncId := 77
abbrev n_P_mirror_Mirror_drains : FuncId := 78
abbrev n_P_mirror_Mirror_again : FuncId := 79
abbrev n_mirror_tells : FuncId := 80
abbrev n_P_hot_Set_Load : FuncId := 81
abbrev n_P_flight_Flights_List : FuncId := 82
abbrev n_P_later_Queue_Spans : FuncId := 83
abbrev n_later_New : FuncId := 84
abbrev n_P_hot_Set_Mask : FuncId := 85
abbrev n_P_flight_Flights_Busy : FuncId := 86
abbrev n_node_New : FuncId := 87
abbrev n_P_node_Node_is : FuncId := 88
abbrev n_P_node_Node_up : FuncId := 89
abbrev n_request_Check : FuncId := 90
abbrev n_num_Ticket : FuncId := 91
abbrev n_P_session_Session_My : FuncId := 92
abbrev n_P_table_Table_Full : FuncId := 93
abbrev n_P_session_Session_Full : FuncId := 94
abbrev n_P_table_Table_Add : FuncId := 95
abbrev n_P_node_Node_step : FuncId := 96
abbrev n_P_node_Node_Submit_1 : FuncId := 97
abbrev n_P_node_Node_Take_1 : FuncId := 98
abbrev n_P_session_Session_Take : FuncId := 99
abbrev n_P_node_Node_mails : FuncId := 100
abbrev n_P_node_Node_meets : FuncId := 101
abbrev n_pack_Parse : FuncId := 102
abbrev n_P_node_Node_hears : FuncId := 103
abbrev n_P_node_Node_Tick_1 : FuncId := 104
abbrev n_P_session_Session_Tick : FuncId := 105
abbrev n_meta_Start : FuncId := 106
abbrev n_session_New : FuncId := 107
abbrev n_table_New : FuncId := 108
abbrev n_P_session_Session_Alive : FuncId := 109
abbrev n_P_table_Table_Tickets : FuncId := 110
abbrev n_P_session_Session_Len : FuncId := 111
abbrev n_P_session_Session_Peer : FuncId := 112
abbrev n_P_resync_Resync_Left : FuncId := 113
abbrev n_P_world_World_is : FuncId := 114
abbrev n_P_world_World_has : FuncId := 115
abbrev n_P_world_World_submit : FuncId := 116
abbrev n_P_world_World_call : FuncId := 117
abbrev n_P_world_World_deliver : FuncId := 118
abbrev n_P_net_Net_Take : FuncId := 119
abbrev n_P_net_Net_Double : FuncId := 120
abbrev n_P_world_World_start : FuncId := 121
abbrev n_P_world_World_falls : FuncId := 122
abbrev n_P_disk_Disk_Fuse : FuncId := 123
abbrev n_world_own : FuncId := 124
abbrev n_slices_Clone_L_byte_byte : FuncId := 125
abbrev n_P_net_Net_Len : FuncId := 126
abbrev n_fair_Round_1 : FuncId := 127
abbrev n_fair_Round_2 : FuncId := 128
abbrev n_fair_Round_3 : FuncId := 129
abbrev n_fair_drain : FuncId := 130
abbrev n_fair_rests : FuncId := 131
abbrev n_fair_stray : FuncId := 132
abbrev n_fair_Rounds : FuncId := 133
abbrev n_P_disk_Disk_Cached : FuncId := 134
abbrev n_history_paired : FuncId := 135
abbrev n_slices_ContainsFunc_L_int_int : FuncId := 136
abbrev n_audit_early_1 : FuncId := 137
abbrev n_slices_Contains_L_int_int : FuncId := 138
abbrev n_data_Read : FuncId := 139
abbrev n_register_Order : FuncId := 140
abbrev n_span_Overlap : FuncId := 141
abbrev n_history_pairs_to : FuncId := 142
abbrev n_history_cut : FuncId := 143
abbrev n_net_New : FuncId := 144
abbrev n_P_disk_Disk_Made : FuncId := 145
abbrev n_hot_New : FuncId := 146
abbrev n_flight_New : FuncId := 147
abbrev n_role_Arbiter : FuncId := 148
abbrev n_span_Plain : FuncId := 149
abbrev n_span_End : FuncId := 150
abbrev n_P_disk_Disk_Size : FuncId := 151
abbrev n_P_flight_Flights_is : FuncId := 152
abbrev n_flight_own : FuncId := 153
abbrev n_slices_ContainsFunc_L_api_Span_api_Span : FuncId := 154
abbrev n_P_later_Queue_Over_1 : FuncId := 155
abbrev n_P_hot_Set_Use : FuncId := 156
abbrev n_span_Extents : FuncId := 157
abbrev n_P_flight_Flights_Extents : FuncId := 158
abbrev n_actlog_Put : FuncId := 159
abbrev n_data_Write : FuncId := 160
abbrev n_P_disk_Disk_Flush : FuncId := 161
abbrev n_P_itree_Tree_Insert : FuncId := 162
abbrev n_pack_of : FuncId := 163
abbrev n_pack_shape_bare : FuncId := 164
abbrev n_pack_sectors : FuncId := 165
abbrev n_clash_Verdict : FuncId := 166
abbrev n_P_flight_Flights_Own : FuncId := 167
abbrev n_P_later_Queue_Push : FuncId := 168
abbrev n_P_itree_Tree_Delete : FuncId := 169
abbrev n_P_mirror_Mirror_drains_1 : FuncId := 170
abbrev n_P_later_Queue_Next : FuncId := 171
abbrev n_P_hot_Set_is : FuncId := 172
abbrev n_bits_List : FuncId := 173
abbrev n_P_flight_Flights_sorted : FuncId := 174
abbrev n_P_later_Queue_is : FuncId := 175
abbrev n_bits_Of : FuncId := 176
abbrev n_P_itree_Tree_Any : FuncId := 177
abbrev n_request_Good : FuncId := 178
abbrev n_P_session_Session_is : FuncId := 179
abbrev n_P_table_Table_is : FuncId := 180
abbrev n_P_outbox_Out_Full : FuncId := 181
abbrev n_table_own : FuncId := 182
abbrev n_P_node_Node_guard : FuncId := 183
abbrev n_P_node_Node_goes : FuncId := 184
abbrev n_wire_Parse : FuncId := 185
abbrev n_P_session_Session_meets : FuncId := 186
abbrev n_P_session_Session_all : FuncId := 187
abbrev n_P_session_Session_ping : FuncId := 188
abbrev n_P_keep_Keep_Heard : FuncId := 189
abbrev n_P_outbox_Out_Acked : FuncId := 190
abbrev n_P_session_Session_msg : FuncId := 191
abbrev n_P_inbox_In_Take : FuncId := 192
abbrev n_bytes_Clone : FuncId := 193
abbrev n_meta_Mine : FuncId := 194
abbrev n_dirty_Get : FuncId := 195
abbrev n_P_node_Node_send : FuncId := 196
abbrev n_P_pack_reader_byte : FuncId := 197
abbrev n_P_pack_reader_read : FuncId := 198
abbrev n_P_node_Node_begins : FuncId := 199
abbrev n_P_resync_Resync_Take : FuncId := 200
abbrev n_P_node_Node_done : FuncId := 201
abbrev n_P_resync_Resync_Over : FuncId := 202
abbrev n_P_keep_Keep_Tick : FuncId := 203
abbrev n_wire_Bytes : FuncId := 204
abbrev n_P_outbox_Out_Window : FuncId := 205
abbrev n_super_Next : FuncId := 206
abbrev n_meta_Look : FuncId := 207
abbrev n_session_fresh : FuncId := 208
abbrev n_keep_New : FuncId := 209
abbrev n_P_keep_Keep_Alive : FuncId := 210
abbrev n_maps_Keys_M_table_key_api_Request_tab_a1a3f6 : FuncId := 211
abbrev n_slices_Sort_L_int_int : FuncId := 212
abbrev n_P_outbox_Out_Len : FuncId := 213
abbrev n_P_resync_Resync_is : FuncId := 214
abbrev n_P_plan_Plan_Left : FuncId := 215
abbrev n_P_world_World_submit_1 : FuncId := 216
abbrev n_P_world_World_note : FuncId := 217
abbrev n_P_disk_Disk_Broken : FuncId := 218
abbrev n_P_world_World_ends : FuncId := 219
abbrev n_P_net_Net_Put : FuncId := 220
abbrev n_P_world_World_deliver_1 : FuncId := 221
abbrev n_P_net_Net_At : FuncId := 222
abbrev n_P_world_World_start_1 : FuncId := 223
abbrev n_P_disk_Disk_Crash : FuncId := 224
abbrev n_P_net_Net_check : FuncId := 225
abbrev n_slices_Sorted_int : FuncId := 226
abbrev n_maps_Keys_M_int_api_Sector_int_api_Sector : FuncId := 227
abbrev n_history_of : FuncId := 228
abbrev n_slices_IndexFunc_L_int_int : FuncId := 229
abbrev n_slices_Index_L_int_int : FuncId := 230
abbrev n_data_check : FuncId := 231
abbrev n_data_each : FuncId := 232
abbrev n_P_disk_Disk_Read : FuncId := 233
abbrev n_register_begin : FuncId := 234
abbrev n_P_register_hunt_find : FuncId := 235
abbrev n_span_Meet : FuncId := 236
abbrev n_itree_New : FuncId := 237
abbrev n_span_within : FuncId := 238
abbrev n_slices_IndexFunc_L_api_Span_api_Span : FuncId := 239
abbrev n_P_hot_Set_Fits : FuncId := 240
abbrev n_P_hot_Set_Use_1 : FuncId := 241
abbrev n_bits_Has : FuncId := 242
abbrev n_bits_Count : FuncId := 243
abbrev n_P_hot_Set_leave : FuncId := 244
abbrev n_P_hot_Set_Use_2 : FuncId := 245
abbrev n_bits_Row : FuncId := 246
abbrev n_actlog_Put_1 : FuncId := 247
abbrev n_actlog_Get : FuncId := 248
abbrev n_actlog_log_put : FuncId := 249
abbrev n_actlog_here : FuncId := 250
abbrev n_P_disk_Disk_Write : FuncId := 251
abbrev n_P_disk_Disk_spend : FuncId := 252
abbrev n_P_itree_Tree_is : FuncId := 253
abbrev n_P_itree_Tree_has : FuncId := 254
abbrev n_itree_add : FuncId := 255
abbrev n_clash_some : FuncId := 256
abbrev n_clash_Own_holds : FuncId := 257
abbrev n_clash_Own_meets : FuncId := 258
abbrev n_clash_Own_blocks : FuncId := 259
abbrev n_itree_isRed : FuncId := 260
abbrev n_itree_cut : FuncId := 261
abbrev n_P_later_Queue_free : FuncId := 262
abbrev n_bits_each : FuncId := 263
abbrev n_slices_SortedFunc_flight_Write : FuncId := 264
abbrev n_maps_Values_M_flight_key_flight_Write_3109ca : FuncId := 265
abbrev n_P_flight_Flights_sorted_1 : FuncId := 266
abbrev n_bits_With : FuncId := 267
abbrev n_itree_walk : FuncId := 268
abbrev n_P_itree_Tree_Any_1 : FuncId := 269
abbrev n_P_outbox_Out_is : FuncId := 270
abbrev n_P_node_Node_waits : FuncId := 271
abbrev n_node_place : FuncId := 272
abbrev n_wait_May : FuncId := 273
abbrev n_P_node_Node_one : FuncId := 274
abbrev n_num_Get16 : FuncId := 275
abbrev n_seal_Get : FuncId := 276
abbrev n_wire_field : FuncId := 277
abbrev n_wire_Good : FuncId := 278
abbrev n_P_inbox_In_Ack : FuncId := 279
abbrev n_P_keep_Keep_turn : FuncId := 280
abbrev n_P_keep_Keep_Heard_1 : FuncId := 281
abbrev n_P_outbox_Out_wide : FuncId := 282
abbrev n_P_outbox_Out_numbers : FuncId := 283
abbrev n_P_outbox_Out_Body : FuncId := 284
abbrev n_P_inbox_In_is : FuncId := 285
abbrev n_P_inbox_In_take : FuncId := 286
abbrev n_P_inbox_In_next : FuncId := 287
abbrev n_dirty_bitmap_mask : FuncId := 288
abbrev n_P_session_Session_Send : FuncId := 289
abbrev n_pack_Bytes : FuncId := 290
abbrev n_P_pack_reader_take : FuncId := 291
abbrev n_P_pack_reader_wide : FuncId := 292
abbrev n_P_pack_reader_off : FuncId := 293
abbrev n_resync_Begin : FuncId := 294
abbrev n_P_resync_Resync_Source : FuncId := 295
abbrev n_P_resync_Resync_step : FuncId := 296
abbrev n_P_table_Table_Remove : FuncId := 297
abbrev n_P_keep_Keep_Tick_1 : FuncId := 298
abbrev n_P_wire_writer_two : FuncId := 299
abbrev n_P_wire_writer_four : FuncId := 300
abbrev n_seal_Put : FuncId := 301
abbrev n_super_Boot : FuncId := 302
abbrev n_slots_Put : FuncId := 303
abbrev n_outbox_New : FuncId := 304
abbrev n_inbox_New : FuncId := 305
abbrev n_P_keep_Keep_is : FuncId := 306
abbrev n_maps_Keys_M_table_key_api_Request_tab_73505b : FuncId := 307
abbrev n_slices_pdqsortOrdered_int : FuncId := 308
abbrev n_math_bits_Len : FuncId := 309
abbrev n_P_plan_Plan_is : FuncId := 310
abbrev n_P_world_World_ends_1 : FuncId := 311
abbrev n_slices_Collect_int : FuncId := 312
abbrev n_maps_Keys_M_int_api_Sector_int_api_Sector_1 : FuncId := 313
abbrev n_data_each_1 : FuncId := 314
abbrev n_P_disk_Disk_has : FuncId := 315
abbrev n_P_register_hunt_find_1 : FuncId := 316
abbrev n_P_register_hunt_find_1_1 : FuncId := 317
abbrev n_P_register_hunt_read : FuncId := 318
abbrev n_P_register_hunt_may : FuncId := 319
abbrev n_span_side_from : FuncId := 320
abbrev n_span_side_to : FuncId := 321
abbrev n_bits_One : FuncId := 322
abbrev n_P_hot_Set_drop : FuncId := 323
abbrev n_bits_in : FuncId := 324
abbrev n_actlog_log_of : FuncId := 325
abbrev n_itree_compare : FuncId := 326
abbrev n_P_itree_node_mend : FuncId := 327
abbrev n_itree_settle : FuncId := 328
abbrev n_span_Holds : FuncId := 329
abbrev n_itree_redLeft : FuncId := 330
abbrev n_itree_turn : FuncId := 331
abbrev n_itree_redRight : FuncId := 332
abbrev n_itree_first : FuncId := 333
abbrev n_itree_behead : FuncId := 334
abbrev n_P_later_Queue_free_1 : FuncId := 335
abbrev n_bits_each_1 : FuncId := 336
abbrev n_bits_Lowest : FuncId := 337
abbrev n_slices_Collect_flight_Write : FuncId := 338
abbrev n_slices_SortFunc_L_flight_Write_flight_Write : FuncId := 339
abbrev n_maps_Values_M_flight_key_flight_Write_a73d10 : FuncId := 340
abbrev n_P_table_Table_Get : FuncId := 341
abbrev n_P_node_Node_flies : FuncId := 342
abbrev n_wait_May_1 : FuncId := 343
abbrev n_wait_Item_over : FuncId := 344
abbrev n_wait_May_2 : FuncId := 345
abbrev n_wait_writes : FuncId := 346
abbrev n_wait_May_3 : FuncId := 347
abbrev n_wait_some_wait_Item : FuncId := 348
abbrev n_wait_May_4 : FuncId := 349
abbrev n_wait_some_api_Span : FuncId := 350
abbrev n_wait_none : FuncId := 351
abbrev n_wait_May_5 : FuncId := 352
abbrev n_wait_May_5_1 : FuncId := 353
abbrev n_wait_May_6 : FuncId := 354
abbrev n_wait_May_6_1 : FuncId := 355
abbrev n_num_get_uint16 : FuncId := 356
abbrev n_seal_sum : FuncId := 357
abbrev n_num_Get32 : FuncId := 358
abbrev n_wire_Good_1 : FuncId := 359
abbrev n_slots_Latest : FuncId := 360
abbrev n_P_outbox_Out_Push : FuncId := 361
abbrev n_num_Put64 : FuncId := 362
abbrev n_num_Put16 : FuncId := 363
abbrev n_num_Get64 : FuncId := 364
abbrev n_resync_greet : FuncId := 365
abbrev n_role_Union : FuncId := 366
abbrev n_meta_Retire : FuncId := 367
abbrev n_plan_New : FuncId := 368
abbrev n_role_Source : FuncId := 369
abbrev n_P_resync_Resync_gives : FuncId := 370
abbrev n_P_resync_Resync_have : FuncId := 371
abbrev n_P_resync_Resync_gets : FuncId := 372
abbrev n_P_resync_Resync_ends : FuncId := 373
abbrev n_num_Put32 : FuncId := 374
abbrev n_super_Boot_1 : FuncId := 375
abbrev n_slots_ring_on : FuncId := 376
abbrev n_slots_ring_latest : FuncId := 377
abbrev n_slots_ring_place : FuncId := 378
abbrev n_seal_Record : FuncId := 379
abbrev n_slices_insertionSortOrdered_int : FuncId := 380
abbrev n_slices_heapSortOrdered_int : FuncId := 381
abbrev n_slices_breakPatternsOrdered_int : FuncId := 382
abbrev n_slices_choosePivotOrdered_int : FuncId := 383
abbrev n_slices_reverseRangeOrdered_int : FuncId := 384
abbrev n_slices_partialInsertionSortOrdered_int : FuncId := 385
abbrev n_cmp_Less_int : FuncId := 386
abbrev n_slices_partitionEqualOrdered_int : FuncId := 387
abbrev n_slices_partitionOrdered_int : FuncId := 388
abbrev n_math_bits_Len32 : FuncId := 389
abbrev n_math_bits_Len64 : FuncId := 390
abbrev n_slices_AppendSeq_L_int_int : FuncId := 391
abbrev n_cmp_Or_int : FuncId := 392
abbrev n_cmp_Compare_int : FuncId := 393
abbrev n_itree_reach : FuncId := 394
abbrev n_itree_flip : FuncId := 395
abbrev n_slices_AppendSeq_L_flight_Write_flight_Write : FuncId := 396
abbrev n_slices_pdqsortCmpFunc_flight_Write : FuncId := 397
abbrev n_crc_Sum : FuncId := 398
abbrev n_num_get_uint32 : FuncId := 399
abbrev n_num_put_uint64 : FuncId := 400
abbrev n_num_put_uint16 : FuncId := 401
abbrev n_num_get_uint64 : FuncId := 402
abbrev n_meta_steps : FuncId := 403
abbrev n_meta_Retire_1 : FuncId := 404
abbrev n_dirty_Put : FuncId := 405
abbrev n_meta_Retire_2 : FuncId := 406
abbrev n_P_plan_Plan_All : FuncId := 407
abbrev n_copying_Give : FuncId := 408
abbrev n_P_plan_Plan_Over : FuncId := 409
abbrev n_P_resync_Resync_end : FuncId := 410
abbrev n_copying_Told : FuncId := 411
abbrev n_P_plan_Plan_Have : FuncId := 412
abbrev n_copying_Put : FuncId := 413
abbrev n_num_put_uint32 : FuncId := 414
abbrev n_slots_ring_good : FuncId := 415
abbrev n_slots_ring_read : FuncId := 416
abbrev n_slices_siftDownOrdered_int : FuncId := 417
abbrev n_slices_nextPowerOfTwo : FuncId := 418
abbrev n_P_slices_xorshift_Next : FuncId := 419
abbrev n_slices_medianAdjacentOrdered_int : FuncId := 420
abbrev n_slices_medianOrdered_int : FuncId := 421
abbrev n_cmp_isNaN_int : FuncId := 422
abbrev n_slices_insertionSortCmpFunc_flight_Write : FuncId := 423
abbrev n_slices_heapSortCmpFunc_flight_Write : FuncId := 424
abbrev n_slices_breakPatternsCmpFunc_flight_Write : FuncId := 425
abbrev n_slices_choosePivotCmpFunc_flight_Write : FuncId := 426
abbrev n_slices_reverseRangeCmpFunc_flight_Write : FuncId := 427
abbrev n_slices_partialInsertionSortCmpFunc_fl_fcfd6c : FuncId := 428
abbrev n_slices_partitionEqualCmpFunc_flight_Write : FuncId := 429
abbrev n_slices_partitionCmpFunc_flight_Write : FuncId := 430
abbrev n_crc_More : FuncId := 431
abbrev n_num_join : FuncId := 432
abbrev n_dirty_bitmap_turn : FuncId := 433
abbrev n_data_Extent : FuncId := 434
abbrev n_dirty_Clear : FuncId := 435
abbrev n_P_plan_Plan_turn : FuncId := 436
abbrev n_P_plan_Plan_drop : FuncId := 437
abbrev n_copying_Put_1 : FuncId := 438
abbrev n_data_SetExtent : FuncId := 439
abbrev n_copying_Put_2 : FuncId := 440
abbrev n_copying_steps : FuncId := 441
abbrev n_seal_Open : FuncId := 442
abbrev n_slices_order2Ordered_int : FuncId := 443
abbrev n_slices_siftDownCmpFunc_flight_Write : FuncId := 444
abbrev n_slices_medianAdjacentCmpFunc_flight_Write : FuncId := 445
abbrev n_slices_medianCmpFunc_flight_Write : FuncId := 446
abbrev n_crc_Step : FuncId := 447
abbrev n_span_Whole : FuncId := 448
abbrev n_bits_Without : FuncId := 449
abbrev n_slices_order2CmpFunc_flight_Write : FuncId := 450
abbrev n_crc_half : FuncId := 451
abbrev n_runtime_boundsError_Error : FuncId := 452
abbrev n_runtime_boundsError_RuntimeError : FuncId := 453
abbrev n_runtime_errorString_Error : FuncId := 454
abbrev n_runtime_errorString_RuntimeError : FuncId := 455
abbrev n_runtime_plainError_Error : FuncId := 456
abbrev n_runtime_plainError_RuntimeError : FuncId := 457
abbrev n_runtime_errorAddressString_Error : FuncId := 458
abbrev n_runtime_errorAddressString_RuntimeError : FuncId := 459
abbrev n_P_runtime_TypeAssertionError_Error : FuncId := 460
abbrev n_P_runtime_TypeAssertionError_RuntimeError : FuncId := 461
abbrev n_P_runtime_PanicNilError_Error : FuncId := 462
abbrev n_P_runtime_PanicNilError_RuntimeError : FuncId := 463
abbrev n_P_internal_abi_Type_Align : FuncId := 464
abbrev n_internal_runtime_maps_unhashableTypeE_d411d0 : FuncId := 465
abbrev n_internal_runtime_maps_unhashableTypeE_88efe4 : FuncId := 466
abbrev n_P_later_Queue_Len : FuncId := 467
abbrev n_api_Errno_Error : FuncId := 468
abbrev n_P_itree_Tree_Height : FuncId := 469
abbrev n_internal_abi_Kind_String : FuncId := 470
abbrev t_unit : TypeId := 0
abbrev t_F023062 : TypeId := 1
abbrev t_int64 : TypeId := 2
abbrev t_int : TypeId := 3
abbrev t_bool : TypeId := 4
abbrev t_uint8 : TypeId := 5
abbrev t_abi_BoundsErrorCode : TypeId := 6
abbrev t_S81e5bf : TypeId := 7
abbrev t_runtime_boundsError : TypeId := 8
abbrev t_string : TypeId := 9
abbrev t_runtime_errorString : TypeId := 10
abbrev t_runtime_plainError : TypeId := 11
abbrev t_uintptr : TypeId := 12
abbrev t_S9bc4a9 : TypeId := 13
abbrev t_runtime_errorAddressString : TypeId := 14
abbrev t_P_runtime_TypeAssertionError : TypeId := 15
abbrev t_P_runtime_PanicNilError : TypeId := 16
abbrev t_P_abi_Type : TypeId := 17
abbrev t_S6875f2 : TypeId := 18
abbrev t_maps_unhashableTypeError : TypeId := 19
abbrev t_interface : TypeId := 20
abbrev t_int32 : TypeId := 21
abbrev t_P_world_World : TypeId := 22
abbrev t_Sd45aba : TypeId := 23
abbrev t_api_Config : TypeId := 24
abbrev t_P_node_Node : TypeId := 25
abbrev t_P_disk_Disk : TypeId := 26
abbrev t_uint64 : TypeId := 27
abbrev t_S9f544f : TypeId := 28
abbrev t_world_side : TypeId := 29
abbrev t_A2_world_side : TypeId := 30
abbrev t_P_net_Net : TypeId := 31
abbrev t_L_world_Event : TypeId := 32
abbrev t_S0a4710 : TypeId := 33
abbrev t_world_World : TypeId := 34
abbrev t_L_P_world_World : TypeId := 35
abbrev t_Fdee340 : TypeId := 36
abbrev t_Feaf0aa : TypeId := 37
abbrev t_F571080 : TypeId := 38
abbrev t_Fa86e39 : TypeId := 39
abbrev t_F403d54 : TypeId := 40
abbrev t_S6c464c : TypeId := 41
abbrev t_api_Span : TypeId := 42
abbrev t_L_uint8 : TypeId := 43
abbrev t_S509171 : TypeId := 44
abbrev t_api_Message : TypeId := 45
abbrev t_Sd14bc3 : TypeId := 46
abbrev t_twainlaw31_Act : TypeId := 47
abbrev t_P_mirror_Mirror : TypeId := 48
abbrev t_P_flight_Flights : TypeId := 49
abbrev t_S092a38 : TypeId := 50
abbrev t_mirror_fleet : TypeId := 51
abbrev t_P_hot_Set : TypeId := 52
abbrev t_P_later_Queue : TypeId := 53
abbrev t_S590152 : TypeId := 54
abbrev t_mirror_Mirror : TypeId := 55
abbrev t_L_P_mirror_Mirror : TypeId := 56
abbrev t_L_api_Message : TypeId := 57
abbrev t_api_Errno : TypeId := 58
abbrev t_bool_L_api_Message_api_Errno : TypeId := 59
abbrev t_F6f239f : TypeId := 60
abbrev t_L_int : TypeId := 61
abbrev t_L_int_L_api_Message_api_Errno : TypeId := 62
abbrev t_F8cf090 : TypeId := 63
abbrev t_L_api_Message_api_Errno : TypeId := 64
abbrev t_F1d31be : TypeId := 65
abbrev t_F661609 : TypeId := 66
abbrev t_L_flight_Write : TypeId := 67
abbrev t_F76d0fb : TypeId := 68
abbrev t_L_api_Span : TypeId := 69
abbrev t_Fa6355e : TypeId := 70
abbrev t_F3d0fc2 : TypeId := 71
abbrev t_F706738 : TypeId := 72
abbrev t_F42507d : TypeId := 73
abbrev t_F3f9b45 : TypeId := 74
abbrev t_S21fe5b : TypeId := 75
abbrev t_api_Request : TypeId := 76
abbrev t_uint32 : TypeId := 77
abbrev t_S9bb876 : TypeId := 78
abbrev t_api_Packet : TypeId := 79
abbrev t_S198b89 : TypeId := 80
abbrev t_twainlaw32_Act : TypeId := 81
abbrev t_P_session_Session : TypeId := 82
abbrev t_P_table_Table : TypeId := 83
abbrev t_P_resync_Resync : TypeId := 84
abbrev t_L_api_Done : TypeId := 85
abbrev t_L_L_uint8 : TypeId := 86
abbrev t_Se763e4 : TypeId := 87
abbrev t_node_run : TypeId := 88
abbrev t_Sf811e2 : TypeId := 89
abbrev t_node_Node : TypeId := 90
abbrev t_L_P_node_Node : TypeId := 91
abbrev t_int_api_Errno : TypeId := 92
abbrev t_F36c8e1 : TypeId := 93
abbrev t_F8a5223 : TypeId := 94
abbrev t_F92c41c : TypeId := 95
abbrev t_F5f1320 : TypeId := 96
abbrev t_Ff30903 : TypeId := 97
abbrev t_Fd21447 : TypeId := 98
abbrev t_F7e60a0 : TypeId := 99
abbrev t_Sfcbb31 : TypeId := 100
abbrev t_twainref34_Act : TypeId := 101
abbrev t_Fddad85 : TypeId := 102
abbrev t_world_Act : TypeId := 103
abbrev t_Fd62afd : TypeId := 104
abbrev t_Fd45046 : TypeId := 105
abbrev t_Facc849 : TypeId := 106
abbrev t_F5df692 : TypeId := 107
abbrev t_F8b804b : TypeId := 108
abbrev t_F0479c6 : TypeId := 109
abbrev t_int_bool : TypeId := 110
abbrev t_F082d87 : TypeId := 111
abbrev t_Fded164 : TypeId := 112
abbrev t_F1318b0 : TypeId := 113
abbrev t_F34708c : TypeId := 114
abbrev t_F545503 : TypeId := 115
abbrev t_F7be17a : TypeId := 116
abbrev t_Ff064e9 : TypeId := 117
abbrev t_F44801b : TypeId := 118
abbrev t_bool_api_Errno : TypeId := 119
abbrev t_F4c64e2 : TypeId := 120
abbrev t_L_history_Op : TypeId := 121
abbrev t_F5b51bf : TypeId := 122
abbrev t_A16_uint8 : TypeId := 123
abbrev t_api_Sector : TypeId := 124
abbrev t_P_world_World_api_Errno : TypeId := 125
abbrev t_F582400 : TypeId := 126
abbrev t_Ff62b47 : TypeId := 127
abbrev t_P_disk_Disk_api_Errno : TypeId := 128
abbrev t_Ffa18c7 : TypeId := 129
abbrev t_P_mirror_Mirror_api_Errno : TypeId := 130
abbrev t_F3dd543 : TypeId := 131
abbrev t_F081862 : TypeId := 132
abbrev t_F2d9935 : TypeId := 133
abbrev t_Fde32d4 : TypeId := 134
abbrev t_Sf37c98 : TypeId := 135
abbrev t_flight_Write : TypeId := 136
abbrev t_flight_Write_bool : TypeId := 137
abbrev t_Fb19ca5 : TypeId := 138
abbrev t_Fb03b3b : TypeId := 139
abbrev t_Fec89a0 : TypeId := 140
abbrev t_F4efc81 : TypeId := 141
abbrev t_F7cd02e : TypeId := 142
abbrev t_Ff1a547 : TypeId := 143
abbrev t_F7e2fbd : TypeId := 144
abbrev t_F0d5626 : TypeId := 145
abbrev t_L_int_api_Errno : TypeId := 146
abbrev t_F814662 : TypeId := 147
abbrev t_F8aabbc : TypeId := 148
abbrev t_Fc5aefb : TypeId := 149
abbrev t_F6d3381 : TypeId := 150
abbrev t_P_node_Node_api_Errno : TypeId := 151
abbrev t_F8906b8 : TypeId := 152
abbrev t_F3a0e6d : TypeId := 153
abbrev t_Fedc8a0 : TypeId := 154
abbrev t_Ff44e58 : TypeId := 155
abbrev t_Fde085a : TypeId := 156
abbrev t_S93f439 : TypeId := 157
abbrev t_session_Got : TypeId := 158
abbrev t_session_Got_L_L_uint8 : TypeId := 159
abbrev t_F46f319 : TypeId := 160
abbrev t_F6d5b2b : TypeId := 161
abbrev t_api_Message_api_Errno : TypeId := 162
abbrev t_Fa7a6b6 : TypeId := 163
abbrev t_F3ed1f8 : TypeId := 164
abbrev t_S0865a2 : TypeId := 165
abbrev t_meta_Meta : TypeId := 166
abbrev t_meta_Meta_api_Errno : TypeId := 167
abbrev t_F4a8af6 : TypeId := 168
abbrev t_P_session_Session_api_Errno : TypeId := 169
abbrev t_F409d2a : TypeId := 170
abbrev t_P_table_Table_api_Errno : TypeId := 171
abbrev t_F18d6b8 : TypeId := 172
abbrev t_P_world_side : TypeId := 173
abbrev t_F2dfe8c : TypeId := 174
abbrev t_Fbbb681 : TypeId := 175
abbrev t_F2f9ee3 : TypeId := 176
abbrev t_L_uint8_api_Errno : TypeId := 177
abbrev t_Fef5dc7 : TypeId := 178
abbrev t_Fc49923 : TypeId := 179
abbrev t_F49ae56 : TypeId := 180
abbrev t_F9c4d89 : TypeId := 181
abbrev t_F796ac1 : TypeId := 182
abbrev t_S71e5a8 : TypeId := 183
abbrev t_world_Event : TypeId := 184
abbrev t_Ffc270a : TypeId := 185
abbrev t_F1aae77 : TypeId := 186
abbrev t_F200dff : TypeId := 187
abbrev t_Fa1a336 : TypeId := 188
abbrev t_F6e517c : TypeId := 189
abbrev t_F88742f : TypeId := 190
abbrev t_F6a43c0 : TypeId := 191
abbrev t_M_history_key_int : TypeId := 192
abbrev t_M_int_int : TypeId := 193
abbrev t_Sa52f72 : TypeId := 194
abbrev t_history_pairs : TypeId := 195
abbrev t_F2dcf0b : TypeId := 196
abbrev t_Faffc74 : TypeId := 197
abbrev t_Fb8aae0 : TypeId := 198
abbrev t_F4fc6c9 : TypeId := 199
abbrev t_L_int_bool : TypeId := 200
abbrev t_F9ec66d : TypeId := 201
abbrev t_Fac7918 : TypeId := 202
abbrev t_S14c6fa : TypeId := 203
abbrev t_history_Op : TypeId := 204
abbrev t_F957d7b : TypeId := 205
abbrev t_A6_string : TypeId := 206
abbrev t_L_api_Sector : TypeId := 207
abbrev t_M_int_api_Sector : TypeId := 208
abbrev t_S968285 : TypeId := 209
abbrev t_disk_Disk : TypeId := 210
abbrev t_P_hot_Set_api_Errno : TypeId := 211
abbrev t_F223c1f : TypeId := 212
abbrev t_F279afe : TypeId := 213
abbrev t_F3f7f15 : TypeId := 214
abbrev t_P_itree_Tree : TypeId := 215
abbrev t_M_flight_key_flight_Write : TypeId := 216
abbrev t_S4e8ea8 : TypeId := 217
abbrev t_flight_Flights : TypeId := 218
abbrev t_S091167 : TypeId := 219
abbrev t_flight_key : TypeId := 220
abbrev t_F942b3b : TypeId := 221
abbrev t_F0a4ec8 : TypeId := 222
abbrev t_bool_bool : TypeId := 223
abbrev t_F7f7cbb : TypeId := 224
abbrev t_F31ffbf : TypeId := 225
abbrev t_F275e95 : TypeId := 226
abbrev t_F63b482 : TypeId := 227
abbrev t_S9f4f6e : TypeId := 228
abbrev t_pack_shape : TypeId := 229
abbrev t_pack_shape_bool : TypeId := 230
abbrev t_F15f4e4 : TypeId := 231
abbrev t_F090002 : TypeId := 232
abbrev t_F73b40e : TypeId := 233
abbrev t_L_clash_Own : TypeId := 234
abbrev t_Fc41f3b : TypeId := 235
abbrev t_Sbf2364 : TypeId := 236
abbrev t_later_Write : TypeId := 237
abbrev t_later_Write_bool : TypeId := 238
abbrev t_Fa1c75d : TypeId := 239
abbrev t_F135362 : TypeId := 240
abbrev t_S241e22 : TypeId := 241
abbrev t_hot_Set : TypeId := 242
abbrev t_L_later_Write : TypeId := 243
abbrev t_S82af62 : TypeId := 244
abbrev t_later_Queue : TypeId := 245
abbrev t_F1528c2 : TypeId := 246
abbrev t_F8ff75d : TypeId := 247
abbrev t_uint : TypeId := 248
abbrev t_P_outbox_Out : TypeId := 249
abbrev t_P_inbox_In : TypeId := 250
abbrev t_S786427 : TypeId := 251
abbrev t_session_boxes : TypeId := 252
abbrev t_P_keep_Keep : TypeId := 253
abbrev t_Sfc5b81 : TypeId := 254
abbrev t_session_Session : TypeId := 255
abbrev t_M_table_key_api_Request : TypeId := 256
abbrev t_Sa8ff58 : TypeId := 257
abbrev t_table_Table : TypeId := 258
abbrev t_api_Request_bool : TypeId := 259
abbrev t_S091167_2 : TypeId := 260
abbrev t_table_key : TypeId := 261
abbrev t_Fc6bc86 : TypeId := 262
abbrev t_P_api_Errno : TypeId := 263
abbrev t_api_Packet_api_Errno : TypeId := 264
abbrev t_F3d4c44 : TypeId := 265
abbrev t_F354c29 : TypeId := 266
abbrev t_Fcf128d : TypeId := 267
abbrev t_Fa03aeb : TypeId := 268
abbrev t_F43d239 : TypeId := 269
abbrev t_F939945 : TypeId := 270
abbrev t_Fab6be2 : TypeId := 271
abbrev t_F89728b : TypeId := 272
abbrev t_F04b80b : TypeId := 273
abbrev t_P_pack_reader : TypeId := 274
abbrev t_S4cbe79 : TypeId := 275
abbrev t_pack_reader : TypeId := 276
abbrev t_F3fd8c0 : TypeId := 277
abbrev t_api_Message_bool : TypeId := 278
abbrev t_Fcc8790 : TypeId := 279
abbrev t_F36fe5e : TypeId := 280
abbrev t_Fdfa9a8 : TypeId := 281
abbrev t_uint32_api_Errno : TypeId := 282
abbrev t_F39441d : TypeId := 283
abbrev t_F3b2c39 : TypeId := 284
abbrev t_session_boxes_api_Errno : TypeId := 285
abbrev t_F8acf65 : TypeId := 286
abbrev t_P_keep_Keep_api_Errno : TypeId := 287
abbrev t_F604653 : TypeId := 288
abbrev t_F909caf : TypeId := 289
abbrev t_iter_Seq_table_key : TypeId := 290
abbrev t_F02a4bd : TypeId := 291
abbrev t_F0fac16 : TypeId := 292
abbrev t_P_plan_Plan : TypeId := 293
abbrev t_Scef9f4 : TypeId := 294
abbrev t_resync_Resync : TypeId := 295
abbrev t_F3e0cd6 : TypeId := 296
abbrev t_F02501d : TypeId := 297
abbrev t_iter_Seq_world_Event : TypeId := 298
abbrev t_F80928c : TypeId := 299
abbrev t_Fa4806e : TypeId := 300
abbrev t_A2_L_L_uint8 : TypeId := 301
abbrev t_Sfbc761 : TypeId := 302
abbrev t_net_Net : TypeId := 303
abbrev t_F8265ce : TypeId := 304
abbrev t_F24225d : TypeId := 305
abbrev t_iter_Seq_int : TypeId := 306
abbrev t_F44ec72 : TypeId := 307
abbrev t_Sf72a03 : TypeId := 308
abbrev t_history_key : TypeId := 309
abbrev t_F64aacc : TypeId := 310
abbrev t_F5bef43 : TypeId := 311
abbrev t_F7e62a4 : TypeId := 312
abbrev t_Fed35bc : TypeId := 313
abbrev t_F30b9f7 : TypeId := 314
abbrev t_iter_Seq2_int_int : TypeId := 315
abbrev t_F86126d : TypeId := 316
abbrev t_api_Sector_api_Errno : TypeId := 317
abbrev t_Fb03d5a : TypeId := 318
abbrev t_P_register_hunt : TypeId := 319
abbrev t_F23a7d2 : TypeId := 320
abbrev t_F09bf95 : TypeId := 321
abbrev t_api_Span_bool : TypeId := 322
abbrev t_Fa95473 : TypeId := 323
abbrev t_F584795 : TypeId := 324
abbrev t_Fd194b8 : TypeId := 325
abbrev t_F2ee6c3 : TypeId := 326
abbrev t_Fc8b754 : TypeId := 327
abbrev t_F8e2c9a : TypeId := 328
abbrev t_F956b74 : TypeId := 329
abbrev t_F82ab86 : TypeId := 330
abbrev t_Sc1ba45 : TypeId := 331
abbrev t_actlog_log : TypeId := 332
abbrev t_Fa05e6f : TypeId := 333
abbrev t_Fe16a4e : TypeId := 334
abbrev t_S09a407 : TypeId := 335
abbrev t_itree_entry : TypeId := 336
abbrev t_F519187 : TypeId := 337
abbrev t_P_itree_node : TypeId := 338
abbrev t_F39e038 : TypeId := 339
abbrev t_S523343 : TypeId := 340
abbrev t_itree_Tree : TypeId := 341
abbrev t_A2_P_itree_node : TypeId := 342
abbrev t_Sac96b0 : TypeId := 343
abbrev t_itree_node : TypeId := 344
abbrev t_A9_pack_shape : TypeId := 345
abbrev t_F4ec8f3 : TypeId := 346
abbrev t_F4ef3d2 : TypeId := 347
abbrev t_S8a9a10 : TypeId := 348
abbrev t_clash_Own : TypeId := 349
abbrev t_F1e6507 : TypeId := 350
abbrev t_Fc673cd : TypeId := 351
abbrev t_F7322e0 : TypeId := 352
abbrev t_F2e269c : TypeId := 353
abbrev t_F2c61a8 : TypeId := 354
abbrev t_iter_Seq_flight_Write : TypeId := 355
abbrev t_F839299 : TypeId := 356
abbrev t_Ff39362 : TypeId := 357
abbrev t_F774292 : TypeId := 358
abbrev t_Fad9908 : TypeId := 359
abbrev t_S960bb9 : TypeId := 360
abbrev t_request_limit : TypeId := 361
abbrev t_A5_request_limit : TypeId := 362
abbrev t_S01ecbc : TypeId := 363
abbrev t_outbox_Out : TypeId := 364
abbrev t_L_wait_Item : TypeId := 365
abbrev t_L_wait_Item_L_wait_Item : TypeId := 366
abbrev t_F25d121 : TypeId := 367
abbrev t_F2861a2 : TypeId := 368
abbrev t_F16a911 : TypeId := 369
abbrev t_F3dbb40 : TypeId := 370
abbrev t_S384532 : TypeId := 371
abbrev t_wait_Item : TypeId := 372
abbrev t_F6cf26f : TypeId := 373
abbrev t_Fbc7ec4 : TypeId := 374
abbrev t_Fc45d21 : TypeId := 375
abbrev t_F77ae63 : TypeId := 376
abbrev t_F960b1e : TypeId := 377
abbrev t_L_uint8_bool : TypeId := 378
abbrev t_Ff888f0 : TypeId := 379
abbrev t_F7d78ee : TypeId := 380
abbrev t_Sefa627 : TypeId := 381
abbrev t_dirty_bitmap : TypeId := 382
abbrev t_F1587d7 : TypeId := 383
abbrev t_F96fdbc : TypeId := 384
abbrev t_P_resync_Resync_L_api_Message_api_Errno : TypeId := 385
abbrev t_Fe8cfec : TypeId := 386
abbrev t_Fc5264a : TypeId := 387
abbrev t_resync_step : TypeId := 388
abbrev t_F00bb52 : TypeId := 389
abbrev t_S1c0402 : TypeId := 390
abbrev t_api_Done : TypeId := 391
abbrev t_P_wire_writer : TypeId := 392
abbrev t_S124825 : TypeId := 393
abbrev t_wire_writer : TypeId := 394
abbrev t_A2_int : TypeId := 395
abbrev t_F8b6434 : TypeId := 396
abbrev t_F578713 : TypeId := 397
abbrev t_P_outbox_Out_api_Errno : TypeId := 398
abbrev t_Fc8540f : TypeId := 399
abbrev t_Fbe774e : TypeId := 400
abbrev t_S4729f8 : TypeId := 401
abbrev t_keep_Keep : TypeId := 402
abbrev t_F0708b9 : TypeId := 403
abbrev t_Fa08cd7 : TypeId := 404
abbrev t_F081320 : TypeId := 405
abbrev t_A2_uint64 : TypeId := 406
abbrev t_S6e1fb2 : TypeId := 407
abbrev t_plan_Plan : TypeId := 408
abbrev t_F1dba0a : TypeId := 409
abbrev t_api_Sector_bool : TypeId := 410
abbrev t_M_register_state_bool : TypeId := 411
abbrev t_L_uint64 : TypeId := 412
abbrev t_S01a35e : TypeId := 413
abbrev t_register_hunt : TypeId := 414
abbrev t_Fd15f66 : TypeId := 415
abbrev t_S27ceea : TypeId := 416
abbrev t_register_state : TypeId := 417
abbrev t_Fe2cb18 : TypeId := 418
abbrev t_Fdc1ba3 : TypeId := 419
abbrev t_F831f84 : TypeId := 420
abbrev t_S018a90 : TypeId := 421
abbrev t_span_side : TypeId := 422
abbrev t_F6e3454 : TypeId := 423
abbrev t_A6_uint64 : TypeId := 424
abbrev t_F75df95 : TypeId := 425
abbrev t_Fa2a859 : TypeId := 426
abbrev t_uint32_uint64 : TypeId := 427
abbrev t_F8b1eed : TypeId := 428
abbrev t_F6f8c08 : TypeId := 429
abbrev t_F732369 : TypeId := 430
abbrev t_Fd916bd : TypeId := 431
abbrev t_F9bd39e : TypeId := 432
abbrev t_F482e96 : TypeId := 433
abbrev t_F54d50d : TypeId := 434
abbrev t_Fa8152a : TypeId := 435
abbrev t_F0da72b : TypeId := 436
abbrev t_F947416 : TypeId := 437
abbrev t_F31bf03 : TypeId := 438
abbrev t_F7ff741 : TypeId := 439
abbrev t_uint16 : TypeId := 440
abbrev t_uint16_bool : TypeId := 441
abbrev t_F46abdf : TypeId := 442
abbrev t_A4_uint8 : TypeId := 443
abbrev t_Fe09e81 : TypeId := 444
abbrev t_uint32_bool : TypeId := 445
abbrev t_F590840 : TypeId := 446
abbrev t_Se89774 : TypeId := 447
abbrev t_inbox_In : TypeId := 448
abbrev t_F10e0bd : TypeId := 449
abbrev t_F8790d8 : TypeId := 450
abbrev t_F7b7337 : TypeId := 451
abbrev t_uint64_bool : TypeId := 452
abbrev t_F5c08af : TypeId := 453
abbrev t_Ff1d2c1 : TypeId := 454
abbrev t_Ff38c0d : TypeId := 455
abbrev t_F5a0726 : TypeId := 456
abbrev t_F077268 : TypeId := 457
abbrev t_Fd53837 : TypeId := 458
abbrev t_Sc1ba45_2 : TypeId := 459
abbrev t_slots_ring : TypeId := 460
abbrev t_F9ecc72 : TypeId := 461
abbrev t_S75fa14 : TypeId := 462
abbrev t_slots_entry : TypeId := 463
abbrev t_Fa6bbeb : TypeId := 464
abbrev t_F6b0bc9 : TypeId := 465
abbrev t_Fbf61a3 : TypeId := 466
abbrev t_F3dd160 : TypeId := 467
abbrev t_slices_sortedHint : TypeId := 468
abbrev t_int_slices_sortedHint : TypeId := 469
abbrev t_F4b8bde : TypeId := 470
abbrev t_Fc472ce : TypeId := 471
abbrev t_Faebc61 : TypeId := 472
abbrev t_Fe4690b : TypeId := 473
abbrev t_F9c5c99 : TypeId := 474
abbrev t_F5bd11e : TypeId := 475
abbrev t_F6713fc : TypeId := 476
abbrev t_F299e74 : TypeId := 477
abbrev t_F20ae56 : TypeId := 478
abbrev t_F7b935f : TypeId := 479
abbrev t_L_func_bool : TypeId := 480
abbrev t_F3ee5a2 : TypeId := 481
abbrev t_Fafe9a1 : TypeId := 482
abbrev t_F740fec : TypeId := 483
abbrev t_Fffc544 : TypeId := 484
abbrev t_Fd18904 : TypeId := 485
abbrev t_Ff19fc6 : TypeId := 486
abbrev t_A2_bool : TypeId := 487
abbrev t_F6bed18 : TypeId := 488
abbrev t_Fc99c6e : TypeId := 489
abbrev t_uint64_api_Errno : TypeId := 490
abbrev t_F2749e4 : TypeId := 491
abbrev t_F61f08a : TypeId := 492
abbrev t_F92a3bd : TypeId := 493
abbrev t_Fdb4a94 : TypeId := 494
abbrev t_slices_xorshift : TypeId := 495
abbrev t_F1a8706 : TypeId := 496
abbrev t_F875ee2 : TypeId := 497
abbrev t_P_int : TypeId := 498
abbrev t_F48b247 : TypeId := 499
abbrev t_Fd0621a : TypeId := 500
abbrev t_Fb314c0 : TypeId := 501
abbrev t_F303e6b : TypeId := 502
abbrev t_F354763 : TypeId := 503
abbrev t_F8a33ad : TypeId := 504
abbrev t_Fb92bf1 : TypeId := 505
abbrev t_F0a10e3 : TypeId := 506
abbrev t_L_func_api_Errno : TypeId := 507
abbrev t_Fc03fde : TypeId := 508
abbrev t_F279a97 : TypeId := 509
abbrev t_Fe57b6a : TypeId := 510
abbrev t_F15b1ef : TypeId := 511
abbrev t_F83ad57 : TypeId := 512
abbrev t_uint32_uint64_bool : TypeId := 513
abbrev t_F81f65d : TypeId := 514
abbrev t_P_slices_xorshift : TypeId := 515
abbrev t_int_int : TypeId := 516
abbrev t_Fdfd78f : TypeId := 517
abbrev t_F9cbb83 : TypeId := 518
abbrev t_Fc099cc : TypeId := 519
abbrev t_F6136f8 : TypeId := 520
abbrev t_F1797d6 : TypeId := 521
abbrev t_F2a5057 : TypeId := 522
abbrev t_F23c5bf : TypeId := 523
abbrev t_A16_uint32 : TypeId := 524
abbrev t_F6c6759 : TypeId := 525
abbrev t_S6911b8 : TypeId := 526
abbrev t_runtime_TypeAssertionError : TypeId := 527
abbrev t_A0_P_runtime_PanicNilError : TypeId := 528
abbrev t_S674f3b : TypeId := 529
abbrev t_runtime_PanicNilError : TypeId := 530
abbrev t_abi_TFlag : TypeId := 531
abbrev t_abi_Kind : TypeId := 532
abbrev t_F0a8967 : TypeId := 533
abbrev t_P_uint8 : TypeId := 534
abbrev t_abi_NameOff : TypeId := 535
abbrev t_abi_TypeOff : TypeId := 536
abbrev t_Scd6355 : TypeId := 537
abbrev t_abi_Type : TypeId := 538
abbrev t_unsafe_Pointer : TypeId := 539
namespace twainlaw39_AuditNone
noncomputable def j1 (C : Am.Callee) (L : Loops) (n0 : Nat) (t0 t9 t10 t11 t22 : Value) (s : AS) : Option (AEx × List Value × AS) :=
bcase t22 (
some (AEx.ret, [t0, .bool false, t9, t10, t11], s)) (
some (AEx.normal, [t0, unk, t9, t10, t11], s))
noncomputable def j2 (C : Am.Callee) (L : Loops) (n0 : Nat) (t0 t9 t10 t11 : Value) (s : AS) : Option ((List Value × AS) ⊕ (AEx × List Value × AS)) :=
(aBin PP .add t_int (.tmp 11) (.const (.int .i64 1)) t11 (.int .i64 1)).bind fun x14 =>
some (.inl ([t0, t9, t10, x14], s))
noncomputable def loop3 (C : Am.Callee) (L : Loops) (n0 : Nat) (t0 t9 t10 t11 : Value) (s : AS) : Option ((List Value × AS) ⊕ (AEx × List Value × AS)) :=
(aBin PP .lss t_int (.tmp 11) (.tmp 10) t11 t10).bind fun x5 =>
bcase x5 (
((aIndexAddr PP t_L_P_world_World t9 t11).bind fun x6 =>
(aLoad false 1 s x6).bind fun x7 =>
((C n_audit_Check [x7] s.H).bind fun r8 =>
(aBin PP .neq t_int (.tmp 16) (.const (.int .i64 1)) r8.1 (.int .i64 1)).bind fun x9 =>
bcase x9 (
some (AEx.normal, [t0, t9, t10, t11, .bool true], AS.mk r8.2.1 (joinEsc s.esc r8.2.2))) (
(C n_audit_Alike [x7] (AS.mk r8.2.1 (joinEsc s.esc r8.2.2)).H).bind fun r10 =>
(aUn PP .not r10.1).bind fun x11 =>
some (AEx.normal, [t0, t9, t10, t11, x11], AS.mk r10.2.1 (joinEsc (AS.mk r8.2.1 (joinEsc s.esc r8.2.2)).esc r10.2.2)))).bind fun r12 =>
match r12.1 with
| .normal => j1 C L n0 ((r12.2.1.getD 0 unk)) ((r12.2.1.getD 1 unk)) ((r12.2.1.getD 2 unk)) ((r12.2.1.getD 3 unk)) ((r12.2.1.getD 4 unk)) r12.2.2
| .exit i => if i = 1 then some (AEx.normal, [(r12.2.1.getD 0 unk), unk, (r12.2.1.getD 1 unk), (r12.2.1.getD 2 unk), (r12.2.1.getD 3 unk)], r12.2.2) else some (AEx.exit i, [(r12.2.1.getD 0 unk), unk, (r12.2.1.getD 1 unk), (r12.2.1.getD 2 unk), (r12.2.1.getD 3 unk)], r12.2.2)
| .ret => some (AEx.ret, [(r12.2.1.getD 0 unk), unk, (r12.2.1.getD 1 unk), (r12.2.1.getD 2 unk), (r12.2.1.getD 3 unk)], r12.2.2)).bind fun r13 =>
match r13.1 with
| .normal => j2 C L n0 ((r13.2.1.getD 0 unk)) ((r13.2.1.getD 2 unk)) ((r13.2.1.getD 3 unk)) ((r13.2.1.getD 4 unk)) r13.2.2
| .exit i => some (.inr (.exit i, [(r13.2.1.getD 0 unk), (r13.2.1.getD 1 unk)], r13.2.2))
| .ret => some (.inr (.ret, [(r13.2.1.getD 0 unk), (r13.2.1.getD 1 unk)], r13.2.2))) (
some (.inr (.exit 0, [t0, unk], s)))
noncomputable def loop3s (C : Am.Callee) (L : Loops) (n0 : Nat) : List Value × AS → Option ((List Value × AS) ⊕ (AEx × List Value × AS)) := fun s => loop3 C L n0 (s.1.getD 0 unk) (s.1.getD 1 unk) (s.1.getD 2 unk) (s.1.getD 3 unk) s.2
noncomputable def j4 (C : Am.Callee) (L : Loops) (n0 : Nat) (t0 : Value) (s : AS) : Option (Value × List Blk × Option Nat) :=
(C n_audit_Linear [.slice none 0 0, t0] s.H).bind fun r17 =>
bcase r17.1 (
(C n_twainlaw39_lives [] (AS.mk r17.2.1 (joinEsc s.esc r17.2.2)).H).bind fun r18 =>
fin PP false n0 [r18.1] (AS.mk r18.2.1 (joinEsc (AS.mk r17.2.1 (joinEsc s.esc r17.2.2)).esc r18.2.2))) (
fin PP false n0 [.bool false] (AS.mk r17.2.1 (joinEsc s.esc r17.2.2)))
noncomputable def sh (C : Am.Callee) (L : Loops) (n0 : Nat) (t0 : Value) (s : AS) : Option (Value × List Blk × Option Nat) :=
(aBuild PP t_world_World []).bind fun x1 =>
(aBox t_world_World x1 s).bind fun r2 =>
(bsl PP t_L_P_world_World 2 [0, 1] [.pointer none, r2.1] r2.2).bind fun r3 =>
((aLen PP t_L_P_world_World r3.1 r3.2).bind fun x4 =>
(L n0 (loop3s C L n0) ([t0, r3.1, x4, .int .i64 0], r3.2)).bind fun r15 =>
match r15.1 with
| .normal => some (AEx.normal, [(r15.2.1.getD 0 unk), (r15.2.1.getD 1 unk)], r15.2.2)
| .exit i => if i = 0 then some (AEx.normal, [(r15.2.1.getD 0 unk), (r15.2.1.getD 1 unk)], r15.2.2) else some (AEx.exit i, [(r15.2.1.getD 0 unk), (r15.2.1.getD 1 unk)], r15.2.2)
| .ret => some (AEx.ret, [(r15.2.1.getD 0 unk), (r15.2.1.getD 1 unk)], r15.2.2)).bind fun r16 =>
match r16.1 with
| .normal => j4 C L n0 ((r16.2.1.getD 0 unk)) r16.2.2
| .exit i => none
| .ret => fin PP false n0 [(r16.2.1.getD 1 unk)] r16.2.2
def T : Tab := ⟨fun i => if i = 3 then some [0, 9, 10, 11] else none, fun i => if i = 3 then some [0, 2] else none, false, fun i => if i = 6 then some [0, 9, 10, 11, 22] else if i = 7 then some [0, 2, 9, 10, 11] else if i = 8 then some [0, 2] else none, fun _ => false, false, false, fun _ => false, 3⟩
end twainlaw39_AuditNone
namespace audit_Check
noncomputable def j0 (C : Am.Callee) (L : Loops) (n0 : Nat) (t1 t3 t18 : Value) (s : AS) : Option (AEx × List Value × AS) :=
bcase t18 (
some (AEx.ret, [.int .i64 4], s)) (
(aLoad false 1 s t1).bind fun x16 =>
(C n_P_world_World_Config [x16] s.H).bind fun r17 =>
(pureRun PP (Instr.field t_api_Config r17.1 0)).bind fun x18 =>
(C n_audit_Linear [t3, x18] (AS.mk r17.2.1 (joinEsc s.esc r17.2.2)).H).bind fun r19 =>
(aUn PP .not r19.1).bind fun x20 =>
bcase x20 (
some (AEx.ret, [.int .i64 5], AS.mk r19.2.1 (joinEsc (AS.mk r17.2.1 (joinEsc s.esc r17.2.2)).esc r19.2.2))) (
some (AEx.normal, [unk], AS.mk r19.2.1 (joinEsc (AS.mk r17.2.1 (joinEsc s.esc r17.2.2)).esc r19.2.2))))
noncomputable def j1 (C : Am.Callee) (L : Loops) (n0 : Nat) (s : AS) : Option (Value × List Blk × Option Nat) :=
fin PP false n0 [.int .i64 0] s
noncomputable def sh (C : Am.Callee) (L : Loops) (n0 : Nat) (t0 : Value) (s : AS) : Option (Value × List Blk × Option Nat) :=
(aBox t_P_world_World t0 s).bind fun r1 =>
(aLoad false 1 r1.2 r1.1).bind fun x2 =>
(C n_P_world_World_Net [x2] r1.2.H).bind fun r3 =>
(aBin PP .eql t_P_net_Net (.tmp 5) (.const (.pointer none)) r3.1 (.pointer none)).bind fun x4 =>
bcase x4 (
fin PP false n0 [.int .i64 1] (AS.mk r3.2.1 (joinEsc r1.2.esc r3.2.2))) (
(aLoad false 1 (AS.mk r3.2.1 (joinEsc r1.2.esc r3.2.2)) r1.1).bind fun x5 =>
(C n_P_world_World_Events [x5] (AS.mk r3.2.1 (joinEsc r1.2.esc r3.2.2)).H).bind fun r6 =>
((C n_audit_each [.func (.func n_audit_Check_1) (#[]) (#[r1.1])] (AS.mk r6.2.1 (joinEsc (AS.mk r3.2.1 (joinEsc r1.2.esc r3.2.2)).esc r6.2.2)).H).bind fun r7 =>
bcase r7.1 (
some (AEx.ret, [.int .i64 1], AS.mk r7.2.1 (joinEsc (AS.mk r6.2.1 (joinEsc (AS.mk r3.2.1 (joinEsc r1.2.esc r3.2.2)).esc r6.2.2)).esc r7.2.2))) (
(C n_history_Odd [r6.1] (AS.mk r7.2.1 (joinEsc (AS.mk r6.2.1 (joinEsc (AS.mk r3.2.1 (joinEsc r1.2.esc r3.2.2)).esc r6.2.2)).esc r7.2.2)).H).bind fun r8 =>
bcase r8.1 (
some (AEx.ret, [.int .i64 2], AS.mk r8.2.1 (joinEsc (AS.mk r7.2.1 (joinEsc (AS.mk r6.2.1 (joinEsc (AS.mk r3.2.1 (joinEsc r1.2.esc r3.2.2)).esc r6.2.2)).esc r7.2.2)).esc r8.2.2))) (
(C n_audit_each [.func (.func n_audit_Check_2) (#[]) (#[r1.1])] (AS.mk r8.2.1 (joinEsc (AS.mk r7.2.1 (joinEsc (AS.mk r6.2.1 (joinEsc (AS.mk r3.2.1 (joinEsc r1.2.esc r3.2.2)).esc r6.2.2)).esc r7.2.2)).esc r8.2.2)).H).bind fun r9 =>
bcase r9.1 (
some (AEx.ret, [.int .i64 3], AS.mk r9.2.1 (joinEsc (AS.mk r8.2.1 (joinEsc (AS.mk r7.2.1 (joinEsc (AS.mk r6.2.1 (joinEsc (AS.mk r3.2.1 (joinEsc r1.2.esc r3.2.2)).esc r6.2.2)).esc r7.2.2)).esc r8.2.2)).esc r9.2.2))) (
((aLoad false 1 (AS.mk r9.2.1 (joinEsc (AS.mk r8.2.1 (joinEsc (AS.mk r7.2.1 (joinEsc (AS.mk r6.2.1 (joinEsc (AS.mk r3.2.1 (joinEsc r1.2.esc r3.2.2)).esc r6.2.2)).esc r7.2.2)).esc r8.2.2)).esc r9.2.2)) r1.1).bind fun x10 =>
(C n_fair_Quiet [x10] (AS.mk r9.2.1 (joinEsc (AS.mk r8.2.1 (joinEsc (AS.mk r7.2.1 (joinEsc (AS.mk r6.2.1 (joinEsc (AS.mk r3.2.1 (joinEsc r1.2.esc r3.2.2)).esc r6.2.2)).esc r7.2.2)).esc r8.2.2)).esc r9.2.2)).H).bind fun r11 =>
bcase r11.1 (
(aLoad false 1 (AS.mk r11.2.1 (joinEsc (AS.mk r9.2.1 (joinEsc (AS.mk r8.2.1 (joinEsc (AS.mk r7.2.1 (joinEsc (AS.mk r6.2.1 (joinEsc (AS.mk r3.2.1 (joinEsc r1.2.esc r3.2.2)).esc r6.2.2)).esc r7.2.2)).esc r8.2.2)).esc r9.2.2)).esc r11.2.2)) r1.1).bind fun x12 =>
(C n_audit_Alike [x12] (AS.mk r11.2.1 (joinEsc (AS.mk r9.2.1 (joinEsc (AS.mk r8.2.1 (joinEsc (AS.mk r7.2.1 (joinEsc (AS.mk r6.2.1 (joinEsc (AS.mk r3.2.1 (joinEsc r1.2.esc r3.2.2)).esc r6.2.2)).esc r7.2.2)).esc r8.2.2)).esc r9.2.2)).esc r11.2.2)).H).bind fun r13 =>
(aUn PP .not r13.1).bind fun x14 =>
some (AEx.normal, [r1.1, r6.1, x14], AS.mk r13.2.1 (joinEsc (AS.mk r11.2.1 (joinEsc (AS.mk r9.2.1 (joinEsc (AS.mk r8.2.1 (joinEsc (AS.mk r7.2.1 (joinEsc (AS.mk r6.2.1 (joinEsc (AS.mk r3.2.1 (joinEsc r1.2.esc r3.2.2)).esc r6.2.2)).esc r7.2.2)).esc r8.2.2)).esc r9.2.2)).esc r11.2.2)).esc r13.2.2))) (
some (AEx.normal, [r1.1, r6.1, .bool false], AS.mk r11.2.1 (joinEsc (AS.mk r9.2.1 (joinEsc (AS.mk r8.2.1 (joinEsc (AS.mk r7.2.1 (joinEsc (AS.mk r6.2.1 (joinEsc (AS.mk r3.2.1 (joinEsc r1.2.esc r3.2.2)).esc r6.2.2)).esc r7.2.2)).esc r8.2.2)).esc r9.2.2)).esc r11.2.2)))).bind fun r15 =>
match r15.1 with
| .normal => j0 C L n0 ((r15.2.1.getD 0 unk)) ((r15.2.1.getD 1 unk)) ((r15.2.1.getD 2 unk)) r15.2.2
| .exit i => if i = 0 then some (AEx.normal, [unk], r15.2.2) else some (AEx.exit i, [unk], r15.2.2)
| .ret => some (AEx.ret, [unk], r15.2.2))))).bind fun r21 =>
match r21.1 with
| .normal => j1 C L n0  r21.2.2
| .exit i => none
| .ret => fin PP false n0 [(r21.2.1.getD 0 unk)] r21.2.2)
def T : Tab := ⟨fun i => none, fun i => none, false, fun i => if i = 11 then some [1, 3, 18] else if i = 14 then some [2] else none, fun _ => false, false, false, fun _ => false, 8⟩
end audit_Check
namespace audit_Alike
noncomputable def sh (C : Am.Callee) (L : Loops) (n0 : Nat) (t0 : Value) (s : AS) : Option (Value × List Blk × Option Nat) :=
(C n_P_world_World_Disk [t0, .int .i64 0] s.H).bind fun r1 =>
(C n_data_Image [r1.1] (AS.mk r1.2.1 (joinEsc s.esc r1.2.2)).H).bind fun r2 =>
(C n_P_world_World_Disk [t0, .int .i64 1] (AS.mk r2.2.1 (joinEsc (AS.mk r1.2.1 (joinEsc s.esc r1.2.2)).esc r2.2.2)).H).bind fun r3 =>
(C n_data_Image [r3.1] (AS.mk r3.2.1 (joinEsc (AS.mk r2.2.1 (joinEsc (AS.mk r1.2.1 (joinEsc s.esc r1.2.2)).esc r2.2.2)).esc r3.2.2)).H).bind fun r4 =>
(C n_bytes_Equal [r2.1, r4.1] (AS.mk r4.2.1 (joinEsc (AS.mk r3.2.1 (joinEsc (AS.mk r2.2.1 (joinEsc (AS.mk r1.2.1 (joinEsc s.esc r1.2.2)).esc r2.2.2)).esc r3.2.2)).esc r4.2.2)).H).bind fun r5 =>
fin PP false n0 [r5.1] (AS.mk r5.2.1 (joinEsc (AS.mk r4.2.1 (joinEsc (AS.mk r3.2.1 (joinEsc (AS.mk r2.2.1 (joinEsc (AS.mk r1.2.1 (joinEsc s.esc r1.2.2)).esc r2.2.2)).esc r3.2.2)).esc r4.2.2)).esc r5.2.2))
def T : Tab := ⟨fun i => none, fun i => none, false, fun i => none, fun _ => false, false, false, fun _ => false, 9⟩
end audit_Alike
namespace audit_Linear
noncomputable def j1 (C : Am.Callee) (L : Loops) (n0 : Nat) (t0 t9 t10 t26 : Value) (s : AS) : Option (AEx × List Value × AS) :=
bcase t26 (
some (AEx.ret, [t0, .bool false, t9, t10], s)) (
some (AEx.normal, [t0, unk, t9, t10], s))
noncomputable def j2 (C : Am.Callee) (L : Loops) (n0 : Nat) (t0 t9 t10 : Value) (s : AS) : Option ((List Value × AS) ⊕ (AEx × List Value × AS)) :=
(aBin PP .add t_int (.tmp 10) (.const (.int .i64 1)) t10 (.int .i64 1)).bind fun x13 =>
some (.inl ([t0, t9, x13], s))
noncomputable def loop2 (C : Am.Callee) (L : Loops) (n0 : Nat) (t0 t9 t10 : Value) (s : AS) : Option ((List Value × AS) ⊕ (AEx × List Value × AS)) :=
(aBin PP .lss t_int (.tmp 10) (.tmp 9) t10 t9).bind fun x3 =>
bcase x3 (
((C n_history_Ops [t0, t10] s.H).bind fun r4 =>
(aBuild PP t_api_Sector []).bind fun x5 =>
(C n_register_Right [r4.1, x5] (AS.mk r4.2.1 (joinEsc s.esc r4.2.2)).H).bind fun r6 =>
(pureRun PP (Instr.extract r6.1 0)).bind fun x7 =>
(pureRun PP (Instr.extract r6.1 1)).bind fun x8 =>
((aBin PP .eql t_api_Errno (.tmp 21) (.const (.int .i64 0)) x8 (.int .i64 0)).bind fun x9 =>
bcase x9 (
(aUn PP .not x7).bind fun x10 =>
some (AEx.normal, [t0, t9, t10, x10], AS.mk r6.2.1 (joinEsc (AS.mk r4.2.1 (joinEsc s.esc r4.2.2)).esc r6.2.2))) (
some (AEx.normal, [t0, t9, t10, .bool false], AS.mk r6.2.1 (joinEsc (AS.mk r4.2.1 (joinEsc s.esc r4.2.2)).esc r6.2.2)))).bind fun r11 =>
match r11.1 with
| .normal => j1 C L n0 ((r11.2.1.getD 0 unk)) ((r11.2.1.getD 1 unk)) ((r11.2.1.getD 2 unk)) ((r11.2.1.getD 3 unk)) r11.2.2
| .exit i => if i = 1 then some (AEx.normal, [(r11.2.1.getD 0 unk), unk, (r11.2.1.getD 1 unk), (r11.2.1.getD 2 unk)], r11.2.2) else some (AEx.exit i, [(r11.2.1.getD 0 unk), unk, (r11.2.1.getD 1 unk), (r11.2.1.getD 2 unk)], r11.2.2)
| .ret => some (AEx.ret, [(r11.2.1.getD 0 unk), unk, (r11.2.1.getD 1 unk), (r11.2.1.getD 2 unk)], r11.2.2)).bind fun r12 =>
match r12.1 with
| .normal => j2 C L n0 ((r12.2.1.getD 0 unk)) ((r12.2.1.getD 2 unk)) ((r12.2.1.getD 3 unk)) r12.2.2
| .exit i => some (.inr (.exit i, [(r12.2.1.getD 1 unk)], r12.2.2))
| .ret => some (.inr (.ret, [(r12.2.1.getD 1 unk)], r12.2.2))) (
some (.inr (.exit 0, [unk], s)))
noncomputable def loop2s (C : Am.Callee) (L : Loops) (n0 : Nat) : List Value × AS → Option ((List Value × AS) ⊕ (AEx × List Value × AS)) := fun s => loop2 C L n0 (s.1.getD 0 unk) (s.1.getD 1 unk) (s.1.getD 2 unk) s.2
noncomputable def j4 (C : Am.Callee) (L : Loops) (n0 : Nat) (s : AS) : Option (Value × List Blk × Option Nat) :=
fin PP false n0 [.bool true] s
noncomputable def sh (C : Am.Callee) (L : Loops) (n0 : Nat) (t0 t1 : Value) (s : AS) : Option (Value × List Blk × Option Nat) :=
(eBuiltin PP .min #[t_int, t_int] [t1, .int .i64 256] s fun x1 s2 =>
(L n0 (loop2s C L n0) ([t0, x1, .int .i64 0], s2)).bind fun r14 =>
match r14.1 with
| .normal => some (AEx.normal, [(r14.2.1.getD 0 unk)], r14.2.2)
| .exit i => if i = 0 then some (AEx.normal, [(r14.2.1.getD 0 unk)], r14.2.2) else some (AEx.exit i, [(r14.2.1.getD 0 unk)], r14.2.2)
| .ret => some (AEx.ret, [(r14.2.1.getD 0 unk)], r14.2.2)).bind fun r15 =>
match r15.1 with
| .normal => j4 C L n0  r15.2.2
| .exit i => none
| .ret => fin PP false n0 [(r15.2.1.getD 0 unk)] r15.2.2
def T : Tab := ⟨fun i => if i = 2 then some [0, 9, 10] else none, fun i => if i = 2 then some [4] else none, false, fun i => if i = 6 then some [0, 9, 10, 26] else if i = 7 then some [0, 4, 9, 10] else if i = 8 then some [4] else none, fun _ => false, false, false, fun _ => false, 10⟩
end audit_Linear
namespace register_Right
noncomputable def sh (C : Am.Callee) (L : Loops) (n0 : Nat) (t0 t1 : Value) (s : AS) : Option (Value × List Blk × Option Nat) :=
(aBox t_api_Sector t1 s).bind fun r1 =>
(aLen PP t_L_history_Op t0 r1.2).bind fun x2 =>
(aBin PP .gtr t_int (.tmp 9) (.const (.int .i64 60)) x2 (.int .i64 60)).bind fun x3 =>
bcase x3 (
fin PP false n0 [.bool false, .int .i64 11] r1.2) (
(aLoad true 16 r1.2 r1.1).bind fun x4 =>
(C n_register_Order [t0, x4] r1.2.H).bind fun r5 =>
(pureRun PP (Instr.extract r5.1 0)).bind fun x6 =>
(pureRun PP (Instr.extract r5.1 1)).bind fun x7 =>
fin PP false n0 [x7, .int .i64 0] (AS.mk r5.2.1 (joinEsc r1.2.esc r5.2.2)))
def T : Tab := ⟨fun i => none, fun i => none, false, fun i => none, fun _ => false, false, false, fun _ => false, 57⟩
end register_Right
namespace history_Ops
noncomputable def j1 (C : Am.Callee) (L : Loops) (n0 : Nat) (t0 t1 t5 t6 t7 t8 t9 t17 t18 t19 t46 : Value) (s : AS) : Option (AEx × List Value × AS) :=
bcase t46 (
some (AEx.exit 1, [t0, t1, t5, t6, t7, t8, t9, t17, t18, t19], s)) (
some (AEx.normal, [t0, t1, t5, t6, t7, t8, t9, t17, t18, t19], s))
noncomputable def j4 (C : Am.Callee) (L : Loops) (n0 : Nat) (t0 t1 t5 t6 t7 t10 t17 t18 t19 : Value) (s : AS) : Option (AEx × List Value × AS) :=
(aLoad true 19 s t10).bind fun x76 =>
(bsl PP t_L_history_Op 1 [0] [x76] s).bind fun r77 =>
eBuiltin PP .append #[t_L_history_Op, t_L_history_Op] [t5, r77.1] r77.2 fun x78 s79 =>
some (AEx.normal, [t0, t1, x78, t6, t7, t17, t18, t19], s79)
noncomputable def j3 (C : Am.Callee) (L : Loops) (n0 : Nat) (t0 t1 t5 t6 t7 t9 t10 t11 t17 t18 t19 : Value) (s : AS) : Option (AEx × List Value × AS) :=
((aFieldAddr PP t_world_Event t9 3).bind fun x61 =>
(aFieldAddr PP t_api_Request x61 1).bind fun x62 =>
(aFieldAddr PP t_api_Span x62 0).bind fun x63 =>
(aLoad false 1 s x63).bind fun x64 =>
(aBin PP .sub t_int (.tmp 72) (.tmp 76) t1 x64).bind fun x65 =>
(C n_history_cut [t11, x65] s.H).bind fun r66 =>
(aBox t_api_Sector ((zeroP PP t_api_Sector).getD unk) (AS.mk r66.2.1 (joinEsc s.esc r66.2.2))).bind fun r67 =>
(aStore 16 r67.2 r67.1 r66.1).bind fun s68 =>
(aLoad true 16 s68 r67.1).bind fun x69 =>
(aBuild PP t_api_Sector []).bind fun x70 =>
(aBin PP .neq t_api_Sector (.tmp 79) (.tmp 80) x69 x70).bind fun x71 =>
bcase x71 (
(aLoad true 16 s68 r67.1).bind fun x72 =>
(aFieldAddr PP t_history_Op t10 1).bind fun x73 =>
(aStore 16 s68 x73 x72).bind fun s74 =>
some (AEx.normal, [t0, t1, t5, t6, t7, t10, t17, t18, t19], s74)) (
some (AEx.normal, [t0, t1, t5, t6, t7, t10, t17, t18, t19], s68))).bind fun r75 =>
match r75.1 with
| .normal => j4 C L n0 ((r75.2.1.getD 0 unk)) ((r75.2.1.getD 1 unk)) ((r75.2.1.getD 2 unk)) ((r75.2.1.getD 3 unk)) ((r75.2.1.getD 4 unk)) ((r75.2.1.getD 5 unk)) ((r75.2.1.getD 6 unk)) ((r75.2.1.getD 7 unk)) ((r75.2.1.getD 8 unk)) r75.2.2
| .exit i => if i = 1 then some (AEx.normal, [(r75.2.1.getD 0 unk), (r75.2.1.getD 1 unk), (r75.2.1.getD 2 unk), (r75.2.1.getD 3 unk), (r75.2.1.getD 4 unk), (r75.2.1.getD 6 unk), (r75.2.1.getD 7 unk), (r75.2.1.getD 8 unk)], r75.2.2) else some (AEx.exit i, [(r75.2.1.getD 0 unk), (r75.2.1.getD 1 unk), (r75.2.1.getD 2 unk), (r75.2.1.getD 3 unk), (r75.2.1.getD 4 unk), (r75.2.1.getD 6 unk), (r75.2.1.getD 7 unk), (r75.2.1.getD 8 unk)], r75.2.2)
| .ret => some (AEx.ret, [(r75.2.1.getD 0 unk), (r75.2.1.getD 1 unk), (r75.2.1.getD 2 unk), (r75.2.1.getD 3 unk), (r75.2.1.getD 4 unk), (r75.2.1.getD 6 unk), (r75.2.1.getD 7 unk), (r75.2.1.getD 8 unk)], r75.2.2)
noncomputable def j2 (C : Am.Callee) (L : Loops) (n0 : Nat) (t0 t1 t5 t6 t7 t8 t9 t17 t18 t19 : Value) (s : AS) : Option (AEx × List Value × AS) :=
(aFieldAddr PP t_world_Event t9 3).bind fun x37 =>
(aFieldAddr PP t_api_Request x37 0).bind fun x38 =>
(aLoad false 1 s x38).bind fun x39 =>
(aBin PP .eql t_int (.tmp 49) (.const (.int .i64 1)) x39 (.int .i64 1)).bind fun x40 =>
(aLoad true 3 s t6).bind fun x41 =>
(C n_history_pairs_to [x41, t8] s.H).bind fun r42 =>
if ((((aLoad false 1 (AS.mk r42.2.1 (joinEsc s.esc r42.2.2)) x38).bind fun x80 =>
some (veq x80 x39)) == some true) && true) = true then
(aBuild PP t_history_Op [(0, x40), (2, t8), (3, r42.1)]).bind fun x43 =>
(aBox t_history_Op ((zeroP PP t_history_Op).getD unk) (AS.mk r42.2.1 (joinEsc s.esc r42.2.2))).bind fun r44 =>
(aStore 19 r44.2 r44.1 x43).bind fun s45 =>
(aFieldAddr PP t_world_Event t9 3).bind fun x46 =>
(aFieldAddr PP t_api_Request x46 2).bind fun x47 =>
(aLoad false 1 s45 x47).bind fun x48 =>
((aFieldAddr PP t_history_Op r44.1 0).bind fun x49 =>
(aLoad false 1 s45 x49).bind fun x50 =>
(aUn PP .not x50).bind fun x51 =>
bcase x51 (
(aFieldAddr PP t_history_Op r44.1 3).bind fun x52 =>
(aLoad false 1 s45 x52).bind fun x53 =>
(aBin PP .eql t_int (.tmp 63) (.const (.int .i64 (-1))) x53 (.int .i64 (-1))).bind fun x54 =>
bcase x54 (
some (AEx.exit 1, [t0, t1, t5, t6, t7, t9, r44.1, x48, t17, t18, t19], s45)) (
(aFieldAddr PP t_history_Op r44.1 3).bind fun x55 =>
(aLoad false 1 s45 x55).bind fun x56 =>
(aIndexAddr PP t_L_world_Event t0 x56).bind fun x57 =>
(aFieldAddr PP t_world_Event x57 4).bind fun x58 =>
(aLoad false 1 s45 x58).bind fun x59 =>
some (AEx.normal, [t0, t1, t5, t6, t7, t9, r44.1, x59, t17, t18, t19], s45))) (
some (AEx.normal, [t0, t1, t5, t6, t7, t9, r44.1, x48, t17, t18, t19], s45))).bind fun r60 =>
match r60.1 with
| .normal => j3 C L n0 ((r60.2.1.getD 0 unk)) ((r60.2.1.getD 1 unk)) ((r60.2.1.getD 2 unk)) ((r60.2.1.getD 3 unk)) ((r60.2.1.getD 4 unk)) ((r60.2.1.getD 5 unk)) ((r60.2.1.getD 6 unk)) ((r60.2.1.getD 7 unk)) ((r60.2.1.getD 8 unk)) ((r60.2.1.getD 9 unk)) ((r60.2.1.getD 10 unk)) r60.2.2
| .exit i => if i = 1 then some (AEx.normal, [(r60.2.1.getD 0 unk), (r60.2.1.getD 1 unk), (r60.2.1.getD 2 unk), (r60.2.1.getD 3 unk), (r60.2.1.getD 4 unk), (r60.2.1.getD 8 unk), (r60.2.1.getD 9 unk), (r60.2.1.getD 10 unk)], r60.2.2) else some (AEx.exit i, [(r60.2.1.getD 0 unk), (r60.2.1.getD 1 unk), (r60.2.1.getD 2 unk), (r60.2.1.getD 3 unk), (r60.2.1.getD 4 unk), (r60.2.1.getD 8 unk), (r60.2.1.getD 9 unk), (r60.2.1.getD 10 unk)], r60.2.2)
| .ret => some (AEx.ret, [(r60.2.1.getD 0 unk), (r60.2.1.getD 1 unk), (r60.2.1.getD 2 unk), (r60.2.1.getD 3 unk), (r60.2.1.getD 4 unk), (r60.2.1.getD 8 unk), (r60.2.1.getD 9 unk), (r60.2.1.getD 10 unk)], r60.2.2)
else none
noncomputable def j5 (C : Am.Callee) (L : Loops) (n0 : Nat) (t0 t1 t5 t6 t7 t17 t18 t19 : Value) (s : AS) : Option ((List Value × AS) ⊕ (AEx × List Value × AS)) :=
(aBin PP .add t_int (.tmp 19) (.const (.int .i64 1)) t19 (.int .i64 1)).bind fun x82 =>
some (.inl ([t0, t1, t5, t6, t7, t17, t18, x82], s))
noncomputable def loop5 (C : Am.Callee) (L : Loops) (n0 : Nat) (t0 t1 t5 t6 t7 t17 t18 t19 : Value) (s : AS) : Option ((List Value × AS) ⊕ (AEx × List Value × AS)) :=
(aBin PP .lss t_int (.tmp 19) (.tmp 18) t19 t18).bind fun x8 =>
bcase x8 (
((aIndexAddr PP t_L_world_Event t17 t19).bind fun x9 =>
(aLoad true 8 s x9).bind fun x10 =>
(aBox t_world_Event ((zeroP PP t_world_Event).getD unk) s).bind fun r11 =>
(aStore 8 r11.2 r11.1 x10).bind fun s12 =>
((aFieldAddr PP t_world_Event r11.1 0).bind fun x13 =>
(aLoad false 1 s12 x13).bind fun x14 =>
(aBin PP .neq t_int (.tmp 25) (.const (.int .i64 0)) x14 (.int .i64 0)).bind fun x15 =>
bcase x15 (
j1 C L n0 t0 t1 t5 t6 t7 t19 r11.1 t17 t18 t19 (.bool true) s12) (
(aFieldAddr PP t_world_Event r11.1 3).bind fun x16 =>
(aFieldAddr PP t_api_Request x16 0).bind fun x17 =>
(aLoad false 1 s12 x17).bind fun x18 =>
(aBin PP .neq t_int (.tmp 30) (.const (.int .i64 0)) x18 (.int .i64 0)).bind fun x19 =>
bcase x19 (
(aFieldAddr PP t_world_Event r11.1 3).bind fun x20 =>
(aFieldAddr PP t_api_Request x20 0).bind fun x21 =>
(aLoad false 1 s12 x21).bind fun x22 =>
(aBin PP .neq t_int (.tmp 35) (.const (.int .i64 1)) x22 (.int .i64 1)).bind fun x23 =>
bcase x23 (
j1 C L n0 t0 t1 t5 t6 t7 t19 r11.1 t17 t18 t19 (.bool true) s12) (
(aFieldAddr PP t_world_Event r11.1 3).bind fun x24 =>
(aFieldAddr PP t_api_Request x24 1).bind fun x25 =>
(aLoad true 2 s12 x25).bind fun x26 =>
(aLoad true 2 s12 t7).bind fun x27 =>
(C n_span_Overlap [x26, x27] s12.H).bind fun r28 =>
(aUn PP .not r28.1).bind fun x29 =>
j1 C L n0 t0 t1 t5 t6 t7 t19 r11.1 t17 t18 t19 x29 (AS.mk r28.2.1 (joinEsc s12.esc r28.2.2)))) (
(aFieldAddr PP t_world_Event r11.1 3).bind fun x30 =>
(aFieldAddr PP t_api_Request x30 1).bind fun x31 =>
(aLoad true 2 s12 x31).bind fun x32 =>
(aLoad true 2 s12 t7).bind fun x33 =>
(C n_span_Overlap [x32, x33] s12.H).bind fun r34 =>
(aUn PP .not r34.1).bind fun x35 =>
j1 C L n0 t0 t1 t5 t6 t7 t19 r11.1 t17 t18 t19 x35 (AS.mk r34.2.1 (joinEsc s12.esc r34.2.2))))).bind fun r36 =>
match r36.1 with
| .normal => j2 C L n0 ((r36.2.1.getD 0 unk)) ((r36.2.1.getD 1 unk)) ((r36.2.1.getD 2 unk)) ((r36.2.1.getD 3 unk)) ((r36.2.1.getD 4 unk)) ((r36.2.1.getD 5 unk)) ((r36.2.1.getD 6 unk)) ((r36.2.1.getD 7 unk)) ((r36.2.1.getD 8 unk)) ((r36.2.1.getD 9 unk)) r36.2.2
| .exit i => if i = 1 then some (AEx.normal, [(r36.2.1.getD 0 unk), (r36.2.1.getD 1 unk), (r36.2.1.getD 2 unk), (r36.2.1.getD 3 unk), (r36.2.1.getD 4 unk), (r36.2.1.getD 7 unk), (r36.2.1.getD 8 unk), (r36.2.1.getD 9 unk)], r36.2.2) else some (AEx.exit i, [(r36.2.1.getD 0 unk), (r36.2.1.getD 1 unk), (r36.2.1.getD 2 unk), (r36.2.1.getD 3 unk), (r36.2.1.getD 4 unk), (r36.2.1.getD 7 unk), (r36.2.1.getD 8 unk), (r36.2.1.getD 9 unk)], r36.2.2)
| .ret => some (AEx.ret, [(r36.2.1.getD 0 unk), (r36.2.1.getD 1 unk), (r36.2.1.getD 2 unk), (r36.2.1.getD 3 unk), (r36.2.1.getD 4 unk), (r36.2.1.getD 7 unk), (r36.2.1.getD 8 unk), (r36.2.1.getD 9 unk)], r36.2.2)).bind fun r81 =>
match r81.1 with
| .normal => j5 C L n0 ((r81.2.1.getD 0 unk)) ((r81.2.1.getD 1 unk)) ((r81.2.1.getD 2 unk)) ((r81.2.1.getD 3 unk)) ((r81.2.1.getD 4 unk)) ((r81.2.1.getD 5 unk)) ((r81.2.1.getD 6 unk)) ((r81.2.1.getD 7 unk)) r81.2.2
| .exit i => some (.inr (.exit i, [(r81.2.1.getD 2 unk)], r81.2.2))
| .ret => some (.inr (.ret, [(r81.2.1.getD 2 unk)], r81.2.2))) (
some (.inr (.exit 0, [t5], s)))
noncomputable def loop5s (C : Am.Callee) (L : Loops) (n0 : Nat) : List Value × AS → Option ((List Value × AS) ⊕ (AEx × List Value × AS)) := fun s => loop5 C L n0 (s.1.getD 0 unk) (s.1.getD 1 unk) (s.1.getD 2 unk) (s.1.getD 3 unk) (s.1.getD 4 unk) (s.1.getD 5 unk) (s.1.getD 6 unk) (s.1.getD 7 unk) s.2
noncomputable def j7 (C : Am.Callee) (L : Loops) (n0 : Nat) (t5 : Value) (s : AS) : Option (Value × List Blk × Option Nat) :=
fin PP false n0 [t5] s
noncomputable def sh (C : Am.Callee) (L : Loops) (n0 : Nat) (t0 t1 : Value) (s : AS) : Option (Value × List Blk × Option Nat) :=
(C n_history_paired [t0] s.H).bind fun r1 =>
(aBox t_history_pairs ((zeroP PP t_history_pairs).getD unk) (AS.mk r1.2.1 (joinEsc s.esc r1.2.2))).bind fun r2 =>
(aStore 3 r2.2 r2.1 r1.1).bind fun s3 =>
(aBuild PP t_api_Span [(0, t1), (1, .int .i64 1)]).bind fun x4 =>
(aBox t_api_Span ((zeroP PP t_api_Span).getD unk) s3).bind fun r5 =>
(aStore 2 r5.2 r5.1 x4).bind fun s6 =>
((aLen PP t_L_world_Event t0 s6).bind fun x7 =>
(L n0 (loop5s C L n0) ([t0, t1, .slice none 0 0, r2.1, r5.1, t0, x7, .int .i64 0], s6)).bind fun r83 =>
match r83.1 with
| .normal => some (AEx.normal, [(r83.2.1.getD 0 unk)], r83.2.2)
| .exit i => if i = 0 then some (AEx.normal, [(r83.2.1.getD 0 unk)], r83.2.2) else some (AEx.exit i, [(r83.2.1.getD 0 unk)], r83.2.2)
| .ret => some (AEx.ret, [(r83.2.1.getD 0 unk)], r83.2.2)).bind fun r84 =>
match r84.1 with
| .normal => j7 C L n0 ((r84.2.1.getD 0 unk)) r84.2.2
| .exit i => none
| .ret => fin PP false n0 [unk] r84.2.2
def T : Tab := ⟨fun i => if i = 5 then some [0, 1, 5, 6, 7, 17, 18, 19] else none, fun i => if i = 5 then some [5] else none, false, fun i => if i = 8 then some [0, 1, 5, 6, 7, 8, 9, 17, 18, 19] else if i = 13 then some [0, 1, 5, 6, 7, 9, 10, 11, 17, 18, 19] else if i = 16 then some [0, 1, 5, 6, 7, 10, 17, 18, 19] else if i = 17 then some [0, 1, 5, 6, 7, 17, 18, 19] else if i = 18 then some [5] else none, fun _ => false, false, false, fun _ => false, 58⟩
end history_Ops
namespace twainlaw39_lives
noncomputable def sh (C : Am.Callee) (L : Loops) (n0 : Nat) (s : AS) : Option (Value × List Blk × Option Nat) :=
(C n_twainlaw34_Set [] s.H).bind fun r1 =>
(C n_world_New [r1.1] (AS.mk r1.2.1 (joinEsc s.esc r1.2.2)).H).bind fun r2 =>
(pureRun PP (Instr.extract r2.1 0)).bind fun x3 =>
(pureRun PP (Instr.extract r2.1 1)).bind fun x4 =>
(aBin PP .eql t_api_Errno (.tmp 8) (.const (.int .i64 0)) x4 (.int .i64 0)).bind fun x5 =>
bcase x5 (
(C n_audit_Check [x3] (AS.mk r2.2.1 (joinEsc (AS.mk r1.2.1 (joinEsc s.esc r1.2.2)).esc r2.2.2)).H).bind fun r6 =>
(aBin PP .eql t_int (.tmp 12) (.const (.int .i64 0)) r6.1 (.int .i64 0)).bind fun x7 =>
bcase x7 (
(C n_audit_Name [.int .i64 0] (AS.mk r6.2.1 (joinEsc (AS.mk r2.2.1 (joinEsc (AS.mk r1.2.1 (joinEsc s.esc r1.2.2)).esc r2.2.2)).esc r6.2.2)).H).bind fun r8 =>
(aBin PP .eql t_string (.tmp 16) (.const (.string ⟨#[102, 105, 110, 101]⟩)) r8.1 (.string ⟨#[102, 105, 110, 101]⟩)).bind fun x9 =>
bcase x9 (
(C n_audit_Alike [x3] (AS.mk r8.2.1 (joinEsc (AS.mk r6.2.1 (joinEsc (AS.mk r2.2.1 (joinEsc (AS.mk r1.2.1 (joinEsc s.esc r1.2.2)).esc r2.2.2)).esc r6.2.2)).esc r8.2.2)).H).bind fun r10 =>
fin PP false n0 [r10.1] (AS.mk r10.2.1 (joinEsc (AS.mk r8.2.1 (joinEsc (AS.mk r6.2.1 (joinEsc (AS.mk r2.2.1 (joinEsc (AS.mk r1.2.1 (joinEsc s.esc r1.2.2)).esc r2.2.2)).esc r6.2.2)).esc r8.2.2)).esc r10.2.2))) (
fin PP false n0 [.bool false] (AS.mk r8.2.1 (joinEsc (AS.mk r6.2.1 (joinEsc (AS.mk r2.2.1 (joinEsc (AS.mk r1.2.1 (joinEsc s.esc r1.2.2)).esc r2.2.2)).esc r6.2.2)).esc r8.2.2)))) (
fin PP false n0 [.bool false] (AS.mk r6.2.1 (joinEsc (AS.mk r2.2.1 (joinEsc (AS.mk r1.2.1 (joinEsc s.esc r1.2.2)).esc r2.2.2)).esc r6.2.2)))) (
fin PP false n0 [.bool false] (AS.mk r2.2.1 (joinEsc (AS.mk r1.2.1 (joinEsc s.esc r1.2.2)).esc r2.2.2)))
def T : Tab := ⟨fun i => none, fun i => none, false, fun i => none, fun _ => false, true, false, fun _ => false, 11⟩
end twainlaw39_lives
end Go.Proofs.YthdoihdngldlfaaGreat
