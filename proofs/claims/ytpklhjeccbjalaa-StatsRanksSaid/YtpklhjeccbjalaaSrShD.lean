/- A part of the proof: SrShD. Its conditions: none. -/
import Derived.Test.YtpklhjeccbjalaaAm32
import Derived.Test.YtpklhjeccbjalaaChecked
set_option linter.all false
set_option linter.unusedVariables false
set_option linter.unusedSimpArgs false
set_option linter.unnecessarySimpa false
namespace Go.Proofs.Ytpklhjeccbjalaa
open Go Go.Am
set_option linter.unusedVariables false
noncomputable abbrev PP : Program := Try.prog
abbrev n_main_main : FuncId := 0
abbrev n_gosem_cut : FuncId := 1
abbrev n_gosem_cut_init : FuncId := 2
abbrev n_twainlaw47_StatsRanks : FuncId := 3
abbrev n_twainlaw47_StatsWaits : FuncId := 4
abbrev n_twainlaw47_lives : FuncId := 5
abbrev n_stats_Rank : FuncId := 6
abbrev n_twainref47_Rank : FuncId := 7
abbrev n_stats_Bars : FuncId := 8
abbrev n_twainref01_Ints : FuncId := 9
abbrev n_twainref47_Bars : FuncId := 10
abbrev n_twainlaw36_Few : FuncId := 11
abbrev n_twainlaw36_Raw : FuncId := 12
abbrev n_stats_Waits : FuncId := 13
abbrev n_twainref47_Waits : FuncId := 14
abbrev n_stats_Most : FuncId := 15
abbrev n_twainref47_Most : FuncId := 16
abbrev n_stats_Of : FuncId := 17
abbrev n_slices_Sort_L_int_int : FuncId := 18
abbrev n_twainref47_sorted : FuncId := 19
abbrev n_stats_pairs : FuncId := 20
abbrev n_twainref47_end : FuncId := 21
abbrev n_stats_Most_1 : FuncId := 22
abbrev n_P_stats_Stats_ask : FuncId := 23
abbrev n_slices_pdqsortOrdered_int : FuncId := 24
abbrev n_math_bits_Len : FuncId := 25
abbrev n_twainref47_in : FuncId := 26
abbrev n_twainref36_Open : FuncId := 27
abbrev n_slices_insertionSortOrdered_int : FuncId := 28
abbrev n_slices_heapSortOrdered_int : FuncId := 29
abbrev n_slices_breakPatternsOrdered_int : FuncId := 30
abbrev n_slices_choosePivotOrdered_int : FuncId := 31
abbrev n_slices_reverseRangeOrdered_int : FuncId := 32
abbrev n_slices_partialInsertionSortOrdered_int : FuncId := 33
abbrev n_cmp_Less_int : FuncId := 34
abbrev n_slices_partitionEqualOrdered_int : FuncId := 35
abbrev n_slices_partitionOrdered_int : FuncId := 36
abbrev n_math_bits_Len32 : FuncId := 37
abbrev n_math_bits_Len64 : FuncId := 38
abbrev n_twainref36_ended : FuncId := 39
abbrev n_slices_siftDownOrdered_int : FuncId := 40
abbrev n_slices_nextPowerOfTwo : FuncId := 41
abbrev n_P_slices_xorshift_Next : FuncId := 42
abbrev n_slices_medianAdjacentOrdered_int : FuncId := 43
abbrev n_slices_medianOrdered_int : FuncId := 44
abbrev n_cmp_isNaN_int : FuncId := 45
abbrev n_twainref36_asked : FuncId := 46
abbrev n_slices_order2Ordered_int : FuncId := 47
abbrev n_runtime_boundsError_Error : FuncId := 48
abbrev n_runtime_boundsError_RuntimeError : FuncId := 49
abbrev n_runtime_errorString_Error : FuncId := 50
abbrev n_runtime_errorString_RuntimeError : FuncId := 51
abbrev n_runtime_plainError_Error : FuncId := 52
abbrev n_runtime_plainError_RuntimeError : FuncId := 53
abbrev n_runtime_errorAddressString_Error : FuncId := 54
abbrev n_runtime_errorAddressString_RuntimeError : FuncId := 55
abbrev n_P_runtime_TypeAssertionError_Error : FuncId := 56
abbrev n_P_runtime_TypeAssertionError_RuntimeError : FuncId := 57
abbrev n_P_runtime_PanicNilError_Error : FuncId := 58
abbrev n_P_runtime_PanicNilError_RuntimeError : FuncId := 59
abbrev n_P_internal_abi_Type_Align : FuncId := 60
abbrev n_internal_runtime_maps_unhashableTypeE_d411d0 : FuncId := 61
abbrev n_internal_runtime_maps_unhashableTypeE_88efe4 : FuncId := 62
abbrev n_internal_abi_Kind_String : FuncId := 63
abbrev t_unit : TypeId := 0
abbrev t_F023062 : TypeId := 1
abbrev t_int64 : TypeId := 2
abbrev t_int : TypeId := 3
abbrev t_bool : TypeId := 4
abbrev t_uint8 : TypeId := 5
abbrev t_abi_BoundsErrorCode : TypeId := 6
abbrev t_S81e5bf : TypeId := 7
abbrev t_runtime_boundsError : TypeId := 8
abbrev t_string : TypeId := 9
abbrev t_runtime_errorString : TypeId := 10
abbrev t_runtime_plainError : TypeId := 11
abbrev t_uintptr : TypeId := 12
abbrev t_S9bc4a9 : TypeId := 13
abbrev t_runtime_errorAddressString : TypeId := 14
abbrev t_P_runtime_TypeAssertionError : TypeId := 15
abbrev t_P_runtime_PanicNilError : TypeId := 16
abbrev t_P_abi_Type : TypeId := 17
abbrev t_S6875f2 : TypeId := 18
abbrev t_maps_unhashableTypeError : TypeId := 19
abbrev t_interface : TypeId := 20
abbrev t_int32 : TypeId := 21
abbrev t_L_int : TypeId := 22
abbrev t_S90781d : TypeId := 23
abbrev t_twainlaw47_Case : TypeId := 24
abbrev t_Fa86e39 : TypeId := 25
abbrev t_int_bool : TypeId := 26
abbrev t_F921929 : TypeId := 27
abbrev t_F36cca6 : TypeId := 28
abbrev t_F081862 : TypeId := 29
abbrev t_F751df5 : TypeId := 30
abbrev t_L_twainref34_Event : TypeId := 31
abbrev t_F6f3dd6 : TypeId := 32
abbrev t_L_world_Event : TypeId := 33
abbrev t_F8299a7 : TypeId := 34
abbrev t_F09bab6 : TypeId := 35
abbrev t_Fb7e6b8 : TypeId := 36
abbrev t_F87b48f : TypeId := 37
abbrev t_F1e65b7 : TypeId := 38
abbrev t_Sc01fc2 : TypeId := 39
abbrev t_stats_Stats : TypeId := 40
abbrev t_F951be8 : TypeId := 41
abbrev t_S6c464c : TypeId := 42
abbrev t_api_Span : TypeId := 43
abbrev t_L_uint8 : TypeId := 44
abbrev t_S21fe5b : TypeId := 45
abbrev t_api_Request : TypeId := 46
abbrev t_S71e5a8 : TypeId := 47
abbrev t_world_Event : TypeId := 48
abbrev t_F0fac16 : TypeId := 49
abbrev t_F698beb : TypeId := 50
abbrev t_twainref34_Event : TypeId := 51
abbrev t_M_int_int : TypeId := 52
abbrev t_Fc9cec5 : TypeId := 53
abbrev t_F98340e : TypeId := 54
abbrev t_M_int_bool : TypeId := 55
abbrev t_A2_M_int_bool : TypeId := 56
abbrev t_M_int_M_int_bool : TypeId := 57
abbrev t_F44a6aa : TypeId := 58
abbrev t_Fa57ad0 : TypeId := 59
abbrev t_Fa08cd7 : TypeId := 60
abbrev t_F081320 : TypeId := 61
abbrev t_uint : TypeId := 62
abbrev t_M_stats_key_int : TypeId := 63
abbrev t_Sf72a03 : TypeId := 64
abbrev t_stats_key : TypeId := 65
abbrev t_Fb8aae0 : TypeId := 66
abbrev t_P_stats_Stats : TypeId := 67
abbrev t_F3dd160 : TypeId := 68
abbrev t_slices_sortedHint : TypeId := 69
abbrev t_int_slices_sortedHint : TypeId := 70
abbrev t_F4b8bde : TypeId := 71
abbrev t_Fc472ce : TypeId := 72
abbrev t_F0d5626 : TypeId := 73
abbrev t_Faebc61 : TypeId := 74
abbrev t_Fe4690b : TypeId := 75
abbrev t_F6b0bc9 : TypeId := 76
abbrev t_uint32 : TypeId := 77
abbrev t_F8e2c9a : TypeId := 78
abbrev t_uint64 : TypeId := 79
abbrev t_slices_xorshift : TypeId := 80
abbrev t_F1a8706 : TypeId := 81
abbrev t_F706738 : TypeId := 82
abbrev t_F875ee2 : TypeId := 83
abbrev t_P_int : TypeId := 84
abbrev t_F48b247 : TypeId := 85
abbrev t_F403d54 : TypeId := 86
abbrev t_P_slices_xorshift : TypeId := 87
abbrev t_int_int : TypeId := 88
abbrev t_Fdfd78f : TypeId := 89
abbrev t_F6c6759 : TypeId := 90
abbrev t_S6911b8 : TypeId := 91
abbrev t_runtime_TypeAssertionError : TypeId := 92
abbrev t_A0_P_runtime_PanicNilError : TypeId := 93
abbrev t_S674f3b : TypeId := 94
abbrev t_runtime_PanicNilError : TypeId := 95
abbrev t_F92c41c : TypeId := 96
abbrev t_abi_TFlag : TypeId := 97
abbrev t_abi_Kind : TypeId := 98
abbrev t_F0a8967 : TypeId := 99
abbrev t_P_uint8 : TypeId := 100
abbrev t_abi_NameOff : TypeId := 101
abbrev t_abi_TypeOff : TypeId := 102
abbrev t_Scd6355 : TypeId := 103
abbrev t_abi_Type : TypeId := 104
abbrev t_unsafe_Pointer : TypeId := 105
namespace twainlaw47_StatsRanks
noncomputable def j0 (C : Am.Callee) (L : Loops) (n0 : Nat) (t0 t14 t73 : Value) (s : AS) : Option (AEx × List Value × AS) :=
bcase t73 (
some (AEx.ret, [t0, .bool false, t14], s)) (
some (AEx.normal, [t0, unk, t14], s))
noncomputable def loop12 (C : Am.Callee) (L : Loops) (n0 : Nat) (t0 t14 t15 t74 t75 t76 : Value) (s : AS) : Option ((List Value × AS) ⊕ (AEx × List Value × AS)) :=
(aBin PP .lss t_int (.tmp 76) (.tmp 75) t76 t75).bind fun x33 =>
bcase x33 (
(aIndexAddr PP t_L_int t74 t76).bind fun x34 =>
(aLoad false 1 s x34).bind fun x35 =>
(aBin PP .add t_int (.tmp 80) (.tmp 81) t15 x35).bind fun x36 =>
(aBin PP .add t_int (.tmp 76) (.const (.int .i64 1)) t76 (.int .i64 1)).bind fun x37 =>
some (.inl ([t0, t14, x36, t74, t75, x37], s))) (
some (.inr (.exit 0, [t0, t14, t15], s)))
noncomputable def loop12s (C : Am.Callee) (L : Loops) (n0 : Nat) : List Value × AS → Option ((List Value × AS) ⊕ (AEx × List Value × AS)) := fun s => loop12 C L n0 (s.1.getD 0 unk) (s.1.getD 1 unk) (s.1.getD 2 unk) (s.1.getD 3 unk) (s.1.getD 4 unk) (s.1.getD 5 unk) s.2
noncomputable def j4 (C : Am.Callee) (L : Loops) (n0 : Nat) (t0 t14 t15 : Value) (s : AS) : Option (Value × List Blk × Option Nat) :=
(aLen PP t_L_int t14 s).bind fun x40 =>
(aBin PP .eql t_int (.tmp 85) (.const (.int .i64 0)) x40 (.int .i64 0)).bind fun x41 =>
bcase x41 (
(C n_twainlaw47_lives [] s.H).bind fun r42 =>
fin PP false n0 [r42.1] (AS.mk r42.2.1 (joinEsc s.esc r42.2.2))) (
(aLen PP t_L_int t0 s).bind fun x43 =>
(aBin PP .eql t_int (.tmp 88) (.tmp 90) t15 x43).bind fun x44 =>
bcase x44 (
(C n_twainlaw47_lives [] s.H).bind fun r45 =>
fin PP false n0 [r45.1] (AS.mk r45.2.1 (joinEsc s.esc r45.2.2))) (
fin PP false n0 [.bool false] s))
noncomputable def j1 (C : Am.Callee) (L : Loops) (n0 : Nat) (t0 t14 : Value) (s : AS) : Option (Value × List Blk × Option Nat) :=
((aLen PP t_L_int t14 s).bind fun x32 =>
(L n0 (loop12s C L n0) ([t0, t14, .int .i64 0, t14, x32, .int .i64 0], s)).bind fun r38 =>
match r38.1 with
| .normal => some (AEx.normal, [(r38.2.1.getD 0 unk), (r38.2.1.getD 1 unk), (r38.2.1.getD 2 unk)], r38.2.2)
| .exit i => if i = 0 then some (AEx.normal, [(r38.2.1.getD 0 unk), (r38.2.1.getD 1 unk), (r38.2.1.getD 2 unk)], r38.2.2) else some (AEx.exit i, [(r38.2.1.getD 0 unk), (r38.2.1.getD 1 unk), (r38.2.1.getD 2 unk)], r38.2.2)
| .ret => some (AEx.ret, [(r38.2.1.getD 0 unk), (r38.2.1.getD 1 unk), (r38.2.1.getD 2 unk)], r38.2.2)).bind fun r39 =>
match r39.1 with
| .normal => j4 C L n0 ((r39.2.1.getD 0 unk)) ((r39.2.1.getD 1 unk)) ((r39.2.1.getD 2 unk)) r39.2.2
| .exit i => none
| .ret => fin PP false n0 [unk] r39.2.2
noncomputable def sh (C : Am.Callee) (L : Loops) (n0 : Nat) (t0 t1 : Value) (s : AS) : Option (Value × List Blk × Option Nat) :=
(aBox t_twainlaw47_Case t1 s).bind fun r1 =>
(aFieldAddr PP t_twainlaw47_Case r1.1 0).bind fun x2 =>
(aLoad false 1 r1.2 x2).bind fun x3 =>
(aFieldAddr PP t_twainlaw47_Case r1.1 1).bind fun x4 =>
(aLoad false 1 r1.2 x4).bind fun x5 =>
(aFieldAddr PP t_twainlaw47_Case r1.1 2).bind fun x6 =>
(aLoad false 1 r1.2 x6).bind fun x7 =>
(aFieldAddr PP t_twainlaw47_Case r1.1 3).bind fun x8 =>
(aLoad false 1 r1.2 x8).bind fun x9 =>
(aLen PP t_L_int t0 r1.2).bind fun x10 =>
(aBin PP .gtr t_int (.tmp 27) (.const (.int .i64 200)) x10 (.int .i64 200)).bind fun x11 =>
bcase x11 (
(C n_twainlaw47_lives [] r1.2.H).bind fun r12 =>
fin PP false n0 [r12.1] (AS.mk r12.2.1 (joinEsc r1.2.esc r12.2.2))) (
(bsl PP t_L_int 0 [] [] r1.2).bind fun r13 =>
eBuiltin PP .append #[t_L_int, t_L_int] [r13.1, t0] r13.2 fun x14 s15 =>
(C n_stats_Rank [x14, x3, x5] s15.H).bind fun r16 =>
(pureRun PP (Instr.extract r16.1 0)).bind fun x17 =>
(pureRun PP (Instr.extract r16.1 1)).bind fun x18 =>
(C n_twainref47_Rank [t0, x3, x5] (AS.mk r16.2.1 (joinEsc s15.esc r16.2.2)).H).bind fun r19 =>
(pureRun PP (Instr.extract r19.1 0)).bind fun x20 =>
(pureRun PP (Instr.extract r19.1 1)).bind fun x21 =>
(C n_stats_Bars [x14, x7, x9] (AS.mk r19.2.1 (joinEsc (AS.mk r16.2.1 (joinEsc s15.esc r16.2.2)).esc r19.2.2)).H).bind fun r22 =>
(((aBin PP .neq t_int (.tmp 51) (.tmp 52) x17 x20).bind fun x23 =>
bcase x23 (
some (AEx.normal, [t0, r22.1, .bool true], AS.mk r22.2.1 (joinEsc (AS.mk r19.2.1 (joinEsc (AS.mk r16.2.1 (joinEsc s15.esc r16.2.2)).esc r19.2.2)).esc r22.2.2))) (
(aBin PP .neq t_bool (.tmp 55) (.tmp 56) x18 x21).bind fun x24 =>
bcase x24 (
some (AEx.normal, [t0, r22.1, .bool true], AS.mk r22.2.1 (joinEsc (AS.mk r19.2.1 (joinEsc (AS.mk r16.2.1 (joinEsc s15.esc r16.2.2)).esc r19.2.2)).esc r22.2.2))) (
(C n_twainref47_Bars [t0, x7, x9] (AS.mk r22.2.1 (joinEsc (AS.mk r19.2.1 (joinEsc (AS.mk r16.2.1 (joinEsc s15.esc r16.2.2)).esc r19.2.2)).esc r22.2.2)).H).bind fun r25 =>
(C n_twainref01_Ints [r22.1, r25.1] (AS.mk r25.2.1 (joinEsc (AS.mk r22.2.1 (joinEsc (AS.mk r19.2.1 (joinEsc (AS.mk r16.2.1 (joinEsc s15.esc r16.2.2)).esc r19.2.2)).esc r22.2.2)).esc r25.2.2)).H).bind fun r26 =>
(aUn PP .not r26.1).bind fun x27 =>
bcase x27 (
some (AEx.normal, [t0, r22.1, .bool true], AS.mk r26.2.1 (joinEsc (AS.mk r25.2.1 (joinEsc (AS.mk r22.2.1 (joinEsc (AS.mk r19.2.1 (joinEsc (AS.mk r16.2.1 (joinEsc s15.esc r16.2.2)).esc r19.2.2)).esc r22.2.2)).esc r25.2.2)).esc r26.2.2))) (
(C n_twainref01_Ints [x14, t0] (AS.mk r26.2.1 (joinEsc (AS.mk r25.2.1 (joinEsc (AS.mk r22.2.1 (joinEsc (AS.mk r19.2.1 (joinEsc (AS.mk r16.2.1 (joinEsc s15.esc r16.2.2)).esc r19.2.2)).esc r22.2.2)).esc r25.2.2)).esc r26.2.2)).H).bind fun r28 =>
(aUn PP .not r28.1).bind fun x29 =>
some (AEx.normal, [t0, r22.1, x29], AS.mk r28.2.1 (joinEsc (AS.mk r26.2.1 (joinEsc (AS.mk r25.2.1 (joinEsc (AS.mk r22.2.1 (joinEsc (AS.mk r19.2.1 (joinEsc (AS.mk r16.2.1 (joinEsc s15.esc r16.2.2)).esc r19.2.2)).esc r22.2.2)).esc r25.2.2)).esc r26.2.2)).esc r28.2.2)))))).bind fun r30 =>
match r30.1 with
| .normal => j0 C L n0 ((r30.2.1.getD 0 unk)) ((r30.2.1.getD 1 unk)) ((r30.2.1.getD 2 unk)) r30.2.2
| .exit i => some (AEx.exit i, [(r30.2.1.getD 0 unk), unk, (r30.2.1.getD 1 unk)], r30.2.2)
| .ret => some (AEx.ret, [(r30.2.1.getD 0 unk), unk, (r30.2.1.getD 1 unk)], r30.2.2)).bind fun r31 =>
match r31.1 with
| .normal => j1 C L n0 ((r31.2.1.getD 0 unk)) ((r31.2.1.getD 2 unk)) r31.2.2
| .exit i => none
| .ret => fin PP false n0 [(r31.2.1.getD 1 unk)] r31.2.2)
def T : Tab := ⟨fun i => if i = 12 then some [0, 14, 15, 74, 75, 76] else none, fun i => if i = 12 then some [0, 14, 15] else none, false, fun i => if i = 9 then some [0, 14, 73] else if i = 10 then some [0, 4, 14] else if i = 16 then some [0, 14, 15] else none, fun _ => false, false, false, fun _ => false, 3, false, none⟩
end twainlaw47_StatsRanks
namespace twainlaw47_lives
noncomputable def sh (C : Am.Callee) (L : Loops) (n0 : Nat) (s : AS) : Option (Value × List Blk × Option Nat) :=
(bsl PP t_L_int 3 [0, 1, 2] [.int .i64 5, .int .i64 1, .int .i64 3] s).bind fun r1 =>
(C n_stats_Rank [r1.1, .int .i64 1, .int .i64 2] r1.2.H).bind fun r2 =>
(pureRun PP (Instr.extract r2.1 0)).bind fun x3 =>
(pureRun PP (Instr.extract r2.1 1)).bind fun x4 =>
(aBin PP .eql t_int (.tmp 8) (.const (.int .i64 3)) x3 (.int .i64 3)).bind fun x5 =>
bcase x5 (
bcase x4 (
(bsl PP t_L_int 3 [0, 1, 2] [.int .i64 0, .int .i64 4, .int .i64 9] (AS.mk r2.2.1 (joinEsc r1.2.esc r2.2.2))).bind fun r6 =>
(C n_stats_Bars [r6.1, .int .i64 5, .int .i64 2] r6.2.H).bind fun r7 =>
(bsl PP t_L_int 2 [0, 1] [.int .i64 2, .int .i64 1] (AS.mk r7.2.1 (joinEsc r6.2.esc r7.2.2))).bind fun r8 =>
(C n_twainref01_Ints [r7.1, r8.1] r8.2.H).bind fun r9 =>
bcase r9.1 (
(aBuild PP t_world_Event [(0, .int .i64 2)]).bind fun x10 =>
(bsl PP t_L_world_Event 1 [0] [x10] (AS.mk r9.2.1 (joinEsc r8.2.esc r9.2.2))).bind fun r11 =>
(C n_stats_Of [r11.1, .int .i64 0] r11.2.H).bind fun r12 =>
(pureRun PP (Instr.field t_stats_Stats r12.1 4)).bind fun x13 =>
(aBin PP .eql t_int (.tmp 23) (.const (.int .i64 1)) x13 (.int .i64 1)).bind fun x14 =>
fin PP false n0 [x14] (AS.mk r12.2.1 (joinEsc r11.2.esc r12.2.2))) (
fin PP false n0 [.bool false] (AS.mk r9.2.1 (joinEsc r8.2.esc r9.2.2)))) (
fin PP false n0 [.bool false] (AS.mk r2.2.1 (joinEsc r1.2.esc r2.2.2)))) (
fin PP false n0 [.bool false] (AS.mk r2.2.1 (joinEsc r1.2.esc r2.2.2)))
def T : Tab := ⟨fun i => none, fun i => none, false, fun i => none, fun _ => false, true, false, fun _ => false, 5, false, none⟩
end twainlaw47_lives
namespace stats_Rank
noncomputable def j0 (C : Am.Callee) (L : Loops) (n0 : Nat) (t0 t1 t2 t28 : Value) (s : AS) : Option (AEx × List Value × AS) :=
bcase t28 (
some (AEx.ret, [t0, t1, t2, .int .i64 0, .bool false], s)) (
some (AEx.normal, [t0, t1, t2, unk, unk], s))
noncomputable def j1 (C : Am.Callee) (L : Loops) (n0 : Nat) (t0 t1 t2 : Value) (s : AS) : Option (Value × List Blk × Option Nat) :=
(aLen PP t_L_int t0 s).bind fun x9 =>
(aMakeSlice PP t_L_int x9 x9 s).bind fun r10 =>
eBuiltin PP .copy #[t_L_int, t_L_int] [r10.1, t0] r10.2 fun x11 s12 =>
(C n_slices_Sort_L_int_int [r10.1] s12.H).bind fun r13 =>
(aLen PP t_L_int t0 (AS.mk r13.2.1 (joinEsc s12.esc r13.2.2))).bind fun x14 =>
(aBin PP .sub t_int (.tmp 39) (.const (.int .i64 1)) x14 (.int .i64 1)).bind fun x15 =>
(aBin PP .mul t_int (.tmp 40) (.tmp 41) x15 t1).bind fun x16 =>
(aBin PP .quo t_int (.tmp 42) (.tmp 43) x16 t2).bind fun x17 =>
(aIndexAddr PP t_L_int r10.1 x17).bind fun x18 =>
(aLoad false 1 (AS.mk r13.2.1 (joinEsc s12.esc r13.2.2)) x18).bind fun x19 =>
fin PP false n0 [x19, .bool true] (AS.mk r13.2.1 (joinEsc s12.esc r13.2.2))
noncomputable def sh (C : Am.Callee) (L : Loops) (n0 : Nat) (t0 t1 t2 : Value) (s : AS) : Option (Value × List Blk × Option Nat) :=
(((aLen PP t_L_int t0 s).bind fun x1 =>
(aBin PP .eql t_int (.tmp 10) (.const (.int .i64 0)) x1 (.int .i64 0)).bind fun x2 =>
bcase x2 (
some (AEx.normal, [t0, t1, t2, .bool true], s)) (
(aBin PP .lss t_int (.tmp 13) (.const (.int .i64 1)) t2 (.int .i64 1)).bind fun x3 =>
bcase x3 (
some (AEx.normal, [t0, t1, t2, .bool true], s)) (
(aBin PP .gtr t_int (.tmp 17) (.const (.int .i64 1000)) t2 (.int .i64 1000)).bind fun x4 =>
bcase x4 (
some (AEx.normal, [t0, t1, t2, .bool true], s)) (
(aBin PP .lss t_int (.tmp 21) (.const (.int .i64 0)) t1 (.int .i64 0)).bind fun x5 =>
bcase x5 (
some (AEx.normal, [t0, t1, t2, .bool true], s)) (
(aBin PP .gtr t_int (.tmp 25) (.tmp 26) t1 t2).bind fun x6 =>
some (AEx.normal, [t0, t1, t2, x6], s)))))).bind fun r7 =>
match r7.1 with
| .normal => j0 C L n0 ((r7.2.1.getD 0 unk)) ((r7.2.1.getD 1 unk)) ((r7.2.1.getD 2 unk)) ((r7.2.1.getD 3 unk)) r7.2.2
| .exit i => some (AEx.exit i, [(r7.2.1.getD 0 unk), (r7.2.1.getD 1 unk), (r7.2.1.getD 2 unk), unk, unk], r7.2.2)
| .ret => some (AEx.ret, [(r7.2.1.getD 0 unk), (r7.2.1.getD 1 unk), (r7.2.1.getD 2 unk), unk, unk], r7.2.2)).bind fun r8 =>
match r8.1 with
| .normal => j1 C L n0 ((r8.2.1.getD 0 unk)) ((r8.2.1.getD 1 unk)) ((r8.2.1.getD 2 unk)) r8.2.2
| .exit i => none
| .ret => fin PP false n0 [(r8.2.1.getD 3 unk), (r8.2.1.getD 4 unk)] r8.2.2
def T : Tab := ⟨fun i => none, fun i => none, false, fun i => if i = 2 then some [0, 1, 2, 28] else if i = 3 then some [0, 1, 2, 6, 7] else none, fun _ => false, false, false, fun _ => false, 6, false, none⟩
end stats_Rank
namespace twainref47_Rank
noncomputable def j0 (C : Am.Callee) (L : Loops) (n0 : Nat) (t0 t1 t2 t27 : Value) (s : AS) : Option (AEx × List Value × AS) :=
bcase t27 (
some (AEx.ret, [t0, t1, t2, .int .i64 0, .bool false], s)) (
some (AEx.normal, [t0, t1, t2, unk, unk], s))
noncomputable def j1 (C : Am.Callee) (L : Loops) (n0 : Nat) (t0 t1 t2 : Value) (s : AS) : Option (Value × List Blk × Option Nat) :=
(aLen PP t_L_int t0 s).bind fun x9 =>
(aBin PP .sub t_int (.tmp 31) (.const (.int .i64 1)) x9 (.int .i64 1)).bind fun x10 =>
(aBin PP .mul t_int (.tmp 32) (.tmp 33) x10 t1).bind fun x11 =>
(aBin PP .quo t_int (.tmp 34) (.tmp 35) x11 t2).bind fun x12 =>
(C n_twainref47_sorted [t0] s.H).bind fun r13 =>
if ((((aLen PP t_L_int t0 (AS.mk r13.2.1 (joinEsc s.esc r13.2.2))).bind fun x16 =>
some (veq x16 x9)) == some true) && true) = true then
(aIndexAddr PP t_L_int r13.1 x12).bind fun x14 =>
(aLoad false 1 (AS.mk r13.2.1 (joinEsc s.esc r13.2.2)) x14).bind fun x15 =>
fin PP false n0 [x15, .bool true] (AS.mk r13.2.1 (joinEsc s.esc r13.2.2))
else none
noncomputable def sh (C : Am.Callee) (L : Loops) (n0 : Nat) (t0 t1 t2 : Value) (s : AS) : Option (Value × List Blk × Option Nat) :=
(((aLen PP t_L_int t0 s).bind fun x1 =>
(aBin PP .eql t_int (.tmp 9) (.const (.int .i64 0)) x1 (.int .i64 0)).bind fun x2 =>
bcase x2 (
some (AEx.normal, [t0, t1, t2, .bool true], s)) (
(aBin PP .lss t_int (.tmp 12) (.const (.int .i64 1)) t2 (.int .i64 1)).bind fun x3 =>
bcase x3 (
some (AEx.normal, [t0, t1, t2, .bool true], s)) (
(aBin PP .gtr t_int (.tmp 16) (.const (.int .i64 1000)) t2 (.int .i64 1000)).bind fun x4 =>
bcase x4 (
some (AEx.normal, [t0, t1, t2, .bool true], s)) (
(aBin PP .lss t_int (.tmp 20) (.const (.int .i64 0)) t1 (.int .i64 0)).bind fun x5 =>
bcase x5 (
some (AEx.normal, [t0, t1, t2, .bool true], s)) (
(aBin PP .gtr t_int (.tmp 24) (.tmp 25) t1 t2).bind fun x6 =>
some (AEx.normal, [t0, t1, t2, x6], s)))))).bind fun r7 =>
match r7.1 with
| .normal => j0 C L n0 ((r7.2.1.getD 0 unk)) ((r7.2.1.getD 1 unk)) ((r7.2.1.getD 2 unk)) ((r7.2.1.getD 3 unk)) r7.2.2
| .exit i => some (AEx.exit i, [(r7.2.1.getD 0 unk), (r7.2.1.getD 1 unk), (r7.2.1.getD 2 unk), unk, unk], r7.2.2)
| .ret => some (AEx.ret, [(r7.2.1.getD 0 unk), (r7.2.1.getD 1 unk), (r7.2.1.getD 2 unk), unk, unk], r7.2.2)).bind fun r8 =>
match r8.1 with
| .normal => j1 C L n0 ((r8.2.1.getD 0 unk)) ((r8.2.1.getD 1 unk)) ((r8.2.1.getD 2 unk)) r8.2.2
| .exit i => none
| .ret => fin PP false n0 [(r8.2.1.getD 3 unk), (r8.2.1.getD 4 unk)] r8.2.2
def T : Tab := ⟨fun i => none, fun i => none, false, fun i => if i = 2 then some [0, 1, 2, 27] else if i = 3 then some [0, 1, 2, 6, 7] else none, fun _ => false, false, false, fun _ => false, 7, false, none⟩
end twainref47_Rank
namespace stats_Bars
noncomputable def j0 (C : Am.Callee) (L : Loops) (n0 : Nat) (t0 t1 t2 t19 : Value) (s : AS) : Option (AEx × List Value × AS) :=
bcase t19 (
some (AEx.ret, [t0, t1, t2, .slice none 0 0], s)) (
some (AEx.normal, [t0, t1, t2, unk], s))
noncomputable def loop5 (C : Am.Callee) (L : Loops) (n0 : Nat) (t1 t2 t7 t22 t23 t24 : Value) (s : AS) : Option ((List Value × AS) ⊕ (AEx × List Value × AS)) :=
(aBin PP .lss t_int (.tmp 24) (.tmp 23) t24 t23).bind fun x8 =>
bcase x8 (
(aIndexAddr PP t_L_int t22 t24).bind fun x9 =>
(aLoad false 1 s x9).bind fun x10 =>
eBuiltin PP .max #[t_int, t_int] [x10, .int .i64 0] s fun x11 s12 =>
(aBin PP .quo t_int (.tmp 30) (.tmp 31) x11 t1).bind fun x13 =>
(aBin PP .sub t_int (.tmp 33) (.const (.int .i64 1)) t2 (.int .i64 1)).bind fun x14 =>
eBuiltin PP .min #[t_int, t_int] [x13, x14] s12 fun x15 s16 =>
(aIndexAddr PP t_L_int t7 x15).bind fun x17 =>
(aLoad false 1 s16 x17).bind fun x18 =>
(aBin PP .add t_int (.tmp 37) (.const (.int .i64 1)) x18 (.int .i64 1)).bind fun x19 =>
(aIndexAddr PP t_L_int t7 x15).bind fun x20 =>
(aStore 1 s16 x20 x19).bind fun s21 =>
(aBin PP .add t_int (.tmp 24) (.const (.int .i64 1)) t24 (.int .i64 1)).bind fun x22 =>
some (.inl ([t1, t2, t7, t22, t23, x22], s21))) (
some (.inr (.exit 0, [t7], s)))
noncomputable def loop5s (C : Am.Callee) (L : Loops) (n0 : Nat) : List Value × AS → Option ((List Value × AS) ⊕ (AEx × List Value × AS)) := fun s => loop5 C L n0 (s.1.getD 0 unk) (s.1.getD 1 unk) (s.1.getD 2 unk) (s.1.getD 3 unk) (s.1.getD 4 unk) (s.1.getD 5 unk) s.2
noncomputable def j4 (C : Am.Callee) (L : Loops) (n0 : Nat) (t7 : Value) (s : AS) : Option (Value × List Blk × Option Nat) :=
fin PP false n0 [t7] s
noncomputable def j1 (C : Am.Callee) (L : Loops) (n0 : Nat) (t0 t1 t2 : Value) (s : AS) : Option (Value × List Blk × Option Nat) :=
(aMakeSlice PP t_L_int t2 t2 s).bind fun r6 =>
((aLen PP t_L_int t0 r6.2).bind fun x7 =>
(L n0 (loop5s C L n0) ([t1, t2, r6.1, t0, x7, .int .i64 0], r6.2)).bind fun r23 =>
match r23.1 with
| .normal => some (AEx.normal, [(r23.2.1.getD 0 unk)], r23.2.2)
| .exit i => if i = 0 then some (AEx.normal, [(r23.2.1.getD 0 unk)], r23.2.2) else some (AEx.exit i, [(r23.2.1.getD 0 unk)], r23.2.2)
| .ret => some (AEx.ret, [(r23.2.1.getD 0 unk)], r23.2.2)).bind fun r24 =>
match r24.1 with
| .normal => j4 C L n0 ((r24.2.1.getD 0 unk)) r24.2.2
| .exit i => none
| .ret => fin PP false n0 [unk] r24.2.2
noncomputable def sh (C : Am.Callee) (L : Loops) (n0 : Nat) (t0 t1 t2 : Value) (s : AS) : Option (Value × List Blk × Option Nat) :=
(((aBin PP .lss t_int (.tmp 10) (.const (.int .i64 1)) t1 (.int .i64 1)).bind fun x1 =>
bcase x1 (
some (AEx.normal, [t0, t1, t2, .bool true], s)) (
(aBin PP .lss t_int (.tmp 13) (.const (.int .i64 1)) t2 (.int .i64 1)).bind fun x2 =>
bcase x2 (
some (AEx.normal, [t0, t1, t2, .bool true], s)) (
(aBin PP .gtr t_int (.tmp 17) (.const (.int .i64 100)) t2 (.int .i64 100)).bind fun x3 =>
some (AEx.normal, [t0, t1, t2, x3], s)))).bind fun r4 =>
match r4.1 with
| .normal => j0 C L n0 ((r4.2.1.getD 0 unk)) ((r4.2.1.getD 1 unk)) ((r4.2.1.getD 2 unk)) ((r4.2.1.getD 3 unk)) r4.2.2
| .exit i => some (AEx.exit i, [(r4.2.1.getD 0 unk), (r4.2.1.getD 1 unk), (r4.2.1.getD 2 unk), unk], r4.2.2)
| .ret => some (AEx.ret, [(r4.2.1.getD 0 unk), (r4.2.1.getD 1 unk), (r4.2.1.getD 2 unk), unk], r4.2.2)).bind fun r5 =>
match r5.1 with
| .normal => j1 C L n0 ((r5.2.1.getD 0 unk)) ((r5.2.1.getD 1 unk)) ((r5.2.1.getD 2 unk)) r5.2.2
| .exit i => none
| .ret => fin PP false n0 [(r5.2.1.getD 3 unk)] r5.2.2
def T : Tab := ⟨fun i => if i = 5 then some [1, 2, 7, 22, 23, 24] else none, fun i => if i = 5 then some [7] else none, false, fun i => if i = 2 then some [0, 1, 2, 19] else if i = 3 then some [0, 1, 2, 6] else if i = 9 then some [7] else none, fun _ => false, false, false, fun _ => false, 8, false, none⟩
end stats_Bars
namespace twainref01_Ints
noncomputable def loop4 (C : Am.Callee) (L : Loops) (n0 : Nat) (t0 t1 t12 t13 : Value) (s : AS) : Option ((List Value × AS) ⊕ (AEx × List Value × AS)) :=
(aBin PP .lss t_int (.tmp 13) (.tmp 12) t13 t12).bind fun x5 =>
bcase x5 (
(aIndexAddr PP t_L_int t0 t13).bind fun x6 =>
(aLoad false 1 s x6).bind fun x7 =>
(aIndexAddr PP t_L_int t1 t13).bind fun x8 =>
(aLoad false 1 s x8).bind fun x9 =>
(aBin PP .neq t_int (.tmp 19) (.tmp 23) x7 x9).bind fun x10 =>
bcase x10 (
some (.inr (.ret, [.bool false], s))) (
(aBin PP .add t_int (.tmp 13) (.const (.int .i64 1)) t13 (.int .i64 1)).bind fun x11 =>
some (.inl ([t0, t1, t12, x11], s)))) (
some (.inr (.exit 0, [unk], s)))
noncomputable def loop4s (C : Am.Callee) (L : Loops) (n0 : Nat) : List Value × AS → Option ((List Value × AS) ⊕ (AEx × List Value × AS)) := fun s => loop4 C L n0 (s.1.getD 0 unk) (s.1.getD 1 unk) (s.1.getD 2 unk) (s.1.getD 3 unk) s.2
noncomputable def j2 (C : Am.Callee) (L : Loops) (n0 : Nat) (s : AS) : Option (Value × List Blk × Option Nat) :=
fin PP false n0 [.bool true] s
noncomputable def sh (C : Am.Callee) (L : Loops) (n0 : Nat) (t0 t1 : Value) (s : AS) : Option (Value × List Blk × Option Nat) :=
(aLen PP t_L_int t0 s).bind fun x1 =>
(aLen PP t_L_int t1 s).bind fun x2 =>
(aBin PP .neq t_int (.tmp 7) (.tmp 9) x1 x2).bind fun x3 =>
bcase x3 (
fin PP false n0 [.bool false] s) (
((aLen PP t_L_int t0 s).bind fun x4 =>
(L n0 (loop4s C L n0) ([t0, t1, x4, .int .i64 0], s)).bind fun r12 =>
match r12.1 with
| .normal => some (AEx.normal, [(r12.2.1.getD 0 unk)], r12.2.2)
| .exit i => if i = 0 then some (AEx.normal, [(r12.2.1.getD 0 unk)], r12.2.2) else some (AEx.exit i, [(r12.2.1.getD 0 unk)], r12.2.2)
| .ret => some (AEx.ret, [(r12.2.1.getD 0 unk)], r12.2.2)).bind fun r13 =>
match r13.1 with
| .normal => j2 C L n0  r13.2.2
| .exit i => none
| .ret => fin PP false n0 [(r13.2.1.getD 0 unk)] r13.2.2)
def T : Tab := ⟨fun i => if i = 4 then some [0, 1, 12, 13] else none, fun i => if i = 4 then some [4] else none, false, fun i => if i = 9 then some [4] else none, fun _ => false, false, false, fun _ => false, 9, false, none⟩
end twainref01_Ints
namespace twainref47_Bars
noncomputable def j0 (C : Am.Callee) (L : Loops) (n0 : Nat) (t0 t1 t2 t20 : Value) (s : AS) : Option (AEx × List Value × AS) :=
bcase t20 (
some (AEx.ret, [t0, t1, t2, .slice none 0 0], s)) (
some (AEx.normal, [t0, t1, t2, unk], s))
noncomputable def j4 (C : Am.Callee) (L : Loops) (n0 : Nat) (t1 t2 t7 t10 t23 t24 t25 : Value) (s : AS) : Option (AEx × List Value × AS) :=
(aIndexAddr PP t_L_int t7 t10).bind fun x17 =>
(aLoad false 1 s x17).bind fun x18 =>
(aBin PP .add t_int (.tmp 42) (.const (.int .i64 1)) x18 (.int .i64 1)).bind fun x19 =>
(aIndexAddr PP t_L_int t7 t10).bind fun x20 =>
(aStore 1 s x20 x19).bind fun s21 =>
some (AEx.normal, [t1, t2, t7, t23, t24, t25], s21)
noncomputable def j3 (C : Am.Callee) (L : Loops) (n0 : Nat) (t1 t2 t7 t10 t23 t24 t25 : Value) (s : AS) : Option (AEx × List Value × AS) :=
((aBin PP .geq t_int (.tmp 34) (.tmp 35) t10 t2).bind fun x14 =>
bcase x14 (
(aBin PP .sub t_int (.tmp 37) (.const (.int .i64 1)) t2 (.int .i64 1)).bind fun x15 =>
some (AEx.normal, [t1, t2, t7, x15, t23, t24, t25], s)) (
some (AEx.normal, [t1, t2, t7, t10, t23, t24, t25], s))).bind fun r16 =>
match r16.1 with
| .normal => j4 C L n0 ((r16.2.1.getD 0 unk)) ((r16.2.1.getD 1 unk)) ((r16.2.1.getD 2 unk)) ((r16.2.1.getD 3 unk)) ((r16.2.1.getD 4 unk)) ((r16.2.1.getD 5 unk)) ((r16.2.1.getD 6 unk)) r16.2.2
| .exit i => if i = 1 then some (AEx.normal, [(r16.2.1.getD 0 unk), (r16.2.1.getD 1 unk), (r16.2.1.getD 2 unk), (r16.2.1.getD 4 unk), (r16.2.1.getD 5 unk), (r16.2.1.getD 6 unk)], r16.2.2) else some (AEx.exit i, [(r16.2.1.getD 0 unk), (r16.2.1.getD 1 unk), (r16.2.1.getD 2 unk), (r16.2.1.getD 4 unk), (r16.2.1.getD 5 unk), (r16.2.1.getD 6 unk)], r16.2.2)
| .ret => some (AEx.ret, [(r16.2.1.getD 0 unk), (r16.2.1.getD 1 unk), (r16.2.1.getD 2 unk), (r16.2.1.getD 4 unk), (r16.2.1.getD 5 unk), (r16.2.1.getD 6 unk)], r16.2.2)
noncomputable def j5 (C : Am.Callee) (L : Loops) (n0 : Nat) (t1 t2 t7 t23 t24 t25 : Value) (s : AS) : Option ((List Value × AS) ⊕ (AEx × List Value × AS)) :=
(aBin PP .add t_int (.tmp 25) (.const (.int .i64 1)) t25 (.int .i64 1)).bind fun x23 =>
some (.inl ([t1, t2, t7, t23, t24, x23], s))
noncomputable def loop5 (C : Am.Callee) (L : Loops) (n0 : Nat) (t1 t2 t7 t23 t24 t25 : Value) (s : AS) : Option ((List Value × AS) ⊕ (AEx × List Value × AS)) :=
(aBin PP .lss t_int (.tmp 25) (.tmp 24) t25 t24).bind fun x8 =>
bcase x8 (
((aIndexAddr PP t_L_int t23 t25).bind fun x9 =>
(aLoad false 1 s x9).bind fun x10 =>
((aBin PP .gtr t_int (.tmp 29) (.const (.int .i64 0)) x10 (.int .i64 0)).bind fun x11 =>
bcase x11 (
(aBin PP .quo t_int (.tmp 31) (.tmp 32) x10 t1).bind fun x12 =>
some (AEx.normal, [t1, t2, t7, x12, t23, t24, t25], s)) (
some (AEx.normal, [t1, t2, t7, .int .i64 0, t23, t24, t25], s))).bind fun r13 =>
match r13.1 with
| .normal => j3 C L n0 ((r13.2.1.getD 0 unk)) ((r13.2.1.getD 1 unk)) ((r13.2.1.getD 2 unk)) ((r13.2.1.getD 3 unk)) ((r13.2.1.getD 4 unk)) ((r13.2.1.getD 5 unk)) ((r13.2.1.getD 6 unk)) r13.2.2
| .exit i => if i = 1 then some (AEx.normal, [(r13.2.1.getD 0 unk), (r13.2.1.getD 1 unk), (r13.2.1.getD 2 unk), (r13.2.1.getD 4 unk), (r13.2.1.getD 5 unk), (r13.2.1.getD 6 unk)], r13.2.2) else some (AEx.exit i, [(r13.2.1.getD 0 unk), (r13.2.1.getD 1 unk), (r13.2.1.getD 2 unk), (r13.2.1.getD 4 unk), (r13.2.1.getD 5 unk), (r13.2.1.getD 6 unk)], r13.2.2)
| .ret => some (AEx.ret, [(r13.2.1.getD 0 unk), (r13.2.1.getD 1 unk), (r13.2.1.getD 2 unk), (r13.2.1.getD 4 unk), (r13.2.1.getD 5 unk), (r13.2.1.getD 6 unk)], r13.2.2)).bind fun r22 =>
match r22.1 with
| .normal => j5 C L n0 ((r22.2.1.getD 0 unk)) ((r22.2.1.getD 1 unk)) ((r22.2.1.getD 2 unk)) ((r22.2.1.getD 3 unk)) ((r22.2.1.getD 4 unk)) ((r22.2.1.getD 5 unk)) r22.2.2
| .exit i => some (.inr (.exit i, [(r22.2.1.getD 2 unk)], r22.2.2))
| .ret => some (.inr (.ret, [(r22.2.1.getD 2 unk)], r22.2.2))) (
some (.inr (.exit 0, [t7], s)))
noncomputable def loop5s (C : Am.Callee) (L : Loops) (n0 : Nat) : List Value × AS → Option ((List Value × AS) ⊕ (AEx × List Value × AS)) := fun s => loop5 C L n0 (s.1.getD 0 unk) (s.1.getD 1 unk) (s.1.getD 2 unk) (s.1.getD 3 unk) (s.1.getD 4 unk) (s.1.getD 5 unk) s.2
noncomputable def j7 (C : Am.Callee) (L : Loops) (n0 : Nat) (t7 : Value) (s : AS) : Option (Value × List Blk × Option Nat) :=
fin PP false n0 [t7] s
noncomputable def j1 (C : Am.Callee) (L : Loops) (n0 : Nat) (t0 t1 t2 : Value) (s : AS) : Option (Value × List Blk × Option Nat) :=
(aMakeSlice PP t_L_int t2 t2 s).bind fun r6 =>
((aLen PP t_L_int t0 r6.2).bind fun x7 =>
(L n0 (loop5s C L n0) ([t1, t2, r6.1, t0, x7, .int .i64 0], r6.2)).bind fun r24 =>
match r24.1 with
| .normal => some (AEx.normal, [(r24.2.1.getD 0 unk)], r24.2.2)
| .exit i => if i = 0 then some (AEx.normal, [(r24.2.1.getD 0 unk)], r24.2.2) else some (AEx.exit i, [(r24.2.1.getD 0 unk)], r24.2.2)
| .ret => some (AEx.ret, [(r24.2.1.getD 0 unk)], r24.2.2)).bind fun r25 =>
match r25.1 with
| .normal => j7 C L n0 ((r25.2.1.getD 0 unk)) r25.2.2
| .exit i => none
| .ret => fin PP false n0 [unk] r25.2.2
noncomputable def sh (C : Am.Callee) (L : Loops) (n0 : Nat) (t0 t1 t2 : Value) (s : AS) : Option (Value × List Blk × Option Nat) :=
(((aBin PP .lss t_int (.tmp 11) (.const (.int .i64 1)) t1 (.int .i64 1)).bind fun x1 =>
bcase x1 (
some (AEx.normal, [t0, t1, t2, .bool true], s)) (
(aBin PP .lss t_int (.tmp 14) (.const (.int .i64 1)) t2 (.int .i64 1)).bind fun x2 =>
bcase x2 (
some (AEx.normal, [t0, t1, t2, .bool true], s)) (
(aBin PP .gtr t_int (.tmp 18) (.const (.int .i64 100)) t2 (.int .i64 100)).bind fun x3 =>
some (AEx.normal, [t0, t1, t2, x3], s)))).bind fun r4 =>
match r4.1 with
| .normal => j0 C L n0 ((r4.2.1.getD 0 unk)) ((r4.2.1.getD 1 unk)) ((r4.2.1.getD 2 unk)) ((r4.2.1.getD 3 unk)) r4.2.2
| .exit i => some (AEx.exit i, [(r4.2.1.getD 0 unk), (r4.2.1.getD 1 unk), (r4.2.1.getD 2 unk), unk], r4.2.2)
| .ret => some (AEx.ret, [(r4.2.1.getD 0 unk), (r4.2.1.getD 1 unk), (r4.2.1.getD 2 unk), unk], r4.2.2)).bind fun r5 =>
match r5.1 with
| .normal => j1 C L n0 ((r5.2.1.getD 0 unk)) ((r5.2.1.getD 1 unk)) ((r5.2.1.getD 2 unk)) r5.2.2
| .exit i => none
| .ret => fin PP false n0 [(r5.2.1.getD 3 unk)] r5.2.2
def T : Tab := ⟨fun i => if i = 5 then some [1, 2, 7, 23, 24, 25] else none, fun i => if i = 5 then some [7] else none, false, fun i => if i = 2 then some [0, 1, 2, 20] else if i = 3 then some [0, 1, 2, 6] else if i = 10 then some [1, 2, 7, 10, 23, 24, 25] else if i = 12 then some [1, 2, 7, 10, 23, 24, 25] else if i = 13 then some [1, 2, 7, 23, 24, 25] else if i = 14 then some [7] else none, fun _ => false, false, false, fun _ => false, 10, false, none⟩
end twainref47_Bars
namespace twainref47_sorted
noncomputable def j2 (C : Am.Callee) (L : Loops) (n0 : Nat) (t3 t5 t10 t11 t28 : Value) (s : AS) : Option (AEx × List Value × AS) :=
bcase t28 (
some (AEx.normal, [t3, t5, t10, t11], s)) (
some (AEx.exit 2, [t3, t5, t10, t11], s))
noncomputable def j3 (C : Am.Callee) (L : Loops) (n0 : Nat) (t3 t5 t10 t11 : Value) (s : AS) : Option ((List Value × AS) ⊕ (AEx × List Value × AS)) :=
(aBin PP .sub t_int (.tmp 32) (.const (.int .i64 1)) t5 (.int .i64 1)).bind fun x14 =>
(aIndexAddr PP t_L_int t3 t5).bind fun x15 =>
(aLoad false 1 s x15).bind fun x16 =>
(aBin PP .sub t_int (.tmp 41) (.const (.int .i64 1)) t5 (.int .i64 1)).bind fun x17 =>
(aIndexAddr PP t_L_int t3 x17).bind fun x18 =>
(aLoad false 1 s x18).bind fun x19 =>
(aIndexAddr PP t_L_int t3 x14).bind fun x20 =>
(aStore 1 s x20 x16).bind fun s21 =>
(aIndexAddr PP t_L_int t3 t5).bind fun x22 =>
(aStore 1 s21 x22 x19).bind fun s23 =>
(aBin PP .sub t_int (.tmp 29) (.const (.int .i64 1)) t5 (.int .i64 1)).bind fun x24 =>
some (.inl ([t3, x24, t10, t11], s23))
noncomputable def loop6 (C : Am.Callee) (L : Loops) (n0 : Nat) (t3 t5 t10 t11 : Value) (s : AS) : Option ((List Value × AS) ⊕ (AEx × List Value × AS)) :=
((aBin PP .gtr t_int (.tmp 15) (.const (.int .i64 0)) t5 (.int .i64 0)).bind fun x6 =>
bcase x6 (
(aBin PP .sub t_int (.tmp 19) (.const (.int .i64 1)) t5 (.int .i64 1)).bind fun x7 =>
(aIndexAddr PP t_L_int t3 x7).bind fun x8 =>
(aLoad false 1 s x8).bind fun x9 =>
(aIndexAddr PP t_L_int t3 t5).bind fun x10 =>
(aLoad false 1 s x10).bind fun x11 =>
(aBin PP .gtr t_int (.tmp 22) (.tmp 26) x9 x11).bind fun x12 =>
j2 C L n0 t3 t5 t10 t11 x12 s) (
j2 C L n0 t3 t5 t10 t11 (.bool false) s)).bind fun r13 =>
match r13.1 with
| .normal => j3 C L n0 ((r13.2.1.getD 0 unk)) ((r13.2.1.getD 1 unk)) ((r13.2.1.getD 2 unk)) ((r13.2.1.getD 3 unk)) r13.2.2
| .exit i => some (.inr (.exit i, [(r13.2.1.getD 0 unk), (r13.2.1.getD 2 unk), (r13.2.1.getD 3 unk)], r13.2.2))
| .ret => some (.inr (.ret, [(r13.2.1.getD 0 unk), (r13.2.1.getD 2 unk), (r13.2.1.getD 3 unk)], r13.2.2))
noncomputable def loop6s (C : Am.Callee) (L : Loops) (n0 : Nat) : List Value × AS → Option ((List Value × AS) ⊕ (AEx × List Value × AS)) := fun s => loop6 C L n0 (s.1.getD 0 unk) (s.1.getD 1 unk) (s.1.getD 2 unk) (s.1.getD 3 unk) s.2
noncomputable def j5 (C : Am.Callee) (L : Loops) (n0 : Nat) (t3 t10 t11 : Value) (s : AS) : Option ((List Value × AS) ⊕ (AEx × List Value × AS)) :=
(aBin PP .add t_int (.tmp 11) (.const (.int .i64 1)) t11 (.int .i64 1)).bind fun x27 =>
some (.inl ([t3, t10, x27], s))
noncomputable def loop3 (C : Am.Callee) (L : Loops) (n0 : Nat) (t3 t10 t11 : Value) (s : AS) : Option ((List Value × AS) ⊕ (AEx × List Value × AS)) :=
(aBin PP .lss t_int (.tmp 11) (.tmp 10) t11 t10).bind fun x5 =>
bcase x5 (
((L n0 (loop6s C L n0) ([t3, t11, t10, t11], s)).bind fun r25 =>
match r25.1 with
| .normal => some (AEx.normal, [(r25.2.1.getD 0 unk), (r25.2.1.getD 1 unk), (r25.2.1.getD 2 unk)], r25.2.2)
| .exit i => if i = 2 then some (AEx.normal, [(r25.2.1.getD 0 unk), (r25.2.1.getD 1 unk), (r25.2.1.getD 2 unk)], r25.2.2) else if i = 1 then some (AEx.normal, [(r25.2.1.getD 0 unk), (r25.2.1.getD 1 unk), (r25.2.1.getD 2 unk)], r25.2.2) else some (AEx.exit i, [(r25.2.1.getD 0 unk), (r25.2.1.getD 1 unk), (r25.2.1.getD 2 unk)], r25.2.2)
| .ret => some (AEx.ret, [(r25.2.1.getD 0 unk), (r25.2.1.getD 1 unk), (r25.2.1.getD 2 unk)], r25.2.2)).bind fun r26 =>
match r26.1 with
| .normal => j5 C L n0 ((r26.2.1.getD 0 unk)) ((r26.2.1.getD 1 unk)) ((r26.2.1.getD 2 unk)) r26.2.2
| .exit i => some (.inr (.exit i, [(r26.2.1.getD 0 unk)], r26.2.2))
| .ret => some (.inr (.ret, [(r26.2.1.getD 0 unk)], r26.2.2))) (
some (.inr (.exit 0, [t3], s)))
noncomputable def loop3s (C : Am.Callee) (L : Loops) (n0 : Nat) : List Value × AS → Option ((List Value × AS) ⊕ (AEx × List Value × AS)) := fun s => loop3 C L n0 (s.1.getD 0 unk) (s.1.getD 1 unk) (s.1.getD 2 unk) s.2
noncomputable def j7 (C : Am.Callee) (L : Loops) (n0 : Nat) (t3 : Value) (s : AS) : Option (Value × List Blk × Option Nat) :=
fin PP false n0 [t3] s
noncomputable def sh (C : Am.Callee) (L : Loops) (n0 : Nat) (t0 : Value) (s : AS) : Option (Value × List Blk × Option Nat) :=
(bsl PP t_L_int 0 [] [] s).bind fun r1 =>
eBuiltin PP .append #[t_L_int, t_L_int] [r1.1, t0] r1.2 fun x2 s3 =>
((aLen PP t_L_int x2 s3).bind fun x4 =>
(L n0 (loop3s C L n0) ([x2, x4, .int .i64 0], s3)).bind fun r28 =>
match r28.1 with
| .normal => some (AEx.normal, [(r28.2.1.getD 0 unk)], r28.2.2)
| .exit i => if i = 0 then some (AEx.normal, [(r28.2.1.getD 0 unk)], r28.2.2) else some (AEx.exit i, [(r28.2.1.getD 0 unk)], r28.2.2)
| .ret => some (AEx.ret, [(r28.2.1.getD 0 unk)], r28.2.2)).bind fun r29 =>
match r29.1 with
| .normal => j7 C L n0 ((r29.2.1.getD 0 unk)) r29.2.2
| .exit i => none
| .ret => fin PP false n0 [unk] r29.2.2
def T : Tab := ⟨fun i => if i = 3 then some [3, 10, 11] else if i = 6 then some [3, 5, 10, 11] else none, fun i => if i = 3 then some [3] else if i = 6 then some [3, 10, 11] else none, false, fun i => if i = 8 then some [3, 5, 10, 11] else if i = 9 then some [3, 10, 11] else if i = 10 then some [3] else none, fun _ => false, false, false, fun _ => false, 19, false, none⟩
end twainref47_sorted
namespace slices_Sort_L_int_int
noncomputable def T : Tab := ⟨fun _ => none, fun _ => none, false, fun _ => none, fun _ => false, false, false, fun _ => false, 18, false, some gSort⟩
end slices_Sort_L_int_int
end Go.Proofs.Ytpklhjeccbjalaa
