/- A part of the proof: StShD. Its conditions: none. -/
import Derived.Test.YtpklhjeccbjalaaAm13c
import Derived.Test.YtpklhjeccbjalaaChecked
set_option linter.all false
set_option linter.unusedVariables false
set_option linter.unusedSimpArgs false
set_option linter.unnecessarySimpa false
namespace Go.Proofs.Ytpklhjeccbjalaa
open Go Go.Am
set_option linter.unusedVariables false
noncomputable abbrev PP : Program := Try.prog
abbrev n_main_main : FuncId := 0
abbrev n_gosem_cut : FuncId := 1
abbrev n_gosem_cut_init : FuncId := 2
abbrev n_twainlaw47_StatsRanks : FuncId := 3
abbrev n_twainlaw47_StatsWaits : FuncId := 4
abbrev n_twainlaw47_lives : FuncId := 5
abbrev n_stats_Rank : FuncId := 6
abbrev n_twainref47_Rank : FuncId := 7
abbrev n_stats_Bars : FuncId := 8
abbrev n_twainref01_Ints : FuncId := 9
abbrev n_twainref47_Bars : FuncId := 10
abbrev n_twainlaw36_Few : FuncId := 11
abbrev n_twainlaw36_Raw : FuncId := 12
abbrev n_stats_Waits : FuncId := 13
abbrev n_twainref47_Waits : FuncId := 14
abbrev n_stats_Most : FuncId := 15
abbrev n_twainref47_Most : FuncId := 16
abbrev n_stats_Of : FuncId := 17
abbrev n_slices_Sort_L_int_int : FuncId := 18
abbrev n_twainref47_sorted : FuncId := 19
abbrev n_stats_pairs : FuncId := 20
abbrev n_twainref47_end : FuncId := 21
abbrev n_stats_Most_1 : FuncId := 22
abbrev n_P_stats_Stats_ask : FuncId := 23
abbrev n_slices_pdqsortOrdered_int : FuncId := 24
abbrev n_math_bits_Len : FuncId := 25
abbrev n_twainref47_in : FuncId := 26
abbrev n_twainref36_Open : FuncId := 27
abbrev n_slices_insertionSortOrdered_int : FuncId := 28
abbrev n_slices_heapSortOrdered_int : FuncId := 29
abbrev n_slices_breakPatternsOrdered_int : FuncId := 30
abbrev n_slices_choosePivotOrdered_int : FuncId := 31
abbrev n_slices_reverseRangeOrdered_int : FuncId := 32
abbrev n_slices_partialInsertionSortOrdered_int : FuncId := 33
abbrev n_cmp_Less_int : FuncId := 34
abbrev n_slices_partitionEqualOrdered_int : FuncId := 35
abbrev n_slices_partitionOrdered_int : FuncId := 36
abbrev n_math_bits_Len32 : FuncId := 37
abbrev n_math_bits_Len64 : FuncId := 38
abbrev n_twainref36_ended : FuncId := 39
abbrev n_slices_siftDownOrdered_int : FuncId := 40
abbrev n_slices_nextPowerOfTwo : FuncId := 41
abbrev n_P_slices_xorshift_Next : FuncId := 42
abbrev n_slices_medianAdjacentOrdered_int : FuncId := 43
abbrev n_slices_medianOrdered_int : FuncId := 44
abbrev n_cmp_isNaN_int : FuncId := 45
abbrev n_twainref36_asked : FuncId := 46
abbrev n_slices_order2Ordered_int : FuncId := 47
abbrev n_runtime_boundsError_Error : FuncId := 48
abbrev n_runtime_boundsError_RuntimeError : FuncId := 49
abbrev n_runtime_errorString_Error : FuncId := 50
abbrev n_runtime_errorString_RuntimeError : FuncId := 51
abbrev n_runtime_plainError_Error : FuncId := 52
abbrev n_runtime_plainError_RuntimeError : FuncId := 53
abbrev n_runtime_errorAddressString_Error : FuncId := 54
abbrev n_runtime_errorAddressString_RuntimeError : FuncId := 55
abbrev n_P_runtime_TypeAssertionError_Error : FuncId := 56
abbrev n_P_runtime_TypeAssertionError_RuntimeError : FuncId := 57
abbrev n_P_runtime_PanicNilError_Error : FuncId := 58
abbrev n_P_runtime_PanicNilError_RuntimeError : FuncId := 59
abbrev n_P_internal_abi_Type_Align : FuncId := 60
abbrev n_internal_runtime_maps_unhashableTypeE_d411d0 : FuncId := 61
abbrev n_internal_runtime_maps_unhashableTypeE_88efe4 : FuncId := 62
abbrev n_internal_abi_Kind_String : FuncId := 63
abbrev t_unit : TypeId := 0
abbrev t_F023062 : TypeId := 1
abbrev t_int64 : TypeId := 2
abbrev t_int : TypeId := 3
abbrev t_bool : TypeId := 4
abbrev t_uint8 : TypeId := 5
abbrev t_abi_BoundsErrorCode : TypeId := 6
abbrev t_S81e5bf : TypeId := 7
abbrev t_runtime_boundsError : TypeId := 8
abbrev t_string : TypeId := 9
abbrev t_runtime_errorString : TypeId := 10
abbrev t_runtime_plainError : TypeId := 11
abbrev t_uintptr : TypeId := 12
abbrev t_S9bc4a9 : TypeId := 13
abbrev t_runtime_errorAddressString : TypeId := 14
abbrev t_P_runtime_TypeAssertionError : TypeId := 15
abbrev t_P_runtime_PanicNilError : TypeId := 16
abbrev t_P_abi_Type : TypeId := 17
abbrev t_S6875f2 : TypeId := 18
abbrev t_maps_unhashableTypeError : TypeId := 19
abbrev t_interface : TypeId := 20
abbrev t_int32 : TypeId := 21
abbrev t_L_int : TypeId := 22
abbrev t_S90781d : TypeId := 23
abbrev t_twainlaw47_Case : TypeId := 24
abbrev t_Fa86e39 : TypeId := 25
abbrev t_int_bool : TypeId := 26
abbrev t_F921929 : TypeId := 27
abbrev t_F36cca6 : TypeId := 28
abbrev t_F081862 : TypeId := 29
abbrev t_F751df5 : TypeId := 30
abbrev t_L_twainref34_Event : TypeId := 31
abbrev t_F6f3dd6 : TypeId := 32
abbrev t_L_world_Event : TypeId := 33
abbrev t_F8299a7 : TypeId := 34
abbrev t_F09bab6 : TypeId := 35
abbrev t_Fb7e6b8 : TypeId := 36
abbrev t_F87b48f : TypeId := 37
abbrev t_F1e65b7 : TypeId := 38
abbrev t_Sc01fc2 : TypeId := 39
abbrev t_stats_Stats : TypeId := 40
abbrev t_F951be8 : TypeId := 41
abbrev t_S6c464c : TypeId := 42
abbrev t_api_Span : TypeId := 43
abbrev t_L_uint8 : TypeId := 44
abbrev t_S21fe5b : TypeId := 45
abbrev t_api_Request : TypeId := 46
abbrev t_S71e5a8 : TypeId := 47
abbrev t_world_Event : TypeId := 48
abbrev t_F0fac16 : TypeId := 49
abbrev t_F698beb : TypeId := 50
abbrev t_twainref34_Event : TypeId := 51
abbrev t_M_int_int : TypeId := 52
abbrev t_Fc9cec5 : TypeId := 53
abbrev t_F98340e : TypeId := 54
abbrev t_M_int_bool : TypeId := 55
abbrev t_A2_M_int_bool : TypeId := 56
abbrev t_M_int_M_int_bool : TypeId := 57
abbrev t_F44a6aa : TypeId := 58
abbrev t_Fa57ad0 : TypeId := 59
abbrev t_Fa08cd7 : TypeId := 60
abbrev t_F081320 : TypeId := 61
abbrev t_uint : TypeId := 62
abbrev t_M_stats_key_int : TypeId := 63
abbrev t_Sf72a03 : TypeId := 64
abbrev t_stats_key : TypeId := 65
abbrev t_Fb8aae0 : TypeId := 66
abbrev t_P_stats_Stats : TypeId := 67
abbrev t_F3dd160 : TypeId := 68
abbrev t_slices_sortedHint : TypeId := 69
abbrev t_int_slices_sortedHint : TypeId := 70
abbrev t_F4b8bde : TypeId := 71
abbrev t_Fc472ce : TypeId := 72
abbrev t_F0d5626 : TypeId := 73
abbrev t_Faebc61 : TypeId := 74
abbrev t_Fe4690b : TypeId := 75
abbrev t_F6b0bc9 : TypeId := 76
abbrev t_uint32 : TypeId := 77
abbrev t_F8e2c9a : TypeId := 78
abbrev t_uint64 : TypeId := 79
abbrev t_slices_xorshift : TypeId := 80
abbrev t_F1a8706 : TypeId := 81
abbrev t_F706738 : TypeId := 82
abbrev t_F875ee2 : TypeId := 83
abbrev t_P_int : TypeId := 84
abbrev t_F48b247 : TypeId := 85
abbrev t_F403d54 : TypeId := 86
abbrev t_P_slices_xorshift : TypeId := 87
abbrev t_int_int : TypeId := 88
abbrev t_Fdfd78f : TypeId := 89
abbrev t_F6c6759 : TypeId := 90
abbrev t_S6911b8 : TypeId := 91
abbrev t_runtime_TypeAssertionError : TypeId := 92
abbrev t_A0_P_runtime_PanicNilError : TypeId := 93
abbrev t_S674f3b : TypeId := 94
abbrev t_runtime_PanicNilError : TypeId := 95
abbrev t_F92c41c : TypeId := 96
abbrev t_abi_TFlag : TypeId := 97
abbrev t_abi_Kind : TypeId := 98
abbrev t_F0a8967 : TypeId := 99
abbrev t_P_uint8 : TypeId := 100
abbrev t_abi_NameOff : TypeId := 101
abbrev t_abi_TypeOff : TypeId := 102
abbrev t_Scd6355 : TypeId := 103
abbrev t_abi_Type : TypeId := 104
abbrev t_unsafe_Pointer : TypeId := 105
namespace twainlaw47_StatsWaits
noncomputable def j0 (C : Am.Callee) (L : Loops) (n0 : Nat) (t0 t11 : Value) (s : AS) : Option (AEx × List Value × AS) :=
bcase t11 (
(C n_twainlaw47_lives [] s.H).bind fun r6 =>
some (AEx.ret, [t0, r6.1], AS.mk r6.2.1 (joinEsc s.esc r6.2.2))) (
some (AEx.normal, [t0, unk], s))
noncomputable def j1 (C : Am.Callee) (L : Loops) (n0 : Nat) (t0 : Value) (s : AS) : Option (Value × List Blk × Option Nat) :=
(C n_twainlaw36_Raw [t0] s.H).bind fun r8 =>
(C n_stats_Waits [r8.1] (AS.mk r8.2.1 (joinEsc s.esc r8.2.2)).H).bind fun r9 =>
(C n_twainref47_Waits [t0] (AS.mk r9.2.1 (joinEsc (AS.mk r8.2.1 (joinEsc s.esc r8.2.2)).esc r9.2.2)).H).bind fun r10 =>
(C n_twainref01_Ints [r9.1, r10.1] (AS.mk r10.2.1 (joinEsc (AS.mk r9.2.1 (joinEsc (AS.mk r8.2.1 (joinEsc s.esc r8.2.2)).esc r9.2.2)).esc r10.2.2)).H).bind fun r11 =>
bcase r11.1 (
(C n_stats_Most [r8.1] (AS.mk r11.2.1 (joinEsc (AS.mk r10.2.1 (joinEsc (AS.mk r9.2.1 (joinEsc (AS.mk r8.2.1 (joinEsc s.esc r8.2.2)).esc r9.2.2)).esc r10.2.2)).esc r11.2.2)).H).bind fun r12 =>
(C n_twainref47_Most [t0] (AS.mk r12.2.1 (joinEsc (AS.mk r11.2.1 (joinEsc (AS.mk r10.2.1 (joinEsc (AS.mk r9.2.1 (joinEsc (AS.mk r8.2.1 (joinEsc s.esc r8.2.2)).esc r9.2.2)).esc r10.2.2)).esc r11.2.2)).esc r12.2.2)).H).bind fun r13 =>
(aBin PP .eql t_int (.tmp 22) (.tmp 24) r12.1 r13.1).bind fun x14 =>
bcase x14 (
(C n_twainlaw47_lives [] (AS.mk r13.2.1 (joinEsc (AS.mk r12.2.1 (joinEsc (AS.mk r11.2.1 (joinEsc (AS.mk r10.2.1 (joinEsc (AS.mk r9.2.1 (joinEsc (AS.mk r8.2.1 (joinEsc s.esc r8.2.2)).esc r9.2.2)).esc r10.2.2)).esc r11.2.2)).esc r12.2.2)).esc r13.2.2)).H).bind fun r15 =>
fin PP false n0 [r15.1] (AS.mk r15.2.1 (joinEsc (AS.mk r13.2.1 (joinEsc (AS.mk r12.2.1 (joinEsc (AS.mk r11.2.1 (joinEsc (AS.mk r10.2.1 (joinEsc (AS.mk r9.2.1 (joinEsc (AS.mk r8.2.1 (joinEsc s.esc r8.2.2)).esc r9.2.2)).esc r10.2.2)).esc r11.2.2)).esc r12.2.2)).esc r13.2.2)).esc r15.2.2))) (
fin PP false n0 [.bool false] (AS.mk r13.2.1 (joinEsc (AS.mk r12.2.1 (joinEsc (AS.mk r11.2.1 (joinEsc (AS.mk r10.2.1 (joinEsc (AS.mk r9.2.1 (joinEsc (AS.mk r8.2.1 (joinEsc s.esc r8.2.2)).esc r9.2.2)).esc r10.2.2)).esc r11.2.2)).esc r12.2.2)).esc r13.2.2)))) (
fin PP false n0 [.bool false] (AS.mk r11.2.1 (joinEsc (AS.mk r10.2.1 (joinEsc (AS.mk r9.2.1 (joinEsc (AS.mk r8.2.1 (joinEsc s.esc r8.2.2)).esc r9.2.2)).esc r10.2.2)).esc r11.2.2)))
noncomputable def sh (C : Am.Callee) (L : Loops) (n0 : Nat) (t0 : Value) (s : AS) : Option (Value × List Blk × Option Nat) :=
(((C n_twainlaw36_Few [t0] s.H).bind fun r1 =>
(aUn PP .not r1.1).bind fun x2 =>
bcase x2 (
some (AEx.normal, [t0, .bool true], AS.mk r1.2.1 (joinEsc s.esc r1.2.2))) (
(aLen PP t_L_twainref34_Event t0 (AS.mk r1.2.1 (joinEsc s.esc r1.2.2))).bind fun x3 =>
(aBin PP .gtr t_int (.tmp 9) (.const (.int .i64 30)) x3 (.int .i64 30)).bind fun x4 =>
some (AEx.normal, [t0, x4], AS.mk r1.2.1 (joinEsc s.esc r1.2.2)))).bind fun r5 =>
match r5.1 with
| .normal => j0 C L n0 ((r5.2.1.getD 0 unk)) ((r5.2.1.getD 1 unk)) r5.2.2
| .exit i => some (AEx.exit i, [(r5.2.1.getD 0 unk), unk], r5.2.2)
| .ret => some (AEx.ret, [(r5.2.1.getD 0 unk), unk], r5.2.2)).bind fun r7 =>
match r7.1 with
| .normal => j1 C L n0 ((r7.2.1.getD 0 unk)) r7.2.2
| .exit i => none
| .ret => fin PP false n0 [(r7.2.1.getD 1 unk)] r7.2.2
def T : Tab := ⟨fun i => none, fun i => none, false, fun i => if i = 2 then some [0, 11] else if i = 3 then some [0, 2] else none, fun _ => false, false, false, fun _ => false, 4, false⟩
end twainlaw47_StatsWaits
namespace twainlaw47_lives
noncomputable def sh (C : Am.Callee) (L : Loops) (n0 : Nat) (s : AS) : Option (Value × List Blk × Option Nat) :=
(bsl PP t_L_int 3 [0, 1, 2] [.int .i64 5, .int .i64 1, .int .i64 3] s).bind fun r1 =>
(C n_stats_Rank [r1.1, .int .i64 1, .int .i64 2] r1.2.H).bind fun r2 =>
(pureRun PP (Instr.extract r2.1 0)).bind fun x3 =>
(pureRun PP (Instr.extract r2.1 1)).bind fun x4 =>
(aBin PP .eql t_int (.tmp 8) (.const (.int .i64 3)) x3 (.int .i64 3)).bind fun x5 =>
bcase x5 (
bcase x4 (
(bsl PP t_L_int 3 [0, 1, 2] [.int .i64 0, .int .i64 4, .int .i64 9] (AS.mk r2.2.1 (joinEsc r1.2.esc r2.2.2))).bind fun r6 =>
(C n_stats_Bars [r6.1, .int .i64 5, .int .i64 2] r6.2.H).bind fun r7 =>
(bsl PP t_L_int 2 [0, 1] [.int .i64 2, .int .i64 1] (AS.mk r7.2.1 (joinEsc r6.2.esc r7.2.2))).bind fun r8 =>
(C n_twainref01_Ints [r7.1, r8.1] r8.2.H).bind fun r9 =>
bcase r9.1 (
(aBuild PP t_world_Event [(0, .int .i64 2)]).bind fun x10 =>
(bsl PP t_L_world_Event 1 [0] [x10] (AS.mk r9.2.1 (joinEsc r8.2.esc r9.2.2))).bind fun r11 =>
(C n_stats_Of [r11.1, .int .i64 0] r11.2.H).bind fun r12 =>
(pureRun PP (Instr.field t_stats_Stats r12.1 4)).bind fun x13 =>
(aBin PP .eql t_int (.tmp 23) (.const (.int .i64 1)) x13 (.int .i64 1)).bind fun x14 =>
fin PP false n0 [x14] (AS.mk r12.2.1 (joinEsc r11.2.esc r12.2.2))) (
fin PP false n0 [.bool false] (AS.mk r9.2.1 (joinEsc r8.2.esc r9.2.2)))) (
fin PP false n0 [.bool false] (AS.mk r2.2.1 (joinEsc r1.2.esc r2.2.2)))) (
fin PP false n0 [.bool false] (AS.mk r2.2.1 (joinEsc r1.2.esc r2.2.2)))
def T : Tab := ⟨fun i => none, fun i => none, false, fun i => none, fun _ => false, true, false, fun _ => false, 5, false⟩
end twainlaw47_lives
namespace twainref01_Ints
noncomputable def loop4 (C : Am.Callee) (L : Loops) (n0 : Nat) (t0 t1 t12 t13 : Value) (s : AS) : Option ((List Value × AS) ⊕ (AEx × List Value × AS)) :=
(aBin PP .lss t_int (.tmp 13) (.tmp 12) t13 t12).bind fun x5 =>
bcase x5 (
(aIndexAddr PP t_L_int t0 t13).bind fun x6 =>
(aLoad false 1 s x6).bind fun x7 =>
(aIndexAddr PP t_L_int t1 t13).bind fun x8 =>
(aLoad false 1 s x8).bind fun x9 =>
(aBin PP .neq t_int (.tmp 19) (.tmp 23) x7 x9).bind fun x10 =>
bcase x10 (
some (.inr (.ret, [.bool false], s))) (
(aBin PP .add t_int (.tmp 13) (.const (.int .i64 1)) t13 (.int .i64 1)).bind fun x11 =>
some (.inl ([t0, t1, t12, x11], s)))) (
some (.inr (.exit 0, [unk], s)))
noncomputable def loop4s (C : Am.Callee) (L : Loops) (n0 : Nat) : List Value × AS → Option ((List Value × AS) ⊕ (AEx × List Value × AS)) := fun s => loop4 C L n0 (s.1.getD 0 unk) (s.1.getD 1 unk) (s.1.getD 2 unk) (s.1.getD 3 unk) s.2
noncomputable def j2 (C : Am.Callee) (L : Loops) (n0 : Nat) (s : AS) : Option (Value × List Blk × Option Nat) :=
fin PP false n0 [.bool true] s
noncomputable def sh (C : Am.Callee) (L : Loops) (n0 : Nat) (t0 t1 : Value) (s : AS) : Option (Value × List Blk × Option Nat) :=
(aLen PP t_L_int t0 s).bind fun x1 =>
(aLen PP t_L_int t1 s).bind fun x2 =>
(aBin PP .neq t_int (.tmp 7) (.tmp 9) x1 x2).bind fun x3 =>
bcase x3 (
fin PP false n0 [.bool false] s) (
((aLen PP t_L_int t0 s).bind fun x4 =>
(L n0 (loop4s C L n0) ([t0, t1, x4, .int .i64 0], s)).bind fun r12 =>
match r12.1 with
| .normal => some (AEx.normal, [(r12.2.1.getD 0 unk)], r12.2.2)
| .exit i => if i = 0 then some (AEx.normal, [(r12.2.1.getD 0 unk)], r12.2.2) else some (AEx.exit i, [(r12.2.1.getD 0 unk)], r12.2.2)
| .ret => some (AEx.ret, [(r12.2.1.getD 0 unk)], r12.2.2)).bind fun r13 =>
match r13.1 with
| .normal => j2 C L n0  r13.2.2
| .exit i => none
| .ret => fin PP false n0 [(r13.2.1.getD 0 unk)] r13.2.2)
def T : Tab := ⟨fun i => if i = 4 then some [0, 1, 12, 13] else none, fun i => if i = 4 then some [4] else none, false, fun i => if i = 9 then some [4] else none, fun _ => false, false, false, fun _ => false, 9, false⟩
end twainref01_Ints
namespace twainlaw36_Few
noncomputable def j1 (C : Am.Callee) (L : Loops) (n0 : Nat) (t8 t9 t10 t24 : Value) (s : AS) : Option (AEx × List Value × AS) :=
bcase t24 (
some (AEx.ret, [.bool false, t8, t9, t10], s)) (
some (AEx.normal, [unk, t8, t9, t10], s))
noncomputable def j2 (C : Am.Callee) (L : Loops) (n0 : Nat) (t8 t9 t10 : Value) (s : AS) : Option ((List Value × AS) ⊕ (AEx × List Value × AS)) :=
(aBin PP .add t_int (.tmp 10) (.const (.int .i64 1)) t10 (.int .i64 1)).bind fun x20 =>
some (.inl ([t8, t9, x20], s))
noncomputable def loop4 (C : Am.Callee) (L : Loops) (n0 : Nat) (t8 t9 t10 : Value) (s : AS) : Option ((List Value × AS) ⊕ (AEx × List Value × AS)) :=
(aBin PP .lss t_int (.tmp 10) (.tmp 9) t10 t9).bind fun x4 =>
bcase x4 (
((aIndexAddr PP t_L_twainref34_Event t8 t10).bind fun x5 =>
(aLoad true 8 s x5).bind fun x6 =>
(aBox t_twainref34_Event ((zeroP PP t_twainref34_Event).getD unk) s).bind fun r7 =>
(aStore 8 r7.2 r7.1 x6).bind fun s8 =>
((aFieldAddr PP t_twainref34_Event r7.1 4).bind fun x9 =>
(aLoad false 1 s8 x9).bind fun x10 =>
(aLen PP t_L_uint8 x10 s8).bind fun x11 =>
(aBin PP .gtr t_int (.tmp 16) (.const (.int .i64 300)) x11 (.int .i64 300)).bind fun x12 =>
bcase x12 (
some (AEx.normal, [t8, t9, t10, .bool true], s8)) (
(aFieldAddr PP t_twainref34_Event r7.1 3).bind fun x13 =>
(aFieldAddr PP t_api_Request x13 2).bind fun x14 =>
(aLoad false 1 s8 x14).bind fun x15 =>
(aLen PP t_L_uint8 x15 s8).bind fun x16 =>
(aBin PP .gtr t_int (.tmp 22) (.const (.int .i64 300)) x16 (.int .i64 300)).bind fun x17 =>
some (AEx.normal, [t8, t9, t10, x17], s8))).bind fun r18 =>
match r18.1 with
| .normal => j1 C L n0 ((r18.2.1.getD 0 unk)) ((r18.2.1.getD 1 unk)) ((r18.2.1.getD 2 unk)) ((r18.2.1.getD 3 unk)) r18.2.2
| .exit i => if i = 1 then some (AEx.normal, [unk, (r18.2.1.getD 0 unk), (r18.2.1.getD 1 unk), (r18.2.1.getD 2 unk)], r18.2.2) else some (AEx.exit i, [unk, (r18.2.1.getD 0 unk), (r18.2.1.getD 1 unk), (r18.2.1.getD 2 unk)], r18.2.2)
| .ret => some (AEx.ret, [unk, (r18.2.1.getD 0 unk), (r18.2.1.getD 1 unk), (r18.2.1.getD 2 unk)], r18.2.2)).bind fun r19 =>
match r19.1 with
| .normal => j2 C L n0 ((r19.2.1.getD 1 unk)) ((r19.2.1.getD 2 unk)) ((r19.2.1.getD 3 unk)) r19.2.2
| .exit i => some (.inr (.exit i, [(r19.2.1.getD 0 unk)], r19.2.2))
| .ret => some (.inr (.ret, [(r19.2.1.getD 0 unk)], r19.2.2))) (
some (.inr (.exit 0, [unk], s)))
noncomputable def loop4s (C : Am.Callee) (L : Loops) (n0 : Nat) : List Value × AS → Option ((List Value × AS) ⊕ (AEx × List Value × AS)) := fun s => loop4 C L n0 (s.1.getD 0 unk) (s.1.getD 1 unk) (s.1.getD 2 unk) s.2
noncomputable def j4 (C : Am.Callee) (L : Loops) (n0 : Nat) (s : AS) : Option (Value × List Blk × Option Nat) :=
fin PP false n0 [.bool true] s
noncomputable def sh (C : Am.Callee) (L : Loops) (n0 : Nat) (t0 : Value) (s : AS) : Option (Value × List Blk × Option Nat) :=
(aLen PP t_L_twainref34_Event t0 s).bind fun x1 =>
(aBin PP .gtr t_int (.tmp 6) (.const (.int .i64 100)) x1 (.int .i64 100)).bind fun x2 =>
bcase x2 (
fin PP false n0 [.bool false] s) (
((aLen PP t_L_twainref34_Event t0 s).bind fun x3 =>
(L n0 (loop4s C L n0) ([t0, x3, .int .i64 0], s)).bind fun r21 =>
match r21.1 with
| .normal => some (AEx.normal, [(r21.2.1.getD 0 unk)], r21.2.2)
| .exit i => if i = 0 then some (AEx.normal, [(r21.2.1.getD 0 unk)], r21.2.2) else some (AEx.exit i, [(r21.2.1.getD 0 unk)], r21.2.2)
| .ret => some (AEx.ret, [(r21.2.1.getD 0 unk)], r21.2.2)).bind fun r22 =>
match r22.1 with
| .normal => j4 C L n0  r22.2.2
| .exit i => none
| .ret => fin PP false n0 [(r22.2.1.getD 0 unk)] r22.2.2)
def T : Tab := ⟨fun i => if i = 4 then some [8, 9, 10] else none, fun i => if i = 4 then some [2] else none, false, fun i => if i = 7 then some [8, 9, 10, 24] else if i = 8 then some [2, 8, 9, 10] else if i = 9 then some [2] else none, fun _ => false, false, false, fun _ => false, 11, false⟩
end twainlaw36_Few
namespace twainlaw36_Raw
noncomputable def loop3 (C : Am.Callee) (L : Loops) (n0 : Nat) (t3 t6 t7 t8 : Value) (s : AS) : Option ((List Value × AS) ⊕ (AEx × List Value × AS)) :=
(aBin PP .lss t_int (.tmp 8) (.tmp 7) t8 t7).bind fun x2 =>
bcase x2 (
(aIndexAddr PP t_L_twainref34_Event t6 t8).bind fun x3 =>
(aLoad true 8 s x3).bind fun x4 =>
(aBox t_twainref34_Event ((zeroP PP t_twainref34_Event).getD unk) s).bind fun r5 =>
(aStore 8 r5.2 r5.1 x4).bind fun s6 =>
(aLoad true 8 s6 r5.1).bind fun x7 =>
(bsl PP t_L_world_Event 1 [0] [x7] s6).bind fun r8 =>
eBuiltin PP .append #[t_L_world_Event, t_L_world_Event] [t3, r8.1] r8.2 fun x9 s10 =>
(aBin PP .add t_int (.tmp 8) (.const (.int .i64 1)) t8 (.int .i64 1)).bind fun x11 =>
some (.inl ([x9, t6, t7, x11], s10))) (
some (.inr (.exit 0, [t3], s)))
noncomputable def loop3s (C : Am.Callee) (L : Loops) (n0 : Nat) : List Value × AS → Option ((List Value × AS) ⊕ (AEx × List Value × AS)) := fun s => loop3 C L n0 (s.1.getD 0 unk) (s.1.getD 1 unk) (s.1.getD 2 unk) (s.1.getD 3 unk) s.2
noncomputable def j2 (C : Am.Callee) (L : Loops) (n0 : Nat) (t3 : Value) (s : AS) : Option (Value × List Blk × Option Nat) :=
fin PP false n0 [t3] s
noncomputable def sh (C : Am.Callee) (L : Loops) (n0 : Nat) (t0 : Value) (s : AS) : Option (Value × List Blk × Option Nat) :=
((aLen PP t_L_twainref34_Event t0 s).bind fun x1 =>
(L n0 (loop3s C L n0) ([.slice none 0 0, t0, x1, .int .i64 0], s)).bind fun r12 =>
match r12.1 with
| .normal => some (AEx.normal, [(r12.2.1.getD 0 unk)], r12.2.2)
| .exit i => if i = 0 then some (AEx.normal, [(r12.2.1.getD 0 unk)], r12.2.2) else some (AEx.exit i, [(r12.2.1.getD 0 unk)], r12.2.2)
| .ret => some (AEx.ret, [(r12.2.1.getD 0 unk)], r12.2.2)).bind fun r13 =>
match r13.1 with
| .normal => j2 C L n0 ((r13.2.1.getD 0 unk)) r13.2.2
| .exit i => none
| .ret => fin PP false n0 [unk] r13.2.2
def T : Tab := ⟨fun i => if i = 3 then some [3, 6, 7, 8] else none, fun i => if i = 3 then some [3] else none, false, fun i => if i = 7 then some [3] else none, fun _ => false, false, false, fun _ => false, 12, false⟩
end twainlaw36_Raw
namespace stats_Waits
noncomputable def j1 (C : Am.Callee) (L : Loops) (n0 : Nat) (t3 t4 t11 t12 : Value) (s : AS) : Option ((List Value × AS) ⊕ (AEx × List Value × AS)) :=
(aBin PP .add t_int (.tmp 12) (.const (.int .i64 1)) t12 (.int .i64 1)).bind fun x12 =>
some (.inl ([t3, t4, t11, x12], s))
noncomputable def loop4 (C : Am.Callee) (L : Loops) (n0 : Nat) (t3 t4 t11 t12 : Value) (s : AS) : Option ((List Value × AS) ⊕ (AEx × List Value × AS)) :=
(aBin PP .lss t_int (.tmp 12) (.tmp 11) t12 t11).bind fun x3 =>
bcase x3 (
((aLookup PP t_M_int_int t3 t12 true s).bind fun x4 =>
(pureRun PP (Instr.extract x4 0)).bind fun x5 =>
(pureRun PP (Instr.extract x4 1)).bind fun x6 =>
bcase x6 (
(aBin PP .sub t_int (.tmp 23) (.tmp 24) x5 t12).bind fun x7 =>
(bsl PP t_L_int 1 [0] [x7] s).bind fun r8 =>
eBuiltin PP .append #[t_L_int, t_L_int] [t4, r8.1] r8.2 fun x9 s10 =>
some (AEx.normal, [t3, x9, t11, t12], s10)) (
some (AEx.normal, [t3, t4, t11, t12], s))).bind fun r11 =>
match r11.1 with
| .normal => j1 C L n0 ((r11.2.1.getD 0 unk)) ((r11.2.1.getD 1 unk)) ((r11.2.1.getD 2 unk)) ((r11.2.1.getD 3 unk)) r11.2.2
| .exit i => some (.inr (.exit i, [(r11.2.1.getD 1 unk)], r11.2.2))
| .ret => some (.inr (.ret, [(r11.2.1.getD 1 unk)], r11.2.2))) (
some (.inr (.exit 0, [t4], s)))
noncomputable def loop4s (C : Am.Callee) (L : Loops) (n0 : Nat) : List Value × AS → Option ((List Value × AS) ⊕ (AEx × List Value × AS)) := fun s => loop4 C L n0 (s.1.getD 0 unk) (s.1.getD 1 unk) (s.1.getD 2 unk) (s.1.getD 3 unk) s.2
noncomputable def j3 (C : Am.Callee) (L : Loops) (n0 : Nat) (t4 : Value) (s : AS) : Option (Value × List Blk × Option Nat) :=
fin PP false n0 [t4] s
noncomputable def sh (C : Am.Callee) (L : Loops) (n0 : Nat) (t0 : Value) (s : AS) : Option (Value × List Blk × Option Nat) :=
(C n_stats_pairs [t0] s.H).bind fun r1 =>
((aLen PP t_L_world_Event t0 (AS.mk r1.2.1 (joinEsc s.esc r1.2.2))).bind fun x2 =>
(L n0 (loop4s C L n0) ([r1.1, .slice none 0 0, x2, .int .i64 0], AS.mk r1.2.1 (joinEsc s.esc r1.2.2))).bind fun r13 =>
match r13.1 with
| .normal => some (AEx.normal, [(r13.2.1.getD 0 unk)], r13.2.2)
| .exit i => if i = 0 then some (AEx.normal, [(r13.2.1.getD 0 unk)], r13.2.2) else some (AEx.exit i, [(r13.2.1.getD 0 unk)], r13.2.2)
| .ret => some (AEx.ret, [(r13.2.1.getD 0 unk)], r13.2.2)).bind fun r14 =>
match r14.1 with
| .normal => j3 C L n0 ((r14.2.1.getD 0 unk)) r14.2.2
| .exit i => none
| .ret => fin PP false n0 [unk] r14.2.2
def T : Tab := ⟨fun i => if i = 4 then some [3, 4, 11, 12] else none, fun i => if i = 4 then some [4] else none, false, fun i => if i = 9 then some [3, 4, 11, 12] else if i = 10 then some [4] else none, fun _ => false, false, false, fun _ => false, 13, false⟩
end stats_Waits
namespace twainref47_Waits
noncomputable def j1 (C : Am.Callee) (L : Loops) (n0 : Nat) (t0 t3 t7 t8 t9 : Value) (s : AS) : Option ((List Value × AS) ⊕ (AEx × List Value × AS)) :=
(aBin PP .add t_int (.tmp 9) (.const (.int .i64 1)) t9 (.int .i64 1)).bind fun x17 =>
some (.inl ([t0, t3, t7, t8, x17], s))
noncomputable def loop3 (C : Am.Callee) (L : Loops) (n0 : Nat) (t0 t3 t7 t8 t9 : Value) (s : AS) : Option ((List Value × AS) ⊕ (AEx × List Value × AS)) :=
(aBin PP .lss t_int (.tmp 9) (.tmp 8) t9 t8).bind fun x2 =>
bcase x2 (
((aIndexAddr PP t_L_twainref34_Event t7 t9).bind fun x3 =>
(aLoad true 8 s x3).bind fun x4 =>
(aBox t_twainref34_Event ((zeroP PP t_twainref34_Event).getD unk) s).bind fun r5 =>
(aStore 8 r5.2 r5.1 x4).bind fun s6 =>
(aFieldAddr PP t_twainref34_Event r5.1 0).bind fun x7 =>
(aLoad false 1 s6 x7).bind fun x8 =>
(aBin PP .neq t_int (.tmp 15) (.const (.int .i64 0)) x8 (.int .i64 0)).bind fun x9 =>
bcase x9 (
some (AEx.normal, [t0, t3, t7, t8, t9], s6)) (
(C n_twainref47_end [t0, t9] s6.H).bind fun r10 =>
(aBin PP .geq t_int (.tmp 20) (.const (.int .i64 0)) r10.1 (.int .i64 0)).bind fun x11 =>
bcase x11 (
(aBin PP .sub t_int (.tmp 23) (.tmp 24) r10.1 t9).bind fun x12 =>
(bsl PP t_L_int 1 [0] [x12] (AS.mk r10.2.1 (joinEsc s6.esc r10.2.2))).bind fun r13 =>
eBuiltin PP .append #[t_L_int, t_L_int] [t3, r13.1] r13.2 fun x14 s15 =>
some (AEx.normal, [t0, x14, t7, t8, t9], s15)) (
some (AEx.normal, [t0, t3, t7, t8, t9], AS.mk r10.2.1 (joinEsc s6.esc r10.2.2))))).bind fun r16 =>
match r16.1 with
| .normal => j1 C L n0 ((r16.2.1.getD 0 unk)) ((r16.2.1.getD 1 unk)) ((r16.2.1.getD 2 unk)) ((r16.2.1.getD 3 unk)) ((r16.2.1.getD 4 unk)) r16.2.2
| .exit i => some (.inr (.exit i, [(r16.2.1.getD 1 unk)], r16.2.2))
| .ret => some (.inr (.ret, [(r16.2.1.getD 1 unk)], r16.2.2))) (
some (.inr (.exit 0, [t3], s)))
noncomputable def loop3s (C : Am.Callee) (L : Loops) (n0 : Nat) : List Value × AS → Option ((List Value × AS) ⊕ (AEx × List Value × AS)) := fun s => loop3 C L n0 (s.1.getD 0 unk) (s.1.getD 1 unk) (s.1.getD 2 unk) (s.1.getD 3 unk) (s.1.getD 4 unk) s.2
noncomputable def j3 (C : Am.Callee) (L : Loops) (n0 : Nat) (t3 : Value) (s : AS) : Option (Value × List Blk × Option Nat) :=
fin PP false n0 [t3] s
noncomputable def sh (C : Am.Callee) (L : Loops) (n0 : Nat) (t0 : Value) (s : AS) : Option (Value × List Blk × Option Nat) :=
((aLen PP t_L_twainref34_Event t0 s).bind fun x1 =>
(L n0 (loop3s C L n0) ([t0, .slice none 0 0, t0, x1, .int .i64 0], s)).bind fun r18 =>
match r18.1 with
| .normal => some (AEx.normal, [(r18.2.1.getD 0 unk)], r18.2.2)
| .exit i => if i = 0 then some (AEx.normal, [(r18.2.1.getD 0 unk)], r18.2.2) else some (AEx.exit i, [(r18.2.1.getD 0 unk)], r18.2.2)
| .ret => some (AEx.ret, [(r18.2.1.getD 0 unk)], r18.2.2)).bind fun r19 =>
match r19.1 with
| .normal => j3 C L n0 ((r19.2.1.getD 0 unk)) r19.2.2
| .exit i => none
| .ret => fin PP false n0 [unk] r19.2.2
def T : Tab := ⟨fun i => if i = 3 then some [0, 3, 7, 8, 9] else none, fun i => if i = 3 then some [3] else none, false, fun i => if i = 9 then some [0, 3, 7, 8, 9] else if i = 10 then some [3] else none, fun _ => false, false, false, fun _ => false, 14, false⟩
end twainref47_Waits
namespace stats_Most
noncomputable def j1 (C : Am.Callee) (L : Loops) (n0 : Nat) (t0 t3 t4 t23 t24 : Value) (s : AS) : Option ((List Value × AS) ⊕ (AEx × List Value × AS)) :=
(aBin PP .add t_int (.tmp 24) (.const (.int .i64 1)) t24 (.int .i64 1)).bind fun x9 =>
some (.inl ([t0, t3, t4, t23, x9], s))
noncomputable def loop4 (C : Am.Callee) (L : Loops) (n0 : Nat) (t0 t3 t4 t23 t24 : Value) (s : AS) : Option ((List Value × AS) ⊕ (AEx × List Value × AS)) :=
(aBin PP .lss t_int (.tmp 24) (.tmp 23) t24 t23).bind fun x3 =>
bcase x3 (
((aLookup PP t_M_int_int t3 t24 true s).bind fun x4 =>
(pureRun PP (Instr.extract x4 0)).bind fun x5 =>
(pureRun PP (Instr.extract x4 1)).bind fun x6 =>
bcase x6 (
(aMapUpdate PP t_M_int_int t4 x5 t24 s).bind fun s7 =>
some (AEx.normal, [t0, t3, t4, t23, t24], s7)) (
some (AEx.normal, [t0, t3, t4, t23, t24], s))).bind fun r8 =>
match r8.1 with
| .normal => j1 C L n0 ((r8.2.1.getD 0 unk)) ((r8.2.1.getD 1 unk)) ((r8.2.1.getD 2 unk)) ((r8.2.1.getD 3 unk)) ((r8.2.1.getD 4 unk)) r8.2.2
| .exit i => some (.inr (.exit i, [(r8.2.1.getD 0 unk), (r8.2.1.getD 2 unk)], r8.2.2))
| .ret => some (.inr (.ret, [(r8.2.1.getD 0 unk), (r8.2.1.getD 2 unk)], r8.2.2))) (
some (.inr (.exit 0, [t0, t4], s)))
noncomputable def loop4s (C : Am.Callee) (L : Loops) (n0 : Nat) : List Value × AS → Option ((List Value × AS) ⊕ (AEx × List Value × AS)) := fun s => loop4 C L n0 (s.1.getD 0 unk) (s.1.getD 1 unk) (s.1.getD 2 unk) (s.1.getD 3 unk) (s.1.getD 4 unk) s.2
noncomputable def j5 (C : Am.Callee) (L : Loops) (n0 : Nat) (t4 t10 t11 t12 t15 t16 t43 t44 t45 : Value) (s : AS) : Option (AEx × List Value × AS) :=
(aLen PP t_M_int_bool t15 s).bind fun x42 =>
(aBin PP .sub t_int (.tmp 78) (.tmp 79) x42 t16).bind fun x43 =>
(aBin PP .add t_int (.tmp 76) (.tmp 80) t12 x43).bind fun x44 =>
eBuiltin PP .max #[t_int, t_int] [t11, x44] s fun x45 s46 =>
some (AEx.normal, [t4, t10, x45, x44, t43, t44, t45], s46)
noncomputable def j6 (C : Am.Callee) (L : Loops) (n0 : Nat) (t4 t10 t11 t12 t43 t44 t45 : Value) (s : AS) : Option ((List Value × AS) ⊕ (AEx × List Value × AS)) :=
(aBin PP .add t_int (.tmp 45) (.const (.int .i64 1)) t45 (.int .i64 1)).bind fun x48 =>
some (.inl ([t4, t10, t11, t12, t43, t44, x48], s))
noncomputable def loop15 (C : Am.Callee) (L : Loops) (n0 : Nat) (t4 t10 t11 t12 t43 t44 t45 : Value) (s : AS) : Option ((List Value × AS) ⊕ (AEx × List Value × AS)) :=
(aBin PP .lss t_int (.tmp 45) (.tmp 44) t45 t44).bind fun x18 =>
bcase x18 (
((aIndexAddr PP t_L_world_Event t43 t45).bind fun x19 =>
(aLoad true 8 s x19).bind fun x20 =>
(aBox t_world_Event ((zeroP PP t_world_Event).getD unk) s).bind fun r21 =>
(aStore 8 r21.2 r21.1 x20).bind fun s22 =>
(aFieldAddr PP t_world_Event r21.1 1).bind fun x23 =>
(aLoad false 1 s22 x23).bind fun x24 =>
(aFn PP t10 [x24]).bind fun g26 =>
(C g26.1 g26.2 s22.H).bind fun r25 =>
(aLen PP t_M_int_bool r25.1 (AS.mk r25.2.1 (joinEsc s22.esc r25.2.2))).bind fun x27 =>
((aFieldAddr PP t_world_Event r21.1 0).bind fun x28 =>
(aLoad false 1 (AS.mk r25.2.1 (joinEsc s22.esc r25.2.2)) x28).bind fun x29 =>
(aBin PP .eql t_int (.tmp 57) (.const (.int .i64 0)) x29 (.int .i64 0)).bind fun x30 =>
bcase x30 (
(aMapUpdate PP t_M_int_bool r25.1 t45 (.bool true) (AS.mk r25.2.1 (joinEsc s22.esc r25.2.2))).bind fun s31 =>
some (AEx.normal, [t4, t10, t11, t12, r25.1, x27, t43, t44, t45], s31)) (
(aBin PP .eql t_int (.tmp 57) (.const (.int .i64 1)) x29 (.int .i64 1)).bind fun x32 =>
bcase x32 (
(aLookup PP t_M_int_int t4 t45 true (AS.mk r25.2.1 (joinEsc s22.esc r25.2.2))).bind fun x33 =>
(pureRun PP (Instr.extract x33 0)).bind fun x34 =>
(pureRun PP (Instr.extract x33 1)).bind fun x35 =>
bcase x35 (
eBuiltin PP .delete #[t_M_int_bool, t_int] [r25.1, x34] (AS.mk r25.2.1 (joinEsc s22.esc r25.2.2)) fun x36 s37 =>
some (AEx.normal, [t4, t10, t11, t12, r25.1, x27, t43, t44, t45], s37)) (
some (AEx.normal, [t4, t10, t11, t12, r25.1, x27, t43, t44, t45], AS.mk r25.2.1 (joinEsc s22.esc r25.2.2)))) (
(aBin PP .eql t_int (.tmp 57) (.const (.int .i64 2)) x29 (.int .i64 2)).bind fun x38 =>
bcase x38 (
eBuiltin PP .clear #[t_M_int_bool] [r25.1] (AS.mk r25.2.1 (joinEsc s22.esc r25.2.2)) fun x39 s40 =>
some (AEx.normal, [t4, t10, t11, t12, r25.1, x27, t43, t44, t45], s40)) (
some (AEx.normal, [t4, t10, t11, t12, r25.1, x27, t43, t44, t45], AS.mk r25.2.1 (joinEsc s22.esc r25.2.2)))))).bind fun r41 =>
match r41.1 with
| .normal => j5 C L n0 ((r41.2.1.getD 0 unk)) ((r41.2.1.getD 1 unk)) ((r41.2.1.getD 2 unk)) ((r41.2.1.getD 3 unk)) ((r41.2.1.getD 4 unk)) ((r41.2.1.getD 5 unk)) ((r41.2.1.getD 6 unk)) ((r41.2.1.getD 7 unk)) ((r41.2.1.getD 8 unk)) r41.2.2
| .exit i => if i = 3 then some (AEx.normal, [(r41.2.1.getD 0 unk), (r41.2.1.getD 1 unk), (r41.2.1.getD 2 unk), (r41.2.1.getD 3 unk), (r41.2.1.getD 6 unk), (r41.2.1.getD 7 unk), (r41.2.1.getD 8 unk)], r41.2.2) else some (AEx.exit i, [(r41.2.1.getD 0 unk), (r41.2.1.getD 1 unk), (r41.2.1.getD 2 unk), (r41.2.1.getD 3 unk), (r41.2.1.getD 6 unk), (r41.2.1.getD 7 unk), (r41.2.1.getD 8 unk)], r41.2.2)
| .ret => some (AEx.ret, [(r41.2.1.getD 0 unk), (r41.2.1.getD 1 unk), (r41.2.1.getD 2 unk), (r41.2.1.getD 3 unk), (r41.2.1.getD 6 unk), (r41.2.1.getD 7 unk), (r41.2.1.getD 8 unk)], r41.2.2)).bind fun r47 =>
match r47.1 with
| .normal => j6 C L n0 ((r47.2.1.getD 0 unk)) ((r47.2.1.getD 1 unk)) ((r47.2.1.getD 2 unk)) ((r47.2.1.getD 3 unk)) ((r47.2.1.getD 4 unk)) ((r47.2.1.getD 5 unk)) ((r47.2.1.getD 6 unk)) r47.2.2
| .exit i => some (.inr (.exit i, [(r47.2.1.getD 2 unk)], r47.2.2))
| .ret => some (.inr (.ret, [(r47.2.1.getD 2 unk)], r47.2.2))) (
some (.inr (.exit 2, [t11], s)))
noncomputable def loop15s (C : Am.Callee) (L : Loops) (n0 : Nat) : List Value × AS → Option ((List Value × AS) ⊕ (AEx × List Value × AS)) := fun s => loop15 C L n0 (s.1.getD 0 unk) (s.1.getD 1 unk) (s.1.getD 2 unk) (s.1.getD 3 unk) (s.1.getD 4 unk) (s.1.getD 5 unk) (s.1.getD 6 unk) s.2
noncomputable def j8 (C : Am.Callee) (L : Loops) (n0 : Nat) (t11 : Value) (s : AS) : Option (Value × List Blk × Option Nat) :=
fin PP false n0 [t11] s
noncomputable def j3 (C : Am.Callee) (L : Loops) (n0 : Nat) (t0 t4 : Value) (s : AS) : Option (Value × List Blk × Option Nat) :=
(aBuild PP t_A2_M_int_bool [(0, .map (some s.H.length)), (1, .map (some (newBlk s (.map [] 0)).H.length))]).bind fun x12 =>
(aBox t_A2_M_int_bool ((zeroP PP t_A2_M_int_bool).getD unk) (newBlk (newBlk s (.map [] 0)) (.map [] 0))).bind fun r13 =>
(aStore 2 r13.2 r13.1 x12).bind fun s14 =>
(aBox t_M_int_M_int_bool ((zeroP PP t_M_int_M_int_bool).getD unk) (newBlk s14 (.map [] 0))).bind fun r15 =>
(aStore 1 r15.2 r15.1 (.map (some s14.H.length))).bind fun s16 =>
((aLen PP t_L_world_Event t0 s16).bind fun x17 =>
(L n0 (loop15s C L n0) ([t4, .func (.func n_stats_Most_1) (#[]) (#[r13.1, r15.1]), .int .i64 0, .int .i64 0, t0, x17, .int .i64 0], s16)).bind fun r49 =>
match r49.1 with
| .normal => some (AEx.normal, [(r49.2.1.getD 0 unk)], r49.2.2)
| .exit i => if i = 2 then some (AEx.normal, [(r49.2.1.getD 0 unk)], r49.2.2) else some (AEx.exit i, [(r49.2.1.getD 0 unk)], r49.2.2)
| .ret => some (AEx.ret, [(r49.2.1.getD 0 unk)], r49.2.2)).bind fun r50 =>
match r50.1 with
| .normal => j8 C L n0 ((r50.2.1.getD 0 unk)) r50.2.2
| .exit i => none
| .ret => fin PP false n0 [unk] r50.2.2
noncomputable def sh (C : Am.Callee) (L : Loops) (n0 : Nat) (t0 : Value) (s : AS) : Option (Value × List Blk × Option Nat) :=
(C n_stats_pairs [t0] s.H).bind fun r1 =>
((aLen PP t_L_world_Event t0 (newBlk (AS.mk r1.2.1 (joinEsc s.esc r1.2.2)) (.map [] 0))).bind fun x2 =>
(L n0 (loop4s C L n0) ([t0, r1.1, .map (some (AS.mk r1.2.1 (joinEsc s.esc r1.2.2)).H.length), x2, .int .i64 0], newBlk (AS.mk r1.2.1 (joinEsc s.esc r1.2.2)) (.map [] 0))).bind fun r10 =>
match r10.1 with
| .normal => some (AEx.normal, [(r10.2.1.getD 0 unk), (r10.2.1.getD 1 unk)], r10.2.2)
| .exit i => if i = 0 then some (AEx.normal, [(r10.2.1.getD 0 unk), (r10.2.1.getD 1 unk)], r10.2.2) else some (AEx.exit i, [(r10.2.1.getD 0 unk), (r10.2.1.getD 1 unk)], r10.2.2)
| .ret => some (AEx.ret, [(r10.2.1.getD 0 unk), (r10.2.1.getD 1 unk)], r10.2.2)).bind fun r11 =>
match r11.1 with
| .normal => j3 C L n0 ((r11.2.1.getD 0 unk)) ((r11.2.1.getD 1 unk)) r11.2.2
| .exit i => none
| .ret => fin PP false n0 [unk] r11.2.2
def T : Tab := ⟨fun i => if i = 4 then some [0, 3, 4, 23, 24] else if i = 15 then some [4, 10, 11, 12, 43, 44, 45] else none, fun i => if i = 4 then some [0, 4] else if i = 15 then some [11] else none, false, fun i => if i = 9 then some [0, 3, 4, 23, 24] else if i = 10 then some [0, 4] else if i = 28 then some [4, 10, 11, 12, 15, 16, 43, 44, 45] else if i = 30 then some [4, 10, 11, 12, 43, 44, 45] else if i = 31 then some [11] else none, fun _ => false, false, false, fun _ => false, 15, false⟩
end stats_Most
namespace twainref47_Most
noncomputable def j3 (C : Am.Callee) (L : Loops) (n0 : Nat) (t0 t3 t4 t5 t6 t7 t8 t10 t11 t32 : Value) (s : AS) : Option (AEx × List Value × AS) :=
bcase t32 (
some (AEx.normal, [t0, t3, t4, t5, t6, t7, t8, t10, t11], s)) (
some (AEx.exit 4, [t0, t3, t4, t5, t6, t7, t8, t10, t11], s))
noncomputable def j5 (C : Am.Callee) (L : Loops) (n0 : Nat) (t0 t3 t4 t5 t6 t7 t8 t10 t11 t60 : Value) (s : AS) : Option (AEx × List Value × AS) :=
bcase t60 (
some (AEx.normal, [t0, t3, t4, t5, t6, .bool false, t8, t10, t11], s)) (
some (AEx.normal, [t0, t3, t4, t5, t6, t7, t8, t10, t11], s))
noncomputable def j6 (C : Am.Callee) (L : Loops) (n0 : Nat) (t0 t3 t4 t5 t6 t7 t8 t10 t11 : Value) (s : AS) : Option ((List Value × AS) ⊕ (AEx × List Value × AS)) :=
(aBin PP .add t_int (.tmp 33) (.const (.int .i64 1)) t8 (.int .i64 1)).bind fun x28 =>
some (.inl ([t0, t3, t4, t5, t6, t7, x28, t10, t11], s))
noncomputable def j4 (C : Am.Callee) (L : Loops) (n0 : Nat) (t0 t3 t4 t5 t6 t7 t8 t10 t11 : Value) (s : AS) : Option ((List Value × AS) ⊕ (AEx × List Value × AS)) :=
(((aIndexAddr PP t_L_twainref34_Event t0 t8).bind fun x11 =>
(aFieldAddr PP t_twainref34_Event x11 0).bind fun x12 =>
(aLoad false 1 s x12).bind fun x13 =>
(aBin PP .eql t_int (.tmp 39) (.const (.int .i64 2)) x13 (.int .i64 2)).bind fun x14 =>
bcase x14 (
(aIndexAddr PP t_L_twainref34_Event t0 t8).bind fun x15 =>
(aFieldAddr PP t_twainref34_Event x15 1).bind fun x16 =>
(aLoad false 1 s x16).bind fun x17 =>
(aIndexAddr PP t_L_twainref34_Event t0 t6).bind fun x18 =>
(aFieldAddr PP t_twainref34_Event x18 1).bind fun x19 =>
(aLoad false 1 s x19).bind fun x20 =>
(aBin PP .eql t_int (.tmp 46) (.tmp 51) x17 x20).bind fun x21 =>
bcase x21 (
some (AEx.normal, [t0, t3, t4, t5, t6, t7, t8, t10, t11, .bool true], s)) (
(C n_twainref47_end [t0, t6] s.H).bind fun r22 =>
(aBin PP .eql t_int (.tmp 55) (.tmp 58) t8 r22.1).bind fun x23 =>
some (AEx.normal, [t0, t3, t4, t5, t6, t7, t8, t10, t11, x23], AS.mk r22.2.1 (joinEsc s.esc r22.2.2)))) (
(C n_twainref47_end [t0, t6] s.H).bind fun r24 =>
(aBin PP .eql t_int (.tmp 55) (.tmp 58) t8 r24.1).bind fun x25 =>
some (AEx.normal, [t0, t3, t4, t5, t6, t7, t8, t10, t11, x25], AS.mk r24.2.1 (joinEsc s.esc r24.2.2)))).bind fun r26 =>
match r26.1 with
| .normal => j5 C L n0 ((r26.2.1.getD 0 unk)) ((r26.2.1.getD 1 unk)) ((r26.2.1.getD 2 unk)) ((r26.2.1.getD 3 unk)) ((r26.2.1.getD 4 unk)) ((r26.2.1.getD 5 unk)) ((r26.2.1.getD 6 unk)) ((r26.2.1.getD 7 unk)) ((r26.2.1.getD 8 unk)) ((r26.2.1.getD 9 unk)) r26.2.2
| .exit i => if i = 5 then some (AEx.normal, [(r26.2.1.getD 0 unk), (r26.2.1.getD 1 unk), (r26.2.1.getD 2 unk), (r26.2.1.getD 3 unk), (r26.2.1.getD 4 unk), (r26.2.1.getD 5 unk), (r26.2.1.getD 6 unk), (r26.2.1.getD 7 unk), (r26.2.1.getD 8 unk)], r26.2.2) else some (AEx.exit i, [(r26.2.1.getD 0 unk), (r26.2.1.getD 1 unk), (r26.2.1.getD 2 unk), (r26.2.1.getD 3 unk), (r26.2.1.getD 4 unk), (r26.2.1.getD 5 unk), (r26.2.1.getD 6 unk), (r26.2.1.getD 7 unk), (r26.2.1.getD 8 unk)], r26.2.2)
| .ret => some (AEx.ret, [(r26.2.1.getD 0 unk), (r26.2.1.getD 1 unk), (r26.2.1.getD 2 unk), (r26.2.1.getD 3 unk), (r26.2.1.getD 4 unk), (r26.2.1.getD 5 unk), (r26.2.1.getD 6 unk), (r26.2.1.getD 7 unk), (r26.2.1.getD 8 unk)], r26.2.2)).bind fun r27 =>
match r27.1 with
| .normal => j6 C L n0 ((r27.2.1.getD 0 unk)) ((r27.2.1.getD 1 unk)) ((r27.2.1.getD 2 unk)) ((r27.2.1.getD 3 unk)) ((r27.2.1.getD 4 unk)) ((r27.2.1.getD 5 unk)) ((r27.2.1.getD 6 unk)) ((r27.2.1.getD 7 unk)) ((r27.2.1.getD 8 unk)) r27.2.2
| .exit i => some (.inr (.exit i, [(r27.2.1.getD 0 unk), (r27.2.1.getD 1 unk), (r27.2.1.getD 2 unk), (r27.2.1.getD 3 unk), (r27.2.1.getD 4 unk), (r27.2.1.getD 5 unk), (r27.2.1.getD 7 unk), (r27.2.1.getD 8 unk)], r27.2.2))
| .ret => some (.inr (.ret, [(r27.2.1.getD 0 unk), (r27.2.1.getD 1 unk), (r27.2.1.getD 2 unk), (r27.2.1.getD 3 unk), (r27.2.1.getD 4 unk), (r27.2.1.getD 5 unk), (r27.2.1.getD 7 unk), (r27.2.1.getD 8 unk)], r27.2.2))
noncomputable def loop11 (C : Am.Callee) (L : Loops) (n0 : Nat) (t0 t3 t4 t5 t6 t7 t8 t10 t11 : Value) (s : AS) : Option ((List Value × AS) ⊕ (AEx × List Value × AS)) :=
((aBin PP .leq t_int (.tmp 27) (.tmp 28) t8 t4).bind fun x9 =>
bcase x9 (
j3 C L n0 t0 t3 t4 t5 t6 t7 t8 t10 t11 t7 s) (
j3 C L n0 t0 t3 t4 t5 t6 t7 t8 t10 t11 (.bool false) s)).bind fun r10 =>
match r10.1 with
| .normal => j4 C L n0 ((r10.2.1.getD 0 unk)) ((r10.2.1.getD 1 unk)) ((r10.2.1.getD 2 unk)) ((r10.2.1.getD 3 unk)) ((r10.2.1.getD 4 unk)) ((r10.2.1.getD 5 unk)) ((r10.2.1.getD 6 unk)) ((r10.2.1.getD 7 unk)) ((r10.2.1.getD 8 unk)) r10.2.2
| .exit i => some (.inr (.exit i, [(r10.2.1.getD 0 unk), (r10.2.1.getD 1 unk), (r10.2.1.getD 2 unk), (r10.2.1.getD 3 unk), (r10.2.1.getD 4 unk), (r10.2.1.getD 5 unk), (r10.2.1.getD 7 unk), (r10.2.1.getD 8 unk)], r10.2.2))
| .ret => some (.inr (.ret, [(r10.2.1.getD 0 unk), (r10.2.1.getD 1 unk), (r10.2.1.getD 2 unk), (r10.2.1.getD 3 unk), (r10.2.1.getD 4 unk), (r10.2.1.getD 5 unk), (r10.2.1.getD 7 unk), (r10.2.1.getD 8 unk)], r10.2.2))
noncomputable def loop11s (C : Am.Callee) (L : Loops) (n0 : Nat) : List Value × AS → Option ((List Value × AS) ⊕ (AEx × List Value × AS)) := fun s => loop11 C L n0 (s.1.getD 0 unk) (s.1.getD 1 unk) (s.1.getD 2 unk) (s.1.getD 3 unk) (s.1.getD 4 unk) (s.1.getD 5 unk) (s.1.getD 6 unk) (s.1.getD 7 unk) (s.1.getD 8 unk) s.2
noncomputable def j8 (C : Am.Callee) (L : Loops) (n0 : Nat) (t0 t3 t4 t5 t6 t7 t10 t11 : Value) (s : AS) : Option (AEx × List Value × AS) :=
bcase t7 (
(aBin PP .add t_int (.tmp 62) (.const (.int .i64 1)) t5 (.int .i64 1)).bind fun x31 =>
some (AEx.normal, [t0, t3, t4, x31, t6, t10, t11], s)) (
some (AEx.normal, [t0, t3, t4, t5, t6, t10, t11], s))
noncomputable def j9 (C : Am.Callee) (L : Loops) (n0 : Nat) (t0 t3 t4 t5 t6 t10 t11 : Value) (s : AS) : Option ((List Value × AS) ⊕ (AEx × List Value × AS)) :=
(aBin PP .add t_int (.tmp 17) (.const (.int .i64 1)) t6 (.int .i64 1)).bind fun x33 =>
some (.inl ([t0, t3, t4, t5, x33, t10, t11], s))
noncomputable def loop7 (C : Am.Callee) (L : Loops) (n0 : Nat) (t0 t3 t4 t5 t6 t10 t11 : Value) (s : AS) : Option ((List Value × AS) ⊕ (AEx × List Value × AS)) :=
(aBin PP .leq t_int (.tmp 14) (.tmp 15) t6 t4).bind fun x3 =>
bcase x3 (
((aIndexAddr PP t_L_twainref34_Event t0 t6).bind fun x4 =>
(aFieldAddr PP t_twainref34_Event x4 0).bind fun x5 =>
(aLoad false 1 s x5).bind fun x6 =>
(aBin PP .eql t_int (.tmp 23) (.const (.int .i64 0)) x6 (.int .i64 0)).bind fun x7 =>
((aBin PP .add t_int (.tmp 25) (.const (.int .i64 1)) t6 (.int .i64 1)).bind fun x8 =>
(L n0 (loop11s C L n0) ([t0, t3, t4, t5, t6, x7, x8, t10, t11], s)).bind fun r29 =>
match r29.1 with
| .normal => some (AEx.normal, [(r29.2.1.getD 0 unk), (r29.2.1.getD 1 unk), (r29.2.1.getD 2 unk), (r29.2.1.getD 3 unk), (r29.2.1.getD 4 unk), (r29.2.1.getD 5 unk), (r29.2.1.getD 6 unk), (r29.2.1.getD 7 unk)], r29.2.2)
| .exit i => if i = 4 then some (AEx.normal, [(r29.2.1.getD 0 unk), (r29.2.1.getD 1 unk), (r29.2.1.getD 2 unk), (r29.2.1.getD 3 unk), (r29.2.1.getD 4 unk), (r29.2.1.getD 5 unk), (r29.2.1.getD 6 unk), (r29.2.1.getD 7 unk)], r29.2.2) else some (AEx.exit i, [(r29.2.1.getD 0 unk), (r29.2.1.getD 1 unk), (r29.2.1.getD 2 unk), (r29.2.1.getD 3 unk), (r29.2.1.getD 4 unk), (r29.2.1.getD 5 unk), (r29.2.1.getD 6 unk), (r29.2.1.getD 7 unk)], r29.2.2)
| .ret => some (AEx.ret, [(r29.2.1.getD 0 unk), (r29.2.1.getD 1 unk), (r29.2.1.getD 2 unk), (r29.2.1.getD 3 unk), (r29.2.1.getD 4 unk), (r29.2.1.getD 5 unk), (r29.2.1.getD 6 unk), (r29.2.1.getD 7 unk)], r29.2.2)).bind fun r30 =>
match r30.1 with
| .normal => j8 C L n0 ((r30.2.1.getD 0 unk)) ((r30.2.1.getD 1 unk)) ((r30.2.1.getD 2 unk)) ((r30.2.1.getD 3 unk)) ((r30.2.1.getD 4 unk)) ((r30.2.1.getD 5 unk)) ((r30.2.1.getD 6 unk)) ((r30.2.1.getD 7 unk)) r30.2.2
| .exit i => if i = 3 then some (AEx.normal, [(r30.2.1.getD 0 unk), (r30.2.1.getD 1 unk), (r30.2.1.getD 2 unk), (r30.2.1.getD 3 unk), (r30.2.1.getD 4 unk), (r30.2.1.getD 6 unk), (r30.2.1.getD 7 unk)], r30.2.2) else some (AEx.exit i, [(r30.2.1.getD 0 unk), (r30.2.1.getD 1 unk), (r30.2.1.getD 2 unk), (r30.2.1.getD 3 unk), (r30.2.1.getD 4 unk), (r30.2.1.getD 6 unk), (r30.2.1.getD 7 unk)], r30.2.2)
| .ret => some (AEx.ret, [(r30.2.1.getD 0 unk), (r30.2.1.getD 1 unk), (r30.2.1.getD 2 unk), (r30.2.1.getD 3 unk), (r30.2.1.getD 4 unk), (r30.2.1.getD 6 unk), (r30.2.1.getD 7 unk)], r30.2.2)).bind fun r32 =>
match r32.1 with
| .normal => j9 C L n0 ((r32.2.1.getD 0 unk)) ((r32.2.1.getD 1 unk)) ((r32.2.1.getD 2 unk)) ((r32.2.1.getD 3 unk)) ((r32.2.1.getD 4 unk)) ((r32.2.1.getD 5 unk)) ((r32.2.1.getD 6 unk)) r32.2.2
| .exit i => some (.inr (.exit i, [(r32.2.1.getD 0 unk), (r32.2.1.getD 1 unk), (r32.2.1.getD 3 unk), (r32.2.1.getD 5 unk), (r32.2.1.getD 6 unk)], r32.2.2))
| .ret => some (.inr (.ret, [(r32.2.1.getD 0 unk), (r32.2.1.getD 1 unk), (r32.2.1.getD 3 unk), (r32.2.1.getD 5 unk), (r32.2.1.getD 6 unk)], r32.2.2))) (
some (.inr (.exit 2, [t0, t3, t5, t10, t11], s)))
noncomputable def loop7s (C : Am.Callee) (L : Loops) (n0 : Nat) : List Value × AS → Option ((List Value × AS) ⊕ (AEx × List Value × AS)) := fun s => loop7 C L n0 (s.1.getD 0 unk) (s.1.getD 1 unk) (s.1.getD 2 unk) (s.1.getD 3 unk) (s.1.getD 4 unk) (s.1.getD 5 unk) (s.1.getD 6 unk) s.2
noncomputable def j11 (C : Am.Callee) (L : Loops) (n0 : Nat) (t0 t3 t5 t10 t11 : Value) (s : AS) : Option (AEx × List Value × AS) :=
(aBin PP .gtr t_int (.tmp 64) (.tmp 65) t5 t3).bind fun x36 =>
bcase x36 (
some (AEx.normal, [t0, t5, t10, t11], s)) (
some (AEx.normal, [t0, t3, t10, t11], s))
noncomputable def j12 (C : Am.Callee) (L : Loops) (n0 : Nat) (t0 t3 t10 t11 : Value) (s : AS) : Option ((List Value × AS) ⊕ (AEx × List Value × AS)) :=
(aBin PP .add t_int (.tmp 11) (.const (.int .i64 1)) t11 (.int .i64 1)).bind fun x38 =>
some (.inl ([t0, t3, t10, x38], s))
noncomputable def loop3 (C : Am.Callee) (L : Loops) (n0 : Nat) (t0 t3 t10 t11 : Value) (s : AS) : Option ((List Value × AS) ⊕ (AEx × List Value × AS)) :=
(aBin PP .lss t_int (.tmp 11) (.tmp 10) t11 t10).bind fun x2 =>
bcase x2 (
(((L n0 (loop7s C L n0) ([t0, t3, t11, .int .i64 0, .int .i64 0, t10, t11], s)).bind fun r34 =>
match r34.1 with
| .normal => some (AEx.normal, [(r34.2.1.getD 0 unk), (r34.2.1.getD 1 unk), (r34.2.1.getD 2 unk), (r34.2.1.getD 3 unk), (r34.2.1.getD 4 unk)], r34.2.2)
| .exit i => if i = 2 then some (AEx.normal, [(r34.2.1.getD 0 unk), (r34.2.1.getD 1 unk), (r34.2.1.getD 2 unk), (r34.2.1.getD 3 unk), (r34.2.1.getD 4 unk)], r34.2.2) else some (AEx.exit i, [(r34.2.1.getD 0 unk), (r34.2.1.getD 1 unk), (r34.2.1.getD 2 unk), (r34.2.1.getD 3 unk), (r34.2.1.getD 4 unk)], r34.2.2)
| .ret => some (AEx.ret, [(r34.2.1.getD 0 unk), (r34.2.1.getD 1 unk), (r34.2.1.getD 2 unk), (r34.2.1.getD 3 unk), (r34.2.1.getD 4 unk)], r34.2.2)).bind fun r35 =>
match r35.1 with
| .normal => j11 C L n0 ((r35.2.1.getD 0 unk)) ((r35.2.1.getD 1 unk)) ((r35.2.1.getD 2 unk)) ((r35.2.1.getD 3 unk)) ((r35.2.1.getD 4 unk)) r35.2.2
| .exit i => if i = 1 then some (AEx.normal, [(r35.2.1.getD 0 unk), (r35.2.1.getD 1 unk), (r35.2.1.getD 3 unk), (r35.2.1.getD 4 unk)], r35.2.2) else some (AEx.exit i, [(r35.2.1.getD 0 unk), (r35.2.1.getD 1 unk), (r35.2.1.getD 3 unk), (r35.2.1.getD 4 unk)], r35.2.2)
| .ret => some (AEx.ret, [(r35.2.1.getD 0 unk), (r35.2.1.getD 1 unk), (r35.2.1.getD 3 unk), (r35.2.1.getD 4 unk)], r35.2.2)).bind fun r37 =>
match r37.1 with
| .normal => j12 C L n0 ((r37.2.1.getD 0 unk)) ((r37.2.1.getD 1 unk)) ((r37.2.1.getD 2 unk)) ((r37.2.1.getD 3 unk)) r37.2.2
| .exit i => some (.inr (.exit i, [(r37.2.1.getD 1 unk)], r37.2.2))
| .ret => some (.inr (.ret, [(r37.2.1.getD 1 unk)], r37.2.2))) (
some (.inr (.exit 0, [t3], s)))
noncomputable def loop3s (C : Am.Callee) (L : Loops) (n0 : Nat) : List Value × AS → Option ((List Value × AS) ⊕ (AEx × List Value × AS)) := fun s => loop3 C L n0 (s.1.getD 0 unk) (s.1.getD 1 unk) (s.1.getD 2 unk) (s.1.getD 3 unk) s.2
noncomputable def j14 (C : Am.Callee) (L : Loops) (n0 : Nat) (t3 : Value) (s : AS) : Option (Value × List Blk × Option Nat) :=
fin PP false n0 [t3] s
noncomputable def sh (C : Am.Callee) (L : Loops) (n0 : Nat) (t0 : Value) (s : AS) : Option (Value × List Blk × Option Nat) :=
((aLen PP t_L_twainref34_Event t0 s).bind fun x1 =>
(L n0 (loop3s C L n0) ([t0, .int .i64 0, x1, .int .i64 0], s)).bind fun r39 =>
match r39.1 with
| .normal => some (AEx.normal, [(r39.2.1.getD 0 unk)], r39.2.2)
| .exit i => if i = 0 then some (AEx.normal, [(r39.2.1.getD 0 unk)], r39.2.2) else some (AEx.exit i, [(r39.2.1.getD 0 unk)], r39.2.2)
| .ret => some (AEx.ret, [(r39.2.1.getD 0 unk)], r39.2.2)).bind fun r40 =>
match r40.1 with
| .normal => j14 C L n0 ((r40.2.1.getD 0 unk)) r40.2.2
| .exit i => none
| .ret => fin PP false n0 [unk] r40.2.2
def T : Tab := ⟨fun i => if i = 3 then some [0, 3, 10, 11] else if i = 7 then some [0, 3, 4, 5, 6, 10, 11] else if i = 11 then some [0, 3, 4, 5, 6, 7, 8, 10, 11] else none, fun i => if i = 3 then some [3] else if i = 7 then some [0, 3, 5, 10, 11] else if i = 11 then some [0, 3, 4, 5, 6, 7, 10, 11] else none, false, fun i => if i = 8 then some [0, 3, 4, 5, 6, 10, 11] else if i = 12 then some [0, 3, 4, 5, 6, 7, 8, 10, 11] else if i = 13 then some [0, 3, 4, 5, 6, 7, 8, 10, 11] else if i = 14 then some [0, 3, 4, 5, 6, 7, 8, 10, 11, 60] else if i = 15 then some [0, 3, 4, 5, 6, 7, 10, 11] else if i = 17 then some [0, 3, 5, 10, 11] else if i = 19 then some [0, 3, 10, 11] else if i = 20 then some [3] else none, fun _ => false, false, false, fun _ => false, 16, false⟩
end twainref47_Most
namespace stats_pairs
noncomputable def j2 (C : Am.Callee) (L : Loops) (n0 : Nat) (t3 t4 t5 t8 t14 t15 t16 t43 : Value) (s : AS) : Option (AEx × List Value × AS) :=
bcase t43 (
(aLookup PP t_M_int_int t4 t8 true s).bind fun x29 =>
(pureRun PP (Instr.extract x29 0)).bind fun x30 =>
(pureRun PP (Instr.extract x29 1)).bind fun x31 =>
(aUn PP .not x31).bind fun x32 =>
bcase x32 (
(aMapUpdate PP t_M_int_int t4 t8 t5 s).bind fun s33 =>
some (AEx.normal, [t3, t4, t14, t15, t16], s33)) (
some (AEx.normal, [t3, t4, t14, t15, t16], s))) (
some (AEx.normal, [t3, t4, t14, t15, t16], s))
noncomputable def j1 (C : Am.Callee) (L : Loops) (n0 : Nat) (t3 t4 t5 t6 t7 t8 t9 t14 t15 t16 t32 : Value) (s : AS) : Option (AEx × List Value × AS) :=
bcase t32 (
(aLoad true 2 s t7).bind fun x23 =>
(aMapUpdate PP t_M_stats_key_int t3 x23 t5 s).bind fun s24 =>
some (AEx.normal, [t3, t4, t14, t15, t16], s24)) (
((aFieldAddr PP t_world_Event t6 0).bind fun x25 =>
(aLoad false 1 s x25).bind fun x26 =>
(aBin PP .eql t_int (.tmp 45) (.const (.int .i64 1)) x26 (.int .i64 1)).bind fun x27 =>
bcase x27 (
some (AEx.normal, [t3, t4, t5, t8, t14, t15, t16, t9], s)) (
some (AEx.normal, [t3, t4, t5, t8, t14, t15, t16, .bool false], s))).bind fun r28 =>
match r28.1 with
| .normal => j2 C L n0 ((r28.2.1.getD 0 unk)) ((r28.2.1.getD 1 unk)) ((r28.2.1.getD 2 unk)) ((r28.2.1.getD 3 unk)) ((r28.2.1.getD 4 unk)) ((r28.2.1.getD 5 unk)) ((r28.2.1.getD 6 unk)) ((r28.2.1.getD 7 unk)) r28.2.2
| .exit i => if i = 2 then some (AEx.normal, [(r28.2.1.getD 0 unk), (r28.2.1.getD 1 unk), (r28.2.1.getD 4 unk), (r28.2.1.getD 5 unk), (r28.2.1.getD 6 unk)], r28.2.2) else if i = 1 then some (AEx.normal, [(r28.2.1.getD 0 unk), (r28.2.1.getD 1 unk), (r28.2.1.getD 4 unk), (r28.2.1.getD 5 unk), (r28.2.1.getD 6 unk)], r28.2.2) else some (AEx.exit i, [(r28.2.1.getD 0 unk), (r28.2.1.getD 1 unk), (r28.2.1.getD 4 unk), (r28.2.1.getD 5 unk), (r28.2.1.getD 6 unk)], r28.2.2)
| .ret => some (AEx.ret, [(r28.2.1.getD 0 unk), (r28.2.1.getD 1 unk), (r28.2.1.getD 4 unk), (r28.2.1.getD 5 unk), (r28.2.1.getD 6 unk)], r28.2.2))
noncomputable def j3 (C : Am.Callee) (L : Loops) (n0 : Nat) (t3 t4 t14 t15 t16 : Value) (s : AS) : Option ((List Value × AS) ⊕ (AEx × List Value × AS)) :=
(aBin PP .add t_int (.tmp 16) (.const (.int .i64 1)) t16 (.int .i64 1)).bind fun x35 =>
some (.inl ([t3, t4, t14, t15, x35], s))
noncomputable def loop4 (C : Am.Callee) (L : Loops) (n0 : Nat) (t3 t4 t14 t15 t16 : Value) (s : AS) : Option ((List Value × AS) ⊕ (AEx × List Value × AS)) :=
(aBin PP .lss t_int (.tmp 16) (.tmp 15) t16 t15).bind fun x2 =>
bcase x2 (
((aIndexAddr PP t_L_world_Event t14 t16).bind fun x3 =>
(aLoad true 8 s x3).bind fun x4 =>
(aBox t_world_Event ((zeroP PP t_world_Event).getD unk) s).bind fun r5 =>
(aStore 8 r5.2 r5.1 x4).bind fun s6 =>
(aFieldAddr PP t_world_Event r5.1 1).bind fun x7 =>
(aLoad false 1 s6 x7).bind fun x8 =>
(aFieldAddr PP t_world_Event r5.1 2).bind fun x9 =>
(aLoad false 1 s6 x9).bind fun x10 =>
(aBuild PP t_stats_key [(0, x8), (1, x10)]).bind fun x11 =>
(aBox t_stats_key ((zeroP PP t_stats_key).getD unk) s6).bind fun r12 =>
(aStore 2 r12.2 r12.1 x11).bind fun s13 =>
(aLoad true 2 s13 r12.1).bind fun x14 =>
(aLookup PP t_M_stats_key_int t3 x14 true s13).bind fun x15 =>
(pureRun PP (Instr.extract x15 0)).bind fun x16 =>
(pureRun PP (Instr.extract x15 1)).bind fun x17 =>
((aFieldAddr PP t_world_Event r5.1 0).bind fun x18 =>
(aLoad false 1 s13 x18).bind fun x19 =>
(aBin PP .eql t_int (.tmp 34) (.const (.int .i64 0)) x19 (.int .i64 0)).bind fun x20 =>
bcase x20 (
(aUn PP .not x17).bind fun x21 =>
some (AEx.normal, [t3, t4, t16, r5.1, r12.1, x16, x17, t14, t15, t16, x21], s13)) (
some (AEx.normal, [t3, t4, t16, r5.1, r12.1, x16, x17, t14, t15, t16, .bool false], s13))).bind fun r22 =>
match r22.1 with
| .normal => j1 C L n0 ((r22.2.1.getD 0 unk)) ((r22.2.1.getD 1 unk)) ((r22.2.1.getD 2 unk)) ((r22.2.1.getD 3 unk)) ((r22.2.1.getD 4 unk)) ((r22.2.1.getD 5 unk)) ((r22.2.1.getD 6 unk)) ((r22.2.1.getD 7 unk)) ((r22.2.1.getD 8 unk)) ((r22.2.1.getD 9 unk)) ((r22.2.1.getD 10 unk)) r22.2.2
| .exit i => if i = 2 then some (AEx.normal, [(r22.2.1.getD 0 unk), (r22.2.1.getD 1 unk), (r22.2.1.getD 7 unk), (r22.2.1.getD 8 unk), (r22.2.1.getD 9 unk)], r22.2.2) else if i = 1 then some (AEx.normal, [(r22.2.1.getD 0 unk), (r22.2.1.getD 1 unk), (r22.2.1.getD 7 unk), (r22.2.1.getD 8 unk), (r22.2.1.getD 9 unk)], r22.2.2) else some (AEx.exit i, [(r22.2.1.getD 0 unk), (r22.2.1.getD 1 unk), (r22.2.1.getD 7 unk), (r22.2.1.getD 8 unk), (r22.2.1.getD 9 unk)], r22.2.2)
| .ret => some (AEx.ret, [(r22.2.1.getD 0 unk), (r22.2.1.getD 1 unk), (r22.2.1.getD 7 unk), (r22.2.1.getD 8 unk), (r22.2.1.getD 9 unk)], r22.2.2)).bind fun r34 =>
match r34.1 with
| .normal => j3 C L n0 ((r34.2.1.getD 0 unk)) ((r34.2.1.getD 1 unk)) ((r34.2.1.getD 2 unk)) ((r34.2.1.getD 3 unk)) ((r34.2.1.getD 4 unk)) r34.2.2
| .exit i => some (.inr (.exit i, [(r34.2.1.getD 0 unk), (r34.2.1.getD 1 unk)], r34.2.2))
| .ret => some (.inr (.ret, [(r34.2.1.getD 0 unk), (r34.2.1.getD 1 unk)], r34.2.2))) (
some (.inr (.exit 0, [t3, t4], s)))
noncomputable def loop4s (C : Am.Callee) (L : Loops) (n0 : Nat) : List Value × AS → Option ((List Value × AS) ⊕ (AEx × List Value × AS)) := fun s => loop4 C L n0 (s.1.getD 0 unk) (s.1.getD 1 unk) (s.1.getD 2 unk) (s.1.getD 3 unk) (s.1.getD 4 unk) s.2
noncomputable def j5 (C : Am.Callee) (L : Loops) (n0 : Nat) (t3 t4 : Value) (s : AS) : Option (Value × List Blk × Option Nat) :=
eBuiltin PP .clear #[t_M_stats_key_int] [t3] s fun x38 s39 =>
fin PP false n0 [t4] s39
noncomputable def sh (C : Am.Callee) (L : Loops) (n0 : Nat) (t0 : Value) (s : AS) : Option (Value × List Blk × Option Nat) :=
((aLen PP t_L_world_Event t0 (newBlk (newBlk s (.map [] 0)) (.map [] 0))).bind fun x1 =>
(L n0 (loop4s C L n0) ([.map (some s.H.length), .map (some (newBlk s (.map [] 0)).H.length), t0, x1, .int .i64 0], newBlk (newBlk s (.map [] 0)) (.map [] 0))).bind fun r36 =>
match r36.1 with
| .normal => some (AEx.normal, [(r36.2.1.getD 0 unk), (r36.2.1.getD 1 unk)], r36.2.2)
| .exit i => if i = 0 then some (AEx.normal, [(r36.2.1.getD 0 unk), (r36.2.1.getD 1 unk)], r36.2.2) else some (AEx.exit i, [(r36.2.1.getD 0 unk), (r36.2.1.getD 1 unk)], r36.2.2)
| .ret => some (AEx.ret, [(r36.2.1.getD 0 unk), (r36.2.1.getD 1 unk)], r36.2.2)).bind fun r37 =>
match r37.1 with
| .normal => j5 C L n0 ((r37.2.1.getD 0 unk)) ((r37.2.1.getD 1 unk)) r37.2.2
| .exit i => none
| .ret => fin PP false n0 [unk] r37.2.2
def T : Tab := ⟨fun i => if i = 4 then some [3, 4, 14, 15, 16] else none, fun i => if i = 4 then some [3, 4] else none, false, fun i => if i = 9 then some [3, 4, 5, 6, 7, 8, 9, 14, 15, 16, 32] else if i = 11 then some [3, 4, 5, 8, 14, 15, 16, 43] else if i = 14 then some [3, 4, 14, 15, 16] else if i = 15 then some [3, 4] else none, fun _ => false, false, false, fun _ => false, 20, false⟩
end stats_pairs
namespace twainref47_end
noncomputable def j1 (C : Am.Callee) (L : Loops) (n0 : Nat) (t0 t1 t5 t49 : Value) (s : AS) : Option (AEx × List Value × AS) :=
bcase t49 (
some (AEx.ret, [t0, t1, t5, t5], s)) (
some (AEx.normal, [t0, t1, unk, t5], s))
noncomputable def j2 (C : Am.Callee) (L : Loops) (n0 : Nat) (t0 t1 t5 : Value) (s : AS) : Option ((List Value × AS) ⊕ (AEx × List Value × AS)) :=
(aBin PP .add t_int (.tmp 16) (.const (.int .i64 1)) t5 (.int .i64 1)).bind fun x26 =>
some (.inl ([t0, t1, x26], s))
noncomputable def loop4 (C : Am.Callee) (L : Loops) (n0 : Nat) (t0 t1 t5 : Value) (s : AS) : Option ((List Value × AS) ⊕ (AEx × List Value × AS)) :=
(aLen PP t_L_twainref34_Event t0 s).bind fun x4 =>
(aBin PP .lss t_int (.tmp 12) (.tmp 14) t5 x4).bind fun x5 =>
bcase x5 (
(((aIndexAddr PP t_L_twainref34_Event t0 t5).bind fun x6 =>
(aFieldAddr PP t_twainref34_Event x6 0).bind fun x7 =>
(aLoad false 1 s x7).bind fun x8 =>
(aBin PP .eql t_int (.tmp 22) (.const (.int .i64 1)) x8 (.int .i64 1)).bind fun x9 =>
bcase x9 (
(aIndexAddr PP t_L_twainref34_Event t0 t5).bind fun x10 =>
(aFieldAddr PP t_twainref34_Event x10 1).bind fun x11 =>
(aLoad false 1 s x11).bind fun x12 =>
(aIndexAddr PP t_L_twainref34_Event t0 t1).bind fun x13 =>
(aFieldAddr PP t_twainref34_Event x13 1).bind fun x14 =>
(aLoad false 1 s x14).bind fun x15 =>
(aBin PP .eql t_int (.tmp 29) (.tmp 34) x12 x15).bind fun x16 =>
bcase x16 (
(aIndexAddr PP t_L_twainref34_Event t0 t5).bind fun x17 =>
(aFieldAddr PP t_twainref34_Event x17 2).bind fun x18 =>
(aLoad false 1 s x18).bind fun x19 =>
(aIndexAddr PP t_L_twainref34_Event t0 t1).bind fun x20 =>
(aFieldAddr PP t_twainref34_Event x20 2).bind fun x21 =>
(aLoad false 1 s x21).bind fun x22 =>
(aBin PP .eql t_int (.tmp 42) (.tmp 47) x19 x22).bind fun x23 =>
some (AEx.normal, [t0, t1, t5, x23], s)) (
some (AEx.normal, [t0, t1, t5, .bool false], s))) (
some (AEx.normal, [t0, t1, t5, .bool false], s))).bind fun r24 =>
match r24.1 with
| .normal => j1 C L n0 ((r24.2.1.getD 0 unk)) ((r24.2.1.getD 1 unk)) ((r24.2.1.getD 2 unk)) ((r24.2.1.getD 3 unk)) r24.2.2
| .exit i => if i = 1 then some (AEx.normal, [(r24.2.1.getD 0 unk), (r24.2.1.getD 1 unk), unk, (r24.2.1.getD 2 unk)], r24.2.2) else some (AEx.exit i, [(r24.2.1.getD 0 unk), (r24.2.1.getD 1 unk), unk, (r24.2.1.getD 2 unk)], r24.2.2)
| .ret => some (AEx.ret, [(r24.2.1.getD 0 unk), (r24.2.1.getD 1 unk), unk, (r24.2.1.getD 2 unk)], r24.2.2)).bind fun r25 =>
match r25.1 with
| .normal => j2 C L n0 ((r25.2.1.getD 0 unk)) ((r25.2.1.getD 1 unk)) ((r25.2.1.getD 3 unk)) r25.2.2
| .exit i => some (.inr (.exit i, [(r25.2.1.getD 2 unk)], r25.2.2))
| .ret => some (.inr (.ret, [(r25.2.1.getD 2 unk)], r25.2.2))) (
some (.inr (.exit 0, [unk], s)))
noncomputable def loop4s (C : Am.Callee) (L : Loops) (n0 : Nat) : List Value × AS → Option ((List Value × AS) ⊕ (AEx × List Value × AS)) := fun s => loop4 C L n0 (s.1.getD 0 unk) (s.1.getD 1 unk) (s.1.getD 2 unk) s.2
noncomputable def j4 (C : Am.Callee) (L : Loops) (n0 : Nat) (s : AS) : Option (Value × List Blk × Option Nat) :=
fin PP false n0 [.int .i64 (-1)] s
noncomputable def sh (C : Am.Callee) (L : Loops) (n0 : Nat) (t0 t1 : Value) (s : AS) : Option (Value × List Blk × Option Nat) :=
(C n_twainref36_Open [t0] s.H).bind fun r1 =>
(C n_twainref47_in [r1.1, t1] (AS.mk r1.2.1 (joinEsc s.esc r1.2.2)).H).bind fun r2 =>
bcase r2.1 (
fin PP false n0 [.int .i64 (-1)] (AS.mk r2.2.1 (joinEsc (AS.mk r1.2.1 (joinEsc s.esc r1.2.2)).esc r2.2.2))) (
((aBin PP .add t_int (.tmp 10) (.const (.int .i64 1)) t1 (.int .i64 1)).bind fun x3 =>
(L n0 (loop4s C L n0) ([t0, t1, x3], AS.mk r2.2.1 (joinEsc (AS.mk r1.2.1 (joinEsc s.esc r1.2.2)).esc r2.2.2))).bind fun r27 =>
match r27.1 with
| .normal => some (AEx.normal, [(r27.2.1.getD 0 unk)], r27.2.2)
| .exit i => if i = 0 then some (AEx.normal, [(r27.2.1.getD 0 unk)], r27.2.2) else some (AEx.exit i, [(r27.2.1.getD 0 unk)], r27.2.2)
| .ret => some (AEx.ret, [(r27.2.1.getD 0 unk)], r27.2.2)).bind fun r28 =>
match r28.1 with
| .normal => j4 C L n0  r28.2.2
| .exit i => none
| .ret => fin PP false n0 [(r28.2.1.getD 0 unk)] r28.2.2)
def T : Tab := ⟨fun i => if i = 4 then some [0, 1, 5] else none, fun i => if i = 4 then some [4] else none, false, fun i => if i = 5 then some [0, 1, 4, 5] else if i = 7 then some [0, 1, 5, 49] else if i = 8 then some [4] else none, fun _ => false, false, false, fun _ => false, 21, false⟩
end twainref47_end
namespace stats_Most_1
noncomputable def j0 (C : Am.Callee) (L : Loops) (n0 : Nat) (t0 t1 t2 t10 : Value) (s : AS) : Option (AEx × List Value × AS) :=
bcase t10 (
(aIndexAddr PP t_A2_M_int_bool t1 t0).bind fun x4 =>
(aLoad false 1 s x4).bind fun x5 =>
some (AEx.ret, [t0, t2, x5], s)) (
some (AEx.normal, [t0, t2, unk], s))
noncomputable def j2 (C : Am.Callee) (L : Loops) (n0 : Nat) (t0 t2 : Value) (s : AS) : Option (Value × List Blk × Option Nat) :=
(aLoad false 1 s t2).bind fun x13 =>
(aLookup PP t_M_int_M_int_bool x13 t0 false s).bind fun x14 =>
fin PP true n0 [x14] s
noncomputable def j1 (C : Am.Callee) (L : Loops) (n0 : Nat) (t0 t2 : Value) (s : AS) : Option (Value × List Blk × Option Nat) :=
((aLoad false 1 s t2).bind fun x7 =>
(aLookup PP t_M_int_M_int_bool x7 t0 false s).bind fun x8 =>
(aBin PP .eql t_M_int_bool (.tmp 16) (.const (.map none)) x8 (.map none)).bind fun x9 =>
bcase x9 (
(aLoad false 1 s t2).bind fun x10 =>
(aMapUpdate PP t_M_int_M_int_bool x10 t0 (.map (some s.H.length)) (newBlk s (.map [] 0))).bind fun s11 =>
some (AEx.normal, [t0, t2], s11)) (
some (AEx.normal, [t0, t2], s))).bind fun r12 =>
match r12.1 with
| .normal => j2 C L n0 ((r12.2.1.getD 0 unk)) ((r12.2.1.getD 1 unk)) r12.2.2
| .exit i => none
| .ret => fin PP true n0 [unk] r12.2.2
noncomputable def sh (C : Am.Callee) (L : Loops) (n0 : Nat) (t0 t1 t2 : Value) (s : AS) : Option (Value × List Blk × Option Nat) :=
(((aBin PP .eql t_int (.tmp 5) (.const (.int .i64 0)) t0 (.int .i64 0)).bind fun x1 =>
bcase x1 (
some (AEx.normal, [t0, t1, t2, .bool true], s)) (
(aBin PP .eql t_int (.tmp 8) (.const (.int .i64 1)) t0 (.int .i64 1)).bind fun x2 =>
some (AEx.normal, [t0, t1, t2, x2], s))).bind fun r3 =>
match r3.1 with
| .normal => j0 C L n0 ((r3.2.1.getD 0 unk)) ((r3.2.1.getD 1 unk)) ((r3.2.1.getD 2 unk)) ((r3.2.1.getD 3 unk)) r3.2.2
| .exit i => some (AEx.exit i, [(r3.2.1.getD 0 unk), (r3.2.1.getD 2 unk), unk], r3.2.2)
| .ret => some (AEx.ret, [(r3.2.1.getD 0 unk), (r3.2.1.getD 2 unk), unk], r3.2.2)).bind fun r6 =>
match r6.1 with
| .normal => j1 C L n0 ((r6.2.1.getD 0 unk)) ((r6.2.1.getD 1 unk)) r6.2.2
| .exit i => none
| .ret => fin PP true n0 [(r6.2.1.getD 2 unk)] r6.2.2
def T : Tab := ⟨fun i => none, fun i => none, true, fun i => if i = 2 then some [0, 1, 2, 10] else if i = 3 then some [0, 2, 4] else if i = 5 then some [0, 2] else none, fun _ => false, false, false, fun _ => false, 22, false⟩
end stats_Most_1
namespace twainref47_in
noncomputable def loop2 (C : Am.Callee) (L : Loops) (n0 : Nat) (t1 t7 t8 t9 : Value) (s : AS) : Option ((List Value × AS) ⊕ (AEx × List Value × AS)) :=
(aBin PP .lss t_int (.tmp 9) (.tmp 8) t9 t8).bind fun x2 =>
bcase x2 (
(aIndexAddr PP t_L_int t7 t9).bind fun x3 =>
(aLoad false 1 s x3).bind fun x4 =>
(aBin PP .eql t_int (.tmp 13) (.tmp 14) x4 t1).bind fun x5 =>
bcase x5 (
some (.inr (.ret, [.bool true], s))) (
(aBin PP .add t_int (.tmp 9) (.const (.int .i64 1)) t9 (.int .i64 1)).bind fun x6 =>
some (.inl ([t1, t7, t8, x6], s)))) (
some (.inr (.exit 0, [unk], s)))
noncomputable def loop2s (C : Am.Callee) (L : Loops) (n0 : Nat) : List Value × AS → Option ((List Value × AS) ⊕ (AEx × List Value × AS)) := fun s => loop2 C L n0 (s.1.getD 0 unk) (s.1.getD 1 unk) (s.1.getD 2 unk) (s.1.getD 3 unk) s.2
noncomputable def j2 (C : Am.Callee) (L : Loops) (n0 : Nat) (s : AS) : Option (Value × List Blk × Option Nat) :=
fin PP false n0 [.bool false] s
noncomputable def sh (C : Am.Callee) (L : Loops) (n0 : Nat) (t0 t1 : Value) (s : AS) : Option (Value × List Blk × Option Nat) :=
((aLen PP t_L_int t0 s).bind fun x1 =>
(L n0 (loop2s C L n0) ([t1, t0, x1, .int .i64 0], s)).bind fun r7 =>
match r7.1 with
| .normal => some (AEx.normal, [(r7.2.1.getD 0 unk)], r7.2.2)
| .exit i => if i = 0 then some (AEx.normal, [(r7.2.1.getD 0 unk)], r7.2.2) else some (AEx.exit i, [(r7.2.1.getD 0 unk)], r7.2.2)
| .ret => some (AEx.ret, [(r7.2.1.getD 0 unk)], r7.2.2)).bind fun r8 =>
match r8.1 with
| .normal => j2 C L n0  r8.2.2
| .exit i => none
| .ret => fin PP false n0 [(r8.2.1.getD 0 unk)] r8.2.2
def T : Tab := ⟨fun i => if i = 2 then some [1, 7, 8, 9] else none, fun i => if i = 2 then some [4] else none, false, fun i => if i = 7 then some [4] else none, fun _ => false, false, false, fun _ => false, 26, false⟩
end twainref47_in
namespace twainref36_Open
noncomputable def j1 (C : Am.Callee) (L : Loops) (n0 : Nat) (t0 t3 t4 t6 t7 t8 t21 : Value) (s : AS) : Option (AEx × List Value × AS) :=
bcase t21 (
(bsl PP t_L_int 1 [0] [t4] s).bind fun r13 =>
eBuiltin PP .append #[t_L_int, t_L_int] [t3, r13.1] r13.2 fun x14 s15 =>
some (AEx.normal, [t0, x14, t6, t7, t8], s15)) (
some (AEx.normal, [t0, t3, t6, t7, t8], s))
noncomputable def j2 (C : Am.Callee) (L : Loops) (n0 : Nat) (t0 t3 t6 t7 t8 : Value) (s : AS) : Option ((List Value × AS) ⊕ (AEx × List Value × AS)) :=
(aBin PP .add t_int (.tmp 8) (.const (.int .i64 1)) t8 (.int .i64 1)).bind fun x17 =>
some (.inl ([t0, t3, t6, t7, x17], s))
noncomputable def loop3 (C : Am.Callee) (L : Loops) (n0 : Nat) (t0 t3 t6 t7 t8 : Value) (s : AS) : Option ((List Value × AS) ⊕ (AEx × List Value × AS)) :=
(aBin PP .lss t_int (.tmp 8) (.tmp 7) t8 t7).bind fun x2 =>
bcase x2 (
((aIndexAddr PP t_L_twainref34_Event t6 t8).bind fun x3 =>
(aLoad true 8 s x3).bind fun x4 =>
(aBox t_twainref34_Event ((zeroP PP t_twainref34_Event).getD unk) s).bind fun r5 =>
(aStore 8 r5.2 r5.1 x4).bind fun s6 =>
((aFieldAddr PP t_twainref34_Event r5.1 0).bind fun x7 =>
(aLoad false 1 s6 x7).bind fun x8 =>
(aBin PP .eql t_int (.tmp 14) (.const (.int .i64 0)) x8 (.int .i64 0)).bind fun x9 =>
bcase x9 (
(C n_twainref36_ended [t0, t8] s6.H).bind fun r10 =>
(aBin PP .lss t_int (.tmp 19) (.const (.int .i64 0)) r10.1 (.int .i64 0)).bind fun x11 =>
some (AEx.normal, [t0, t3, t8, t6, t7, t8, x11], AS.mk r10.2.1 (joinEsc s6.esc r10.2.2))) (
some (AEx.normal, [t0, t3, t8, t6, t7, t8, .bool false], s6))).bind fun r12 =>
match r12.1 with
| .normal => j1 C L n0 ((r12.2.1.getD 0 unk)) ((r12.2.1.getD 1 unk)) ((r12.2.1.getD 2 unk)) ((r12.2.1.getD 3 unk)) ((r12.2.1.getD 4 unk)) ((r12.2.1.getD 5 unk)) ((r12.2.1.getD 6 unk)) r12.2.2
| .exit i => if i = 1 then some (AEx.normal, [(r12.2.1.getD 0 unk), (r12.2.1.getD 1 unk), (r12.2.1.getD 3 unk), (r12.2.1.getD 4 unk), (r12.2.1.getD 5 unk)], r12.2.2) else some (AEx.exit i, [(r12.2.1.getD 0 unk), (r12.2.1.getD 1 unk), (r12.2.1.getD 3 unk), (r12.2.1.getD 4 unk), (r12.2.1.getD 5 unk)], r12.2.2)
| .ret => some (AEx.ret, [(r12.2.1.getD 0 unk), (r12.2.1.getD 1 unk), (r12.2.1.getD 3 unk), (r12.2.1.getD 4 unk), (r12.2.1.getD 5 unk)], r12.2.2)).bind fun r16 =>
match r16.1 with
| .normal => j2 C L n0 ((r16.2.1.getD 0 unk)) ((r16.2.1.getD 1 unk)) ((r16.2.1.getD 2 unk)) ((r16.2.1.getD 3 unk)) ((r16.2.1.getD 4 unk)) r16.2.2
| .exit i => some (.inr (.exit i, [(r16.2.1.getD 1 unk)], r16.2.2))
| .ret => some (.inr (.ret, [(r16.2.1.getD 1 unk)], r16.2.2))) (
some (.inr (.exit 0, [t3], s)))
noncomputable def loop3s (C : Am.Callee) (L : Loops) (n0 : Nat) : List Value × AS → Option ((List Value × AS) ⊕ (AEx × List Value × AS)) := fun s => loop3 C L n0 (s.1.getD 0 unk) (s.1.getD 1 unk) (s.1.getD 2 unk) (s.1.getD 3 unk) (s.1.getD 4 unk) s.2
noncomputable def j4 (C : Am.Callee) (L : Loops) (n0 : Nat) (t3 : Value) (s : AS) : Option (Value × List Blk × Option Nat) :=
fin PP false n0 [t3] s
noncomputable def sh (C : Am.Callee) (L : Loops) (n0 : Nat) (t0 : Value) (s : AS) : Option (Value × List Blk × Option Nat) :=
((aLen PP t_L_twainref34_Event t0 s).bind fun x1 =>
(L n0 (loop3s C L n0) ([t0, .slice none 0 0, t0, x1, .int .i64 0], s)).bind fun r18 =>
match r18.1 with
| .normal => some (AEx.normal, [(r18.2.1.getD 0 unk)], r18.2.2)
| .exit i => if i = 0 then some (AEx.normal, [(r18.2.1.getD 0 unk)], r18.2.2) else some (AEx.exit i, [(r18.2.1.getD 0 unk)], r18.2.2)
| .ret => some (AEx.ret, [(r18.2.1.getD 0 unk)], r18.2.2)).bind fun r19 =>
match r19.1 with
| .normal => j4 C L n0 ((r19.2.1.getD 0 unk)) r19.2.2
| .exit i => none
| .ret => fin PP false n0 [unk] r19.2.2
def T : Tab := ⟨fun i => if i = 3 then some [0, 3, 6, 7, 8] else none, fun i => if i = 3 then some [3] else none, false, fun i => if i = 6 then some [0, 3, 4, 6, 7, 8, 21] else if i = 7 then some [0, 3, 6, 7, 8] else if i = 8 then some [3] else none, fun _ => false, false, false, fun _ => false, 27, false⟩
end twainref36_Open
namespace twainref36_ended
noncomputable def j1 (C : Am.Callee) (L : Loops) (n0 : Nat) (t0 t1 t5 t26 : Value) (s : AS) : Option (AEx × List Value × AS) :=
bcase t26 (
some (AEx.ret, [t0, t1, t5, t5], s)) (
some (AEx.normal, [t0, t1, unk, t5], s))
noncomputable def j2 (C : Am.Callee) (L : Loops) (n0 : Nat) (t0 t1 t5 : Value) (s : AS) : Option ((List Value × AS) ⊕ (AEx × List Value × AS)) :=
(aBin PP .add t_int (.tmp 12) (.const (.int .i64 1)) t5 (.int .i64 1)).bind fun x12 =>
some (.inl ([t0, t1, x12], s))
noncomputable def loop2 (C : Am.Callee) (L : Loops) (n0 : Nat) (t0 t1 t5 : Value) (s : AS) : Option ((List Value × AS) ⊕ (AEx × List Value × AS)) :=
(aLen PP t_L_twainref34_Event t0 s).bind fun x2 =>
(aBin PP .lss t_int (.tmp 8) (.tmp 10) t5 x2).bind fun x3 =>
bcase x3 (
(((aIndexAddr PP t_L_twainref34_Event t0 t5).bind fun x4 =>
(aFieldAddr PP t_twainref34_Event x4 0).bind fun x5 =>
(aLoad false 1 s x5).bind fun x6 =>
(aBin PP .eql t_int (.tmp 18) (.const (.int .i64 1)) x6 (.int .i64 1)).bind fun x7 =>
bcase x7 (
(C n_twainref36_asked [t0, t5] s.H).bind fun r8 =>
(aBin PP .eql t_int (.tmp 23) (.tmp 24) r8.1 t1).bind fun x9 =>
some (AEx.normal, [t0, t1, t5, x9], AS.mk r8.2.1 (joinEsc s.esc r8.2.2))) (
some (AEx.normal, [t0, t1, t5, .bool false], s))).bind fun r10 =>
match r10.1 with
| .normal => j1 C L n0 ((r10.2.1.getD 0 unk)) ((r10.2.1.getD 1 unk)) ((r10.2.1.getD 2 unk)) ((r10.2.1.getD 3 unk)) r10.2.2
| .exit i => if i = 1 then some (AEx.normal, [(r10.2.1.getD 0 unk), (r10.2.1.getD 1 unk), unk, (r10.2.1.getD 2 unk)], r10.2.2) else some (AEx.exit i, [(r10.2.1.getD 0 unk), (r10.2.1.getD 1 unk), unk, (r10.2.1.getD 2 unk)], r10.2.2)
| .ret => some (AEx.ret, [(r10.2.1.getD 0 unk), (r10.2.1.getD 1 unk), unk, (r10.2.1.getD 2 unk)], r10.2.2)).bind fun r11 =>
match r11.1 with
| .normal => j2 C L n0 ((r11.2.1.getD 0 unk)) ((r11.2.1.getD 1 unk)) ((r11.2.1.getD 3 unk)) r11.2.2
| .exit i => some (.inr (.exit i, [(r11.2.1.getD 2 unk)], r11.2.2))
| .ret => some (.inr (.ret, [(r11.2.1.getD 2 unk)], r11.2.2))) (
some (.inr (.exit 0, [unk], s)))
noncomputable def loop2s (C : Am.Callee) (L : Loops) (n0 : Nat) : List Value × AS → Option ((List Value × AS) ⊕ (AEx × List Value × AS)) := fun s => loop2 C L n0 (s.1.getD 0 unk) (s.1.getD 1 unk) (s.1.getD 2 unk) s.2
noncomputable def j4 (C : Am.Callee) (L : Loops) (n0 : Nat) (s : AS) : Option (Value × List Blk × Option Nat) :=
fin PP false n0 [.int .i64 (-1)] s
noncomputable def sh (C : Am.Callee) (L : Loops) (n0 : Nat) (t0 t1 : Value) (s : AS) : Option (Value × List Blk × Option Nat) :=
((aBin PP .add t_int (.tmp 6) (.const (.int .i64 1)) t1 (.int .i64 1)).bind fun x1 =>
(L n0 (loop2s C L n0) ([t0, t1, x1], s)).bind fun r13 =>
match r13.1 with
| .normal => some (AEx.normal, [(r13.2.1.getD 0 unk)], r13.2.2)
| .exit i => if i = 0 then some (AEx.normal, [(r13.2.1.getD 0 unk)], r13.2.2) else some (AEx.exit i, [(r13.2.1.getD 0 unk)], r13.2.2)
| .ret => some (AEx.ret, [(r13.2.1.getD 0 unk)], r13.2.2)).bind fun r14 =>
match r14.1 with
| .normal => j4 C L n0  r14.2.2
| .exit i => none
| .ret => fin PP false n0 [(r14.2.1.getD 0 unk)] r14.2.2
def T : Tab := ⟨fun i => if i = 2 then some [0, 1, 5] else none, fun i => if i = 2 then some [4] else none, false, fun i => if i = 3 then some [0, 1, 4, 5] else if i = 5 then some [0, 1, 5, 26] else if i = 6 then some [4] else none, fun _ => false, false, false, fun _ => false, 39, false⟩
end twainref36_ended
namespace twainref36_asked
noncomputable def j1 (C : Am.Callee) (L : Loops) (n0 : Nat) (t0 t1 t5 t42 : Value) (s : AS) : Option (AEx × List Value × AS) :=
bcase t42 (
some (AEx.ret, [t0, t1, t5, t5], s)) (
some (AEx.normal, [t0, t1, unk, t5], s))
noncomputable def j2 (C : Am.Callee) (L : Loops) (n0 : Nat) (t0 t1 t5 : Value) (s : AS) : Option ((List Value × AS) ⊕ (AEx × List Value × AS)) :=
(aBin PP .add t_int (.tmp 9) (.const (.int .i64 1)) t5 (.int .i64 1)).bind fun x22 =>
some (.inl ([t0, t1, x22], s))
noncomputable def loop2 (C : Am.Callee) (L : Loops) (n0 : Nat) (t0 t1 t5 : Value) (s : AS) : Option ((List Value × AS) ⊕ (AEx × List Value × AS)) :=
(aBin PP .lss t_int (.tmp 6) (.tmp 7) t5 t1).bind fun x1 =>
bcase x1 (
(((aIndexAddr PP t_L_twainref34_Event t0 t5).bind fun x2 =>
(aFieldAddr PP t_twainref34_Event x2 0).bind fun x3 =>
(aLoad false 1 s x3).bind fun x4 =>
(aBin PP .eql t_int (.tmp 15) (.const (.int .i64 0)) x4 (.int .i64 0)).bind fun x5 =>
bcase x5 (
(aIndexAddr PP t_L_twainref34_Event t0 t5).bind fun x6 =>
(aFieldAddr PP t_twainref34_Event x6 1).bind fun x7 =>
(aLoad false 1 s x7).bind fun x8 =>
(aIndexAddr PP t_L_twainref34_Event t0 t1).bind fun x9 =>
(aFieldAddr PP t_twainref34_Event x9 1).bind fun x10 =>
(aLoad false 1 s x10).bind fun x11 =>
(aBin PP .eql t_int (.tmp 22) (.tmp 27) x8 x11).bind fun x12 =>
bcase x12 (
(aIndexAddr PP t_L_twainref34_Event t0 t5).bind fun x13 =>
(aFieldAddr PP t_twainref34_Event x13 2).bind fun x14 =>
(aLoad false 1 s x14).bind fun x15 =>
(aIndexAddr PP t_L_twainref34_Event t0 t1).bind fun x16 =>
(aFieldAddr PP t_twainref34_Event x16 2).bind fun x17 =>
(aLoad false 1 s x17).bind fun x18 =>
(aBin PP .eql t_int (.tmp 35) (.tmp 40) x15 x18).bind fun x19 =>
some (AEx.normal, [t0, t1, t5, x19], s)) (
some (AEx.normal, [t0, t1, t5, .bool false], s))) (
some (AEx.normal, [t0, t1, t5, .bool false], s))).bind fun r20 =>
match r20.1 with
| .normal => j1 C L n0 ((r20.2.1.getD 0 unk)) ((r20.2.1.getD 1 unk)) ((r20.2.1.getD 2 unk)) ((r20.2.1.getD 3 unk)) r20.2.2
| .exit i => if i = 1 then some (AEx.normal, [(r20.2.1.getD 0 unk), (r20.2.1.getD 1 unk), unk, (r20.2.1.getD 2 unk)], r20.2.2) else some (AEx.exit i, [(r20.2.1.getD 0 unk), (r20.2.1.getD 1 unk), unk, (r20.2.1.getD 2 unk)], r20.2.2)
| .ret => some (AEx.ret, [(r20.2.1.getD 0 unk), (r20.2.1.getD 1 unk), unk, (r20.2.1.getD 2 unk)], r20.2.2)).bind fun r21 =>
match r21.1 with
| .normal => j2 C L n0 ((r21.2.1.getD 0 unk)) ((r21.2.1.getD 1 unk)) ((r21.2.1.getD 3 unk)) r21.2.2
| .exit i => some (.inr (.exit i, [(r21.2.1.getD 2 unk)], r21.2.2))
| .ret => some (.inr (.ret, [(r21.2.1.getD 2 unk)], r21.2.2))) (
some (.inr (.exit 0, [unk], s)))
noncomputable def loop2s (C : Am.Callee) (L : Loops) (n0 : Nat) : List Value × AS → Option ((List Value × AS) ⊕ (AEx × List Value × AS)) := fun s => loop2 C L n0 (s.1.getD 0 unk) (s.1.getD 1 unk) (s.1.getD 2 unk) s.2
noncomputable def j4 (C : Am.Callee) (L : Loops) (n0 : Nat) (s : AS) : Option (Value × List Blk × Option Nat) :=
fin PP false n0 [.int .i64 (-1)] s
noncomputable def sh (C : Am.Callee) (L : Loops) (n0 : Nat) (t0 t1 : Value) (s : AS) : Option (Value × List Blk × Option Nat) :=
((L n0 (loop2s C L n0) ([t0, t1, .int .i64 0], s)).bind fun r23 =>
match r23.1 with
| .normal => some (AEx.normal, [(r23.2.1.getD 0 unk)], r23.2.2)
| .exit i => if i = 0 then some (AEx.normal, [(r23.2.1.getD 0 unk)], r23.2.2) else some (AEx.exit i, [(r23.2.1.getD 0 unk)], r23.2.2)
| .ret => some (AEx.ret, [(r23.2.1.getD 0 unk)], r23.2.2)).bind fun r24 =>
match r24.1 with
| .normal => j4 C L n0  r24.2.2
| .exit i => none
| .ret => fin PP false n0 [(r24.2.1.getD 0 unk)] r24.2.2
def T : Tab := ⟨fun i => if i = 2 then some [0, 1, 5] else none, fun i => if i = 2 then some [4] else none, false, fun i => if i = 3 then some [0, 1, 4, 5] else if i = 5 then some [0, 1, 5, 42] else if i = 6 then some [4] else none, fun _ => false, false, false, fun _ => false, 46, false⟩
end twainref36_asked
end Go.Proofs.Ytpklhjeccbjalaa
