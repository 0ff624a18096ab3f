/- A part of the proof: ItShD. Its conditions: none. -/
import Derived.Test.YtgpfiiebfhdjhaaAm13c
import Derived.Test.YtgpfiiebfhdjhaaChecked
set_option linter.all false
set_option linter.unusedVariables false
set_option linter.unusedSimpArgs false
set_option linter.unnecessarySimpa false
namespace Go.Proofs.Ytgpfiiebfhdjhaa
open Go Go.Am
set_option linter.unusedVariables false
noncomputable abbrev PP : Program := Try.prog
abbrev n_main_main : FuncId := 0
abbrev n_gosem_cut : FuncId := 1
abbrev n_gosem_cut_init : FuncId := 2
abbrev n_twainlaw14_ItreeHeight : FuncId := 3
abbrev n_twainlaw14_ItreeFinds : FuncId := 4
abbrev n_twainlaw14_ItreeActs : FuncId := 5
abbrev n_twainlaw14_ItreeNone : FuncId := 6
abbrev n_twainlaw14_lives : FuncId := 7
abbrev n_itree_New : FuncId := 8
abbrev n_P_itree_Tree_Insert : FuncId := 9
abbrev n_P_itree_Tree_Height : FuncId := 10
abbrev n_twainlaw14_bits : FuncId := 11
abbrev n_P_itree_Tree_Len : FuncId := 12
abbrev n_P_itree_Tree_Delete : FuncId := 13
abbrev n_twainlaw14_has : FuncId := 14
abbrev n_P_itree_Tree_Overlaps : FuncId := 15
abbrev n_P_itree_Tree_Any : FuncId := 16
abbrev n_P_twainref14_Tree_Delete : FuncId := 17
abbrev n_P_twainref14_Tree_Insert : FuncId := 18
abbrev n_P_twainref14_Tree_Overlaps : FuncId := 19
abbrev n_twainref01_Ints : FuncId := 20
abbrev n_P_itree_Tree_Ids : FuncId := 21
abbrev n_P_twainref14_Tree_Ids : FuncId := 22
abbrev n_P_itree_Tree_is : FuncId := 23
abbrev n_span_Plain : FuncId := 24
abbrev n_P_itree_Tree_has : FuncId := 25
abbrev n_itree_add : FuncId := 26
abbrev n_itree_height : FuncId := 27
abbrev n_itree_isRed : FuncId := 28
abbrev n_itree_cut : FuncId := 29
abbrev n_itree_walk : FuncId := 30
abbrev n_P_itree_Tree_Overlaps_1 : FuncId := 31
abbrev n_P_itree_Tree_Any_1 : FuncId := 32
abbrev n_P_twainref14_Tree_place : FuncId := 33
abbrev n_twainref04_Plain : FuncId := 34
abbrev n_twainref04_Overlap : FuncId := 35
abbrev n_itree_ids : FuncId := 36
abbrev n_span_within : FuncId := 37
abbrev n_itree_compare : FuncId := 38
abbrev n_P_itree_node_mend : FuncId := 39
abbrev n_itree_settle : FuncId := 40
abbrev n_itree_redLeft : FuncId := 41
abbrev n_itree_turn : FuncId := 42
abbrev n_itree_redRight : FuncId := 43
abbrev n_itree_first : FuncId := 44
abbrev n_itree_behead : FuncId := 45
abbrev n_span_End : FuncId := 46
abbrev n_span_Overlap : FuncId := 47
abbrev n_twainref14_less : FuncId := 48
abbrev n_twainref04_Meet : FuncId := 49
abbrev n_cmp_Or_int : FuncId := 50
abbrev n_cmp_Compare_int : FuncId := 51
abbrev n_itree_reach : FuncId := 52
abbrev n_itree_flip : FuncId := 53
abbrev n_span_Meet : FuncId := 54
abbrev n_cmp_isNaN_int : FuncId := 55
abbrev n_span_side_from : FuncId := 56
abbrev n_span_side_to : FuncId := 57
abbrev n_runtime_boundsError_Error : FuncId := 58
abbrev n_runtime_boundsError_RuntimeError : FuncId := 59
abbrev n_runtime_errorString_Error : FuncId := 60
abbrev n_runtime_errorString_RuntimeError : FuncId := 61
abbrev n_runtime_plainError_Error : FuncId := 62
abbrev n_runtime_plainError_RuntimeError : FuncId := 63
abbrev n_runtime_errorAddressString_Error : FuncId := 64
abbrev n_runtime_errorAddressString_RuntimeError : FuncId := 65
abbrev n_P_runtime_TypeAssertionError_Error : FuncId := 66
abbrev n_P_runtime_TypeAssertionError_RuntimeError : FuncId := 67
abbrev n_P_runtime_PanicNilError_Error : FuncId := 68
abbrev n_P_runtime_PanicNilError_RuntimeError : FuncId := 69
abbrev n_P_internal_abi_Type_Align : FuncId := 70
abbrev n_internal_runtime_maps_unhashableTypeE_d411d0 : FuncId := 71
abbrev n_internal_runtime_maps_unhashableTypeE_88efe4 : FuncId := 72
abbrev n_internal_abi_Kind_String : FuncId := 73
abbrev t_unit : TypeId := 0
abbrev t_F023062 : TypeId := 1
abbrev t_int64 : TypeId := 2
abbrev t_int : TypeId := 3
abbrev t_bool : TypeId := 4
abbrev t_uint8 : TypeId := 5
abbrev t_abi_BoundsErrorCode : TypeId := 6
abbrev t_S81e5bf : TypeId := 7
abbrev t_runtime_boundsError : TypeId := 8
abbrev t_string : TypeId := 9
abbrev t_runtime_errorString : TypeId := 10
abbrev t_runtime_plainError : TypeId := 11
abbrev t_uintptr : TypeId := 12
abbrev t_S9bc4a9 : TypeId := 13
abbrev t_runtime_errorAddressString : TypeId := 14
abbrev t_P_runtime_TypeAssertionError : TypeId := 15
abbrev t_P_runtime_PanicNilError : TypeId := 16
abbrev t_P_abi_Type : TypeId := 17
abbrev t_S6875f2 : TypeId := 18
abbrev t_maps_unhashableTypeError : TypeId := 19
abbrev t_interface : TypeId := 20
abbrev t_int32 : TypeId := 21
abbrev t_L_twainlaw14_Act : TypeId := 22
abbrev t_Fa86e39 : TypeId := 23
abbrev t_P_itree_Tree : TypeId := 24
abbrev t_F584795 : TypeId := 25
abbrev t_F2d9935 : TypeId := 26
abbrev t_S6c464c : TypeId := 27
abbrev t_api_Span : TypeId := 28
abbrev t_F92c41c : TypeId := 29
abbrev t_F200dff : TypeId := 30
abbrev t_Sa667f6 : TypeId := 31
abbrev t_twainlaw14_Act : TypeId := 32
abbrev t_F182ed4 : TypeId := 33
abbrev t_S49afe7 : TypeId := 34
abbrev t_twainlaw14_One : TypeId := 35
abbrev t_Fb8aae0 : TypeId := 36
abbrev t_L_int : TypeId := 37
abbrev t_Fc76c53 : TypeId := 38
abbrev t_F42507d : TypeId := 39
abbrev t_F4dd11c : TypeId := 40
abbrev t_P_twainref14_Tree : TypeId := 41
abbrev t_L_twainref14_Item : TypeId := 42
abbrev t_S04f776 : TypeId := 43
abbrev t_twainref14_Tree : TypeId := 44
abbrev t_F081862 : TypeId := 45
abbrev t_F661609 : TypeId := 46
abbrev t_F7a7b82 : TypeId := 47
abbrev t_P_itree_node : TypeId := 48
abbrev t_S523343 : TypeId := 49
abbrev t_itree_Tree : TypeId := 50
abbrev t_L_P_itree_Tree : TypeId := 51
abbrev t_F4b4512 : TypeId := 52
abbrev t_S09a407 : TypeId := 53
abbrev t_itree_entry : TypeId := 54
abbrev t_F519187 : TypeId := 55
abbrev t_F39e038 : TypeId := 56
abbrev t_A2_P_itree_node : TypeId := 57
abbrev t_Sac96b0 : TypeId := 58
abbrev t_itree_node : TypeId := 59
abbrev t_F6713fc : TypeId := 60
abbrev t_F1e6507 : TypeId := 61
abbrev t_Fad9908 : TypeId := 62
abbrev t_F403d54 : TypeId := 63
abbrev t_S16543a : TypeId := 64
abbrev t_twainref14_Item : TypeId := 65
abbrev t_F34be14 : TypeId := 66
abbrev t_Fac7918 : TypeId := 67
abbrev t_F6e6ca2 : TypeId := 68
abbrev t_F8b1eed : TypeId := 69
abbrev t_F6f8c08 : TypeId := 70
abbrev t_F732369 : TypeId := 71
abbrev t_Fd916bd : TypeId := 72
abbrev t_F3f7f15 : TypeId := 73
abbrev t_Fe13d9c : TypeId := 74
abbrev t_api_Span_bool : TypeId := 75
abbrev t_Fa95473 : TypeId := 76
abbrev t_F5bd11e : TypeId := 77
abbrev t_F6a43c0 : TypeId := 78
abbrev t_F299e74 : TypeId := 79
abbrev t_S018a90 : TypeId := 80
abbrev t_span_side : TypeId := 81
abbrev t_F6c6759 : TypeId := 82
abbrev t_S6911b8 : TypeId := 83
abbrev t_runtime_TypeAssertionError : TypeId := 84
abbrev t_A0_P_runtime_PanicNilError : TypeId := 85
abbrev t_S674f3b : TypeId := 86
abbrev t_runtime_PanicNilError : TypeId := 87
abbrev t_uint32 : TypeId := 88
abbrev t_abi_TFlag : TypeId := 89
abbrev t_abi_Kind : TypeId := 90
abbrev t_F0a8967 : TypeId := 91
abbrev t_P_uint8 : TypeId := 92
abbrev t_abi_NameOff : TypeId := 93
abbrev t_abi_TypeOff : TypeId := 94
abbrev t_Scd6355 : TypeId := 95
abbrev t_abi_Type : TypeId := 96
abbrev t_unsafe_Pointer : TypeId := 97
namespace twainlaw14_ItreeHeight
noncomputable def j0 (C : Am.Callee) (L : Loops) (n0 : Nat) (t0 t1 t2 t30 : Value) (s : AS) : Option (AEx × List Value × AS) :=
bcase t30 (
(C n_twainlaw14_lives [] s.H).bind fun r8 =>
some (AEx.ret, [t0, t1, t2, r8.1], AS.mk r8.2.1 (joinEsc s.esc r8.2.2))) (
some (AEx.normal, [t0, t1, t2, unk], s))
noncomputable def loop5 (C : Am.Callee) (L : Loops) (n0 : Nat) (t0 t1 t2 t7 t8 : Value) (s : AS) : Option ((List Value × AS) ⊕ (AEx × List Value × AS)) :=
(aBin PP .lss t_int (.tmp 33) (.tmp 34) t8 t1).bind fun x11 =>
bcase x11 (
(aBin PP .mul t_int (.tmp 39) (.tmp 40) t8 t2).bind fun x12 =>
(aBin PP .add t_int (.const (.int .i64 300000)) (.tmp 41) (.int .i64 300000) x12).bind fun x13 =>
(aBin PP .rem t_int (.tmp 43) (.const (.int .i64 7)) t8 (.int .i64 7)).bind fun x14 =>
(aBin PP .add t_int (.const (.int .i64 1)) (.tmp 44) (.int .i64 1) x14).bind fun x15 =>
(aBuild PP t_api_Span [(0, x13), (1, x15)]).bind fun x16 =>
(C n_P_itree_Tree_Insert [t7, x16, t8] s.H).bind fun r17 =>
(C n_P_itree_Tree_Height [t7] (AS.mk r17.2.1 (joinEsc s.esc r17.2.2)).H).bind fun r18 =>
(C n_P_itree_Tree_Len [t7] (AS.mk r18.2.1 (joinEsc (AS.mk r17.2.1 (joinEsc s.esc r17.2.2)).esc r18.2.2)).H).bind fun r19 =>
(aBin PP .add t_int (.tmp 52) (.const (.int .i64 1)) r19.1 (.int .i64 1)).bind fun x20 =>
(C n_twainlaw14_bits [x20] (AS.mk r19.2.1 (joinEsc (AS.mk r18.2.1 (joinEsc (AS.mk r17.2.1 (joinEsc s.esc r17.2.2)).esc r18.2.2)).esc r19.2.2)).H).bind fun r21 =>
(aBin PP .mul t_int (.const (.int .i64 2)) (.tmp 54) (.int .i64 2) r21.1).bind fun x22 =>
(aBin PP .gtr t_int (.tmp 50) (.tmp 55) r18.1 x22).bind fun x23 =>
bcase x23 (
some (.inr (.ret, [t0, t1, t2, .bool false, t7], AS.mk r21.2.1 (joinEsc (AS.mk r19.2.1 (joinEsc (AS.mk r18.2.1 (joinEsc (AS.mk r17.2.1 (joinEsc s.esc r17.2.2)).esc r18.2.2)).esc r19.2.2)).esc r21.2.2)))) (
(aBin PP .add t_int (.tmp 36) (.const (.int .i64 1)) t8 (.int .i64 1)).bind fun x24 =>
some (.inl ([t0, t1, t2, t7, x24], AS.mk r21.2.1 (joinEsc (AS.mk r19.2.1 (joinEsc (AS.mk r18.2.1 (joinEsc (AS.mk r17.2.1 (joinEsc s.esc r17.2.2)).esc r18.2.2)).esc r19.2.2)).esc r21.2.2))))) (
some (.inr (.exit 0, [t0, t1, t2, unk, t7], s)))
noncomputable def loop5s (C : Am.Callee) (L : Loops) (n0 : Nat) : List Value × AS → Option ((List Value × AS) ⊕ (AEx × List Value × AS)) := fun s => loop5 C L n0 (s.1.getD 0 unk) (s.1.getD 1 unk) (s.1.getD 2 unk) (s.1.getD 3 unk) (s.1.getD 4 unk) s.2
noncomputable def j6 (C : Am.Callee) (L : Loops) (n0 : Nat) (t1 t2 t7 t57 t58 t59 : Value) (s : AS) : Option (AEx × List Value × AS) :=
(C n_P_itree_Tree_Height [t7] s.H).bind fun r46 =>
(C n_P_itree_Tree_Len [t7] (AS.mk r46.2.1 (joinEsc s.esc r46.2.2)).H).bind fun r47 =>
(aBin PP .add t_int (.tmp 80) (.const (.int .i64 1)) r47.1 (.int .i64 1)).bind fun x48 =>
(C n_twainlaw14_bits [x48] (AS.mk r47.2.1 (joinEsc (AS.mk r46.2.1 (joinEsc s.esc r46.2.2)).esc r47.2.2)).H).bind fun r49 =>
(aBin PP .mul t_int (.const (.int .i64 2)) (.tmp 82) (.int .i64 2) r49.1).bind fun x50 =>
(aBin PP .gtr t_int (.tmp 78) (.tmp 83) r46.1 x50).bind fun x51 =>
bcase x51 (
some (AEx.ret, [t1, t2, .bool false, t7, t57, t58, t59], AS.mk r49.2.1 (joinEsc (AS.mk r47.2.1 (joinEsc (AS.mk r46.2.1 (joinEsc s.esc r46.2.2)).esc r47.2.2)).esc r49.2.2))) (
some (AEx.normal, [t1, t2, unk, t7, t57, t58, t59], AS.mk r49.2.1 (joinEsc (AS.mk r47.2.1 (joinEsc (AS.mk r46.2.1 (joinEsc s.esc r46.2.2)).esc r47.2.2)).esc r49.2.2)))
noncomputable def j7 (C : Am.Callee) (L : Loops) (n0 : Nat) (t1 t2 t7 t57 t58 t59 : Value) (s : AS) : Option ((List Value × AS) ⊕ (AEx × List Value × AS)) :=
(aBin PP .add t_int (.tmp 59) (.const (.int .i64 1)) t59 (.int .i64 1)).bind fun x53 =>
some (.inl ([t1, t2, t7, t57, t58, x53], s))
noncomputable def loop11 (C : Am.Callee) (L : Loops) (n0 : Nat) (t1 t2 t7 t57 t58 t59 : Value) (s : AS) : Option ((List Value × AS) ⊕ (AEx × List Value × AS)) :=
(aBin PP .lss t_int (.tmp 59) (.tmp 58) t59 t58).bind fun x28 =>
bcase x28 (
((aIndexAddr PP t_L_twainlaw14_Act t57 t59).bind fun x29 =>
(aLoad true 4 s x29).bind fun x30 =>
(aBox t_twainlaw14_Act ((zeroP PP t_twainlaw14_Act).getD unk) s).bind fun r31 =>
(aStore 4 r31.2 r31.1 x30).bind fun s32 =>
((aFieldAddr PP t_twainlaw14_Act r31.1 0).bind fun x33 =>
(aLoad false 1 s32 x33).bind fun x34 =>
bcase x34 (
(aFieldAddr PP t_twainlaw14_Act r31.1 1).bind fun x35 =>
(aLoad true 2 s32 x35).bind fun x36 =>
(aFieldAddr PP t_twainlaw14_Act r31.1 2).bind fun x37 =>
(aLoad false 1 s32 x37).bind fun x38 =>
(C n_P_itree_Tree_Delete [t7, x36, x38] s32.H).bind fun r39 =>
some (AEx.normal, [t1, t2, t7, t57, t58, t59], AS.mk r39.2.1 (joinEsc s32.esc r39.2.2))) (
(aFieldAddr PP t_twainlaw14_Act r31.1 1).bind fun x40 =>
(aLoad true 2 s32 x40).bind fun x41 =>
(aFieldAddr PP t_twainlaw14_Act r31.1 2).bind fun x42 =>
(aLoad false 1 s32 x42).bind fun x43 =>
(C n_P_itree_Tree_Insert [t7, x41, x43] s32.H).bind fun r44 =>
some (AEx.normal, [t1, t2, t7, t57, t58, t59], AS.mk r44.2.1 (joinEsc s32.esc r44.2.2)))).bind fun r45 =>
match r45.1 with
| .normal => j6 C L n0 ((r45.2.1.getD 0 unk)) ((r45.2.1.getD 1 unk)) ((r45.2.1.getD 2 unk)) ((r45.2.1.getD 3 unk)) ((r45.2.1.getD 4 unk)) ((r45.2.1.getD 5 unk)) r45.2.2
| .exit i => if i = 3 then some (AEx.normal, [(r45.2.1.getD 0 unk), (r45.2.1.getD 1 unk), unk, (r45.2.1.getD 2 unk), (r45.2.1.getD 3 unk), (r45.2.1.getD 4 unk), (r45.2.1.getD 5 unk)], r45.2.2) else some (AEx.exit i, [(r45.2.1.getD 0 unk), (r45.2.1.getD 1 unk), unk, (r45.2.1.getD 2 unk), (r45.2.1.getD 3 unk), (r45.2.1.getD 4 unk), (r45.2.1.getD 5 unk)], r45.2.2)
| .ret => some (AEx.ret, [(r45.2.1.getD 0 unk), (r45.2.1.getD 1 unk), unk, (r45.2.1.getD 2 unk), (r45.2.1.getD 3 unk), (r45.2.1.getD 4 unk), (r45.2.1.getD 5 unk)], r45.2.2)).bind fun r52 =>
match r52.1 with
| .normal => j7 C L n0 ((r52.2.1.getD 0 unk)) ((r52.2.1.getD 1 unk)) ((r52.2.1.getD 3 unk)) ((r52.2.1.getD 4 unk)) ((r52.2.1.getD 5 unk)) ((r52.2.1.getD 6 unk)) r52.2.2
| .exit i => some (.inr (.exit i, [(r52.2.1.getD 0 unk), (r52.2.1.getD 1 unk), (r52.2.1.getD 2 unk), (r52.2.1.getD 3 unk)], r52.2.2))
| .ret => some (.inr (.ret, [(r52.2.1.getD 0 unk), (r52.2.1.getD 1 unk), (r52.2.1.getD 2 unk), (r52.2.1.getD 3 unk)], r52.2.2))) (
some (.inr (.exit 2, [t1, t2, unk, t7], s)))
noncomputable def loop11s (C : Am.Callee) (L : Loops) (n0 : Nat) : List Value × AS → Option ((List Value × AS) ⊕ (AEx × List Value × AS)) := fun s => loop11 C L n0 (s.1.getD 0 unk) (s.1.getD 1 unk) (s.1.getD 2 unk) (s.1.getD 3 unk) (s.1.getD 4 unk) (s.1.getD 5 unk) s.2
noncomputable def loop20 (C : Am.Callee) (L : Loops) (n0 : Nat) (t1 t2 t7 t11 : Value) (s : AS) : Option ((List Value × AS) ⊕ (AEx × List Value × AS)) :=
(aBin PP .lss t_int (.tmp 86) (.tmp 87) t11 t1).bind fun x56 =>
bcase x56 (
(aBin PP .mul t_int (.tmp 92) (.tmp 93) t11 t2).bind fun x57 =>
(aBin PP .add t_int (.const (.int .i64 300000)) (.tmp 94) (.int .i64 300000) x57).bind fun x58 =>
(aBin PP .rem t_int (.tmp 96) (.const (.int .i64 7)) t11 (.int .i64 7)).bind fun x59 =>
(aBin PP .add t_int (.const (.int .i64 1)) (.tmp 97) (.int .i64 1) x59).bind fun x60 =>
(aBuild PP t_api_Span [(0, x58), (1, x60)]).bind fun x61 =>
(C n_P_itree_Tree_Delete [t7, x61, t11] s.H).bind fun r62 =>
(C n_P_itree_Tree_Height [t7] (AS.mk r62.2.1 (joinEsc s.esc r62.2.2)).H).bind fun r63 =>
(C n_P_itree_Tree_Len [t7] (AS.mk r63.2.1 (joinEsc (AS.mk r62.2.1 (joinEsc s.esc r62.2.2)).esc r63.2.2)).H).bind fun r64 =>
(aBin PP .add t_int (.tmp 105) (.const (.int .i64 1)) r64.1 (.int .i64 1)).bind fun x65 =>
(C n_twainlaw14_bits [x65] (AS.mk r64.2.1 (joinEsc (AS.mk r63.2.1 (joinEsc (AS.mk r62.2.1 (joinEsc s.esc r62.2.2)).esc r63.2.2)).esc r64.2.2)).H).bind fun r66 =>
(aBin PP .mul t_int (.const (.int .i64 2)) (.tmp 107) (.int .i64 2) r66.1).bind fun x67 =>
(aBin PP .gtr t_int (.tmp 103) (.tmp 108) r63.1 x67).bind fun x68 =>
bcase x68 (
some (.inr (.ret, [.bool false], AS.mk r66.2.1 (joinEsc (AS.mk r64.2.1 (joinEsc (AS.mk r63.2.1 (joinEsc (AS.mk r62.2.1 (joinEsc s.esc r62.2.2)).esc r63.2.2)).esc r64.2.2)).esc r66.2.2)))) (
(aBin PP .add t_int (.tmp 89) (.const (.int .i64 2)) t11 (.int .i64 2)).bind fun x69 =>
some (.inl ([t1, t2, t7, x69], AS.mk r66.2.1 (joinEsc (AS.mk r64.2.1 (joinEsc (AS.mk r63.2.1 (joinEsc (AS.mk r62.2.1 (joinEsc s.esc r62.2.2)).esc r63.2.2)).esc r64.2.2)).esc r66.2.2))))) (
some (.inr (.exit 4, [unk], s)))
noncomputable def loop20s (C : Am.Callee) (L : Loops) (n0 : Nat) : List Value × AS → Option ((List Value × AS) ⊕ (AEx × List Value × AS)) := fun s => loop20 C L n0 (s.1.getD 0 unk) (s.1.getD 1 unk) (s.1.getD 2 unk) (s.1.getD 3 unk) s.2
noncomputable def j12 (C : Am.Callee) (L : Loops) (n0 : Nat) (s : AS) : Option (Value × List Blk × Option Nat) :=
(C n_twainlaw14_lives [] s.H).bind fun r72 =>
fin PP false n0 [r72.1] (AS.mk r72.2.1 (joinEsc s.esc r72.2.2))
noncomputable def j9 (C : Am.Callee) (L : Loops) (n0 : Nat) (t1 t2 t7 : Value) (s : AS) : Option (Value × List Blk × Option Nat) :=
((L n0 (loop20s C L n0) ([t1, t2, t7, .int .i64 0], s)).bind fun r70 =>
match r70.1 with
| .normal => some (AEx.normal, [(r70.2.1.getD 0 unk)], r70.2.2)
| .exit i => if i = 4 then some (AEx.normal, [(r70.2.1.getD 0 unk)], r70.2.2) else some (AEx.exit i, [(r70.2.1.getD 0 unk)], r70.2.2)
| .ret => some (AEx.ret, [(r70.2.1.getD 0 unk)], r70.2.2)).bind fun r71 =>
match r71.1 with
| .normal => j12 C L n0  r71.2.2
| .exit i => none
| .ret => fin PP false n0 [(r71.2.1.getD 0 unk)] r71.2.2
noncomputable def j4 (C : Am.Callee) (L : Loops) (n0 : Nat) (t0 t1 t2 t7 : Value) (s : AS) : Option (Value × List Blk × Option Nat) :=
((aLen PP t_L_twainlaw14_Act t0 s).bind fun x27 =>
(L n0 (loop11s C L n0) ([t1, t2, t7, t0, x27, .int .i64 0], s)).bind fun r54 =>
match r54.1 with
| .normal => some (AEx.normal, [(r54.2.1.getD 0 unk), (r54.2.1.getD 1 unk), (r54.2.1.getD 2 unk), (r54.2.1.getD 3 unk)], r54.2.2)
| .exit i => if i = 2 then some (AEx.normal, [(r54.2.1.getD 0 unk), (r54.2.1.getD 1 unk), (r54.2.1.getD 2 unk), (r54.2.1.getD 3 unk)], r54.2.2) else some (AEx.exit i, [(r54.2.1.getD 0 unk), (r54.2.1.getD 1 unk), (r54.2.1.getD 2 unk), (r54.2.1.getD 3 unk)], r54.2.2)
| .ret => some (AEx.ret, [(r54.2.1.getD 0 unk), (r54.2.1.getD 1 unk), (r54.2.1.getD 2 unk), (r54.2.1.getD 3 unk)], r54.2.2)).bind fun r55 =>
match r55.1 with
| .normal => j9 C L n0 ((r55.2.1.getD 0 unk)) ((r55.2.1.getD 1 unk)) ((r55.2.1.getD 3 unk)) r55.2.2
| .exit i => none
| .ret => fin PP false n0 [(r55.2.1.getD 2 unk)] r55.2.2
noncomputable def j1 (C : Am.Callee) (L : Loops) (n0 : Nat) (t0 t1 t2 : Value) (s : AS) : Option (Value × List Blk × Option Nat) :=
(C n_itree_New [] s.H).bind fun r10 =>
((L n0 (loop5s C L n0) ([t0, t1, t2, r10.1, .int .i64 0], AS.mk r10.2.1 (joinEsc s.esc r10.2.2))).bind fun r25 =>
match r25.1 with
| .normal => some (AEx.normal, [(r25.2.1.getD 0 unk), (r25.2.1.getD 1 unk), (r25.2.1.getD 2 unk), (r25.2.1.getD 3 unk), (r25.2.1.getD 4 unk)], r25.2.2)
| .exit i => if i = 0 then some (AEx.normal, [(r25.2.1.getD 0 unk), (r25.2.1.getD 1 unk), (r25.2.1.getD 2 unk), (r25.2.1.getD 3 unk), (r25.2.1.getD 4 unk)], r25.2.2) else some (AEx.exit i, [(r25.2.1.getD 0 unk), (r25.2.1.getD 1 unk), (r25.2.1.getD 2 unk), (r25.2.1.getD 3 unk), (r25.2.1.getD 4 unk)], r25.2.2)
| .ret => some (AEx.ret, [(r25.2.1.getD 0 unk), (r25.2.1.getD 1 unk), (r25.2.1.getD 2 unk), (r25.2.1.getD 3 unk), (r25.2.1.getD 4 unk)], r25.2.2)).bind fun r26 =>
match r26.1 with
| .normal => j4 C L n0 ((r26.2.1.getD 0 unk)) ((r26.2.1.getD 1 unk)) ((r26.2.1.getD 2 unk)) ((r26.2.1.getD 4 unk)) r26.2.2
| .exit i => none
| .ret => fin PP false n0 [(r26.2.1.getD 3 unk)] r26.2.2
noncomputable def sh (C : Am.Callee) (L : Loops) (n0 : Nat) (t0 t1 t2 : Value) (s : AS) : Option (Value × List Blk × Option Nat) :=
(((aLen PP t_L_twainlaw14_Act t0 s).bind fun x1 =>
(aBin PP .gtr t_int (.tmp 13) (.const (.int .i64 150)) x1 (.int .i64 150)).bind fun x2 =>
bcase x2 (
some (AEx.normal, [t0, t1, t2, .bool true], s)) (
(aBin PP .lss t_int (.tmp 16) (.const (.int .i64 0)) t1 (.int .i64 0)).bind fun x3 =>
bcase x3 (
some (AEx.normal, [t0, t1, t2, .bool true], s)) (
(aBin PP .gtr t_int (.tmp 20) (.const (.int .i64 300)) t1 (.int .i64 300)).bind fun x4 =>
bcase x4 (
some (AEx.normal, [t0, t1, t2, .bool true], s)) (
(aBin PP .lss t_int (.tmp 24) (.const (.int .i64 (-1000))) t2 (.int .i64 (-1000))).bind fun x5 =>
bcase x5 (
some (AEx.normal, [t0, t1, t2, .bool true], s)) (
(aBin PP .gtr t_int (.tmp 28) (.const (.int .i64 1000)) t2 (.int .i64 1000)).bind fun x6 =>
some (AEx.normal, [t0, t1, t2, x6], s)))))).bind fun r7 =>
match r7.1 with
| .normal => j0 C L n0 ((r7.2.1.getD 0 unk)) ((r7.2.1.getD 1 unk)) ((r7.2.1.getD 2 unk)) ((r7.2.1.getD 3 unk)) r7.2.2
| .exit i => some (AEx.exit i, [(r7.2.1.getD 0 unk), (r7.2.1.getD 1 unk), (r7.2.1.getD 2 unk), unk], r7.2.2)
| .ret => some (AEx.ret, [(r7.2.1.getD 0 unk), (r7.2.1.getD 1 unk), (r7.2.1.getD 2 unk), unk], r7.2.2)).bind fun r9 =>
match r9.1 with
| .normal => j1 C L n0 ((r9.2.1.getD 0 unk)) ((r9.2.1.getD 1 unk)) ((r9.2.1.getD 2 unk)) r9.2.2
| .exit i => none
| .ret => fin PP false n0 [(r9.2.1.getD 3 unk)] r9.2.2
def T : Tab := ⟨fun i => if i = 5 then some [0, 1, 2, 7, 8] else if i = 11 then some [1, 2, 7, 57, 58, 59] else if i = 20 then some [1, 2, 7, 11] else none, fun i => if i = 5 then some [0, 1, 2, 6, 7] else if i = 11 then some [1, 2, 6, 7] else if i = 20 then some [6] else none, false, fun i => if i = 2 then some [0, 1, 2, 30] else if i = 3 then some [0, 1, 2, 6] else if i = 10 then some [0, 1, 2, 6, 7] else if i = 16 then some [1, 2, 7, 57, 58, 59] else if i = 18 then some [1, 2, 6, 7, 57, 58, 59] else if i = 19 then some [1, 2, 6, 7] else if i = 25 then some [6] else none, fun _ => false, false, false, fun _ => false⟩
end twainlaw14_ItreeHeight
namespace twainlaw14_ItreeFinds
noncomputable def loop6 (C : Am.Callee) (L : Loops) (n0 : Nat) (t5 t6 t7 t8 t24 t25 t26 : Value) (s : AS) : Option ((List Value × AS) ⊕ (AEx × List Value × AS)) :=
(aBin PP .lss t_int (.tmp 26) (.tmp 25) t26 t25).bind fun x15 =>
bcase x15 (
(aIndexAddr PP t_L_twainlaw14_Act t24 t26).bind fun x16 =>
(aLoad true 4 s x16).bind fun x17 =>
(aBox t_twainlaw14_Act ((zeroP PP t_twainlaw14_Act).getD unk) s).bind fun r18 =>
(aStore 4 r18.2 r18.1 x17).bind fun s19 =>
(aFieldAddr PP t_twainlaw14_Act r18.1 1).bind fun x20 =>
(aLoad true 2 s19 x20).bind fun x21 =>
(aFieldAddr PP t_twainlaw14_Act r18.1 2).bind fun x22 =>
(aLoad false 1 s19 x22).bind fun x23 =>
(C n_P_itree_Tree_Insert [t8, x21, x23] s19.H).bind fun r24 =>
(aBin PP .add t_int (.tmp 26) (.const (.int .i64 1)) t26 (.int .i64 1)).bind fun x25 =>
some (.inl ([t5, t6, t7, t8, t24, t25, x25], AS.mk r24.2.1 (joinEsc s19.esc r24.2.2)))) (
some (.inr (.exit 0, [t5, t6, t7, t8], s)))
noncomputable def loop6s (C : Am.Callee) (L : Loops) (n0 : Nat) : List Value × AS → Option ((List Value × AS) ⊕ (AEx × List Value × AS)) := fun s => loop6 C L n0 (s.1.getD 0 unk) (s.1.getD 1 unk) (s.1.getD 2 unk) (s.1.getD 3 unk) (s.1.getD 4 unk) (s.1.getD 5 unk) (s.1.getD 6 unk) s.2
noncomputable def j4 (C : Am.Callee) (L : Loops) (n0 : Nat) (t5 t7 t8 t88 : Value) (s : AS) : Option (AEx × List Value × AS) :=
bcase t88 (
some (AEx.ret, [.bool false, t5, t7, t8], s)) (
some (AEx.normal, [unk, t5, t7, t8], s))
noncomputable def j6 (C : Am.Callee) (L : Loops) (n0 : Nat) (t5 t7 t8 t119 : Value) (s : AS) : Option (AEx × List Value × AS) :=
bcase t119 (
some (AEx.ret, [.bool false, t5, t7, t8], s)) (
some (AEx.normal, [unk, t5, t7, t8], s))
noncomputable def j7 (C : Am.Callee) (L : Loops) (n0 : Nat) (t5 t7 t8 : Value) (s : AS) : Option (Value × List Blk × Option Nat) :=
(C n_P_itree_Tree_Len [t8] s.H).bind fun r78 =>
(aLoad true 2 (AS.mk r78.2.1 (joinEsc s.esc r78.2.2)) t5).bind fun x79 =>
(C n_P_itree_Tree_Insert [t8, x79, t7] (AS.mk r78.2.1 (joinEsc s.esc r78.2.2)).H).bind fun r80 =>
bcase r80.1 (
(C n_P_itree_Tree_Len [t8] (AS.mk r80.2.1 (joinEsc (AS.mk r78.2.1 (joinEsc s.esc r78.2.2)).esc r80.2.2)).H).bind fun r81 =>
(aBin PP .sub t_int (.tmp 128) (.tmp 129) r81.1 r78.1).bind fun x82 =>
(aBin PP .eql t_int (.tmp 130) (.const (.int .i64 1)) x82 (.int .i64 1)).bind fun x83 =>
bcase x83 (
(C n_twainlaw14_lives [] (AS.mk r81.2.1 (joinEsc (AS.mk r80.2.1 (joinEsc (AS.mk r78.2.1 (joinEsc s.esc r78.2.2)).esc r80.2.2)).esc r81.2.2)).H).bind fun r84 =>
fin PP false n0 [r84.1] (AS.mk r84.2.1 (joinEsc (AS.mk r81.2.1 (joinEsc (AS.mk r80.2.1 (joinEsc (AS.mk r78.2.1 (joinEsc s.esc r78.2.2)).esc r80.2.2)).esc r81.2.2)).esc r84.2.2))) (
fin PP false n0 [.bool false] (AS.mk r81.2.1 (joinEsc (AS.mk r80.2.1 (joinEsc (AS.mk r78.2.1 (joinEsc s.esc r78.2.2)).esc r80.2.2)).esc r81.2.2)))) (
fin PP false n0 [.bool false] (AS.mk r80.2.1 (joinEsc (AS.mk r78.2.1 (joinEsc s.esc r78.2.2)).esc r80.2.2)))
noncomputable def j5 (C : Am.Callee) (L : Loops) (n0 : Nat) (t5 t7 t8 : Value) (s : AS) : Option (Value × List Blk × Option Nat) :=
(((aLoad true 2 s t5).bind fun x62 =>
(C n_P_itree_Tree_Overlaps [t8, x62] s.H).bind fun r63 =>
(C n_twainlaw14_has [r63.1, t7] (AS.mk r63.2.1 (joinEsc s.esc r63.2.2)).H).bind fun r64 =>
(aUn PP .not r64.1).bind fun x65 =>
bcase x65 (
some (AEx.normal, [t5, t7, t8, .bool true], AS.mk r64.2.1 (joinEsc (AS.mk r63.2.1 (joinEsc s.esc r63.2.2)).esc r64.2.2))) (
(aLoad true 2 (AS.mk r64.2.1 (joinEsc (AS.mk r63.2.1 (joinEsc s.esc r63.2.2)).esc r64.2.2)) t5).bind fun x66 =>
(C n_P_itree_Tree_Any [t8, x66] (AS.mk r64.2.1 (joinEsc (AS.mk r63.2.1 (joinEsc s.esc r63.2.2)).esc r64.2.2)).H).bind fun r67 =>
(aUn PP .not r67.1).bind fun x68 =>
bcase x68 (
some (AEx.normal, [t5, t7, t8, .bool true], AS.mk r67.2.1 (joinEsc (AS.mk r64.2.1 (joinEsc (AS.mk r63.2.1 (joinEsc s.esc r63.2.2)).esc r64.2.2)).esc r67.2.2))) (
(aLoad true 2 (AS.mk r67.2.1 (joinEsc (AS.mk r64.2.1 (joinEsc (AS.mk r63.2.1 (joinEsc s.esc r63.2.2)).esc r64.2.2)).esc r67.2.2)) t5).bind fun x69 =>
(C n_P_itree_Tree_Insert [t8, x69, t7] (AS.mk r67.2.1 (joinEsc (AS.mk r64.2.1 (joinEsc (AS.mk r63.2.1 (joinEsc s.esc r63.2.2)).esc r64.2.2)).esc r67.2.2)).H).bind fun r70 =>
bcase r70.1 (
some (AEx.normal, [t5, t7, t8, .bool true], AS.mk r70.2.1 (joinEsc (AS.mk r67.2.1 (joinEsc (AS.mk r64.2.1 (joinEsc (AS.mk r63.2.1 (joinEsc s.esc r63.2.2)).esc r64.2.2)).esc r67.2.2)).esc r70.2.2))) (
(aLoad true 2 (AS.mk r70.2.1 (joinEsc (AS.mk r67.2.1 (joinEsc (AS.mk r64.2.1 (joinEsc (AS.mk r63.2.1 (joinEsc s.esc r63.2.2)).esc r64.2.2)).esc r67.2.2)).esc r70.2.2)) t5).bind fun x71 =>
(C n_P_itree_Tree_Delete [t8, x71, t7] (AS.mk r70.2.1 (joinEsc (AS.mk r67.2.1 (joinEsc (AS.mk r64.2.1 (joinEsc (AS.mk r63.2.1 (joinEsc s.esc r63.2.2)).esc r64.2.2)).esc r67.2.2)).esc r70.2.2)).H).bind fun r72 =>
(aUn PP .not r72.1).bind fun x73 =>
bcase x73 (
some (AEx.normal, [t5, t7, t8, .bool true], AS.mk r72.2.1 (joinEsc (AS.mk r70.2.1 (joinEsc (AS.mk r67.2.1 (joinEsc (AS.mk r64.2.1 (joinEsc (AS.mk r63.2.1 (joinEsc s.esc r63.2.2)).esc r64.2.2)).esc r67.2.2)).esc r70.2.2)).esc r72.2.2))) (
(aLoad true 2 (AS.mk r72.2.1 (joinEsc (AS.mk r70.2.1 (joinEsc (AS.mk r67.2.1 (joinEsc (AS.mk r64.2.1 (joinEsc (AS.mk r63.2.1 (joinEsc s.esc r63.2.2)).esc r64.2.2)).esc r67.2.2)).esc r70.2.2)).esc r72.2.2)) t5).bind fun x74 =>
(C n_P_itree_Tree_Delete [t8, x74, t7] (AS.mk r72.2.1 (joinEsc (AS.mk r70.2.1 (joinEsc (AS.mk r67.2.1 (joinEsc (AS.mk r64.2.1 (joinEsc (AS.mk r63.2.1 (joinEsc s.esc r63.2.2)).esc r64.2.2)).esc r67.2.2)).esc r70.2.2)).esc r72.2.2)).H).bind fun r75 =>
some (AEx.normal, [t5, t7, t8, r75.1], AS.mk r75.2.1 (joinEsc (AS.mk r72.2.1 (joinEsc (AS.mk r70.2.1 (joinEsc (AS.mk r67.2.1 (joinEsc (AS.mk r64.2.1 (joinEsc (AS.mk r63.2.1 (joinEsc s.esc r63.2.2)).esc r64.2.2)).esc r67.2.2)).esc r70.2.2)).esc r72.2.2)).esc r75.2.2))))))).bind fun r76 =>
match r76.1 with
| .normal => j6 C L n0 ((r76.2.1.getD 0 unk)) ((r76.2.1.getD 1 unk)) ((r76.2.1.getD 2 unk)) ((r76.2.1.getD 3 unk)) r76.2.2
| .exit i => some (AEx.exit i, [unk, (r76.2.1.getD 0 unk), (r76.2.1.getD 1 unk), (r76.2.1.getD 2 unk)], r76.2.2)
| .ret => some (AEx.ret, [unk, (r76.2.1.getD 0 unk), (r76.2.1.getD 1 unk), (r76.2.1.getD 2 unk)], r76.2.2)).bind fun r77 =>
match r77.1 with
| .normal => j7 C L n0 ((r77.2.1.getD 1 unk)) ((r77.2.1.getD 2 unk)) ((r77.2.1.getD 3 unk)) r77.2.2
| .exit i => none
| .ret => fin PP false n0 [(r77.2.1.getD 0 unk)] r77.2.2
noncomputable def j3 (C : Am.Callee) (L : Loops) (n0 : Nat) (t5 t6 t7 t8 t11 : Value) (s : AS) : Option (Value × List Blk × Option Nat) :=
(aUn PP .not t11).bind fun x43 =>
bcase x43 (
(C n_twainlaw14_lives [] s.H).bind fun r44 =>
fin PP false n0 [r44.1] (AS.mk r44.2.1 (joinEsc s.esc r44.2.2))) (
(((aBin PP .geq t_int (.tmp 62) (.const (.int .i64 0)) t6 (.int .i64 0)).bind fun x45 =>
bcase x45 (
(aFieldAddr PP t_api_Span t5 1).bind fun x46 =>
(aLoad false 1 s x46).bind fun x47 =>
(aBin PP .lss t_int (.tmp 65) (.tmp 67) t6 x47).bind fun x48 =>
bcase x48 (
(aFieldAddr PP t_api_Span t5 0).bind fun x49 =>
(aLoad false 1 s x49).bind fun x50 =>
(aBin PP .add t_int (.tmp 73) (.tmp 74) x50 t6).bind fun x51 =>
(aBuild PP t_api_Span [(0, x51), (1, .int .i64 1)]).bind fun x52 =>
(C n_P_itree_Tree_Overlaps [t8, x52] s.H).bind fun r53 =>
(C n_twainlaw14_has [r53.1, t7] (AS.mk r53.2.1 (joinEsc s.esc r53.2.2)).H).bind fun r54 =>
(aUn PP .not r54.1).bind fun x55 =>
bcase x55 (
(aFieldAddr PP t_api_Span t5 0).bind fun x56 =>
(aLoad false 1 (AS.mk r54.2.1 (joinEsc (AS.mk r53.2.1 (joinEsc s.esc r53.2.2)).esc r54.2.2)) x56).bind fun x57 =>
(aBin PP .add t_int (.tmp 84) (.tmp 85) x57 t6).bind fun x58 =>
(aBin PP .leq t_int (.tmp 86) (.const (.int .i64 1073741824)) x58 (.int .i64 1073741824)).bind fun x59 =>
some (AEx.normal, [t5, t7, t8, x59], AS.mk r54.2.1 (joinEsc (AS.mk r53.2.1 (joinEsc s.esc r53.2.2)).esc r54.2.2))) (
some (AEx.normal, [t5, t7, t8, .bool false], AS.mk r54.2.1 (joinEsc (AS.mk r53.2.1 (joinEsc s.esc r53.2.2)).esc r54.2.2)))) (
some (AEx.normal, [t5, t7, t8, .bool false], s))) (
some (AEx.normal, [t5, t7, t8, .bool false], s))).bind fun r60 =>
match r60.1 with
| .normal => j4 C L n0 ((r60.2.1.getD 0 unk)) ((r60.2.1.getD 1 unk)) ((r60.2.1.getD 2 unk)) ((r60.2.1.getD 3 unk)) r60.2.2
| .exit i => some (AEx.exit i, [unk, (r60.2.1.getD 0 unk), (r60.2.1.getD 1 unk), (r60.2.1.getD 2 unk)], r60.2.2)
| .ret => some (AEx.ret, [unk, (r60.2.1.getD 0 unk), (r60.2.1.getD 1 unk), (r60.2.1.getD 2 unk)], r60.2.2)).bind fun r61 =>
match r61.1 with
| .normal => j5 C L n0 ((r61.2.1.getD 1 unk)) ((r61.2.1.getD 2 unk)) ((r61.2.1.getD 3 unk)) r61.2.2
| .exit i => none
| .ret => fin PP false n0 [(r61.2.1.getD 0 unk)] r61.2.2)
noncomputable def j2 (C : Am.Callee) (L : Loops) (n0 : Nat) (t5 t6 t7 t8 : Value) (s : AS) : Option (Value × List Blk × Option Nat) :=
(aLoad true 2 s t5).bind fun x28 =>
(C n_P_itree_Tree_Insert [t8, x28, t7] s.H).bind fun r29 =>
((aFieldAddr PP t_api_Span t5 0).bind fun x30 =>
(aLoad false 1 (AS.mk r29.2.1 (joinEsc s.esc r29.2.2)) x30).bind fun x31 =>
(aBin PP .geq t_int (.tmp 42) (.const (.int .i64 0)) x31 (.int .i64 0)).bind fun x32 =>
bcase x32 (
(aFieldAddr PP t_api_Span t5 0).bind fun x33 =>
(aLoad false 1 (AS.mk r29.2.1 (joinEsc s.esc r29.2.2)) x33).bind fun x34 =>
(aBin PP .leq t_int (.tmp 46) (.const (.int .i64 1073741824)) x34 (.int .i64 1073741824)).bind fun x35 =>
bcase x35 (
(aFieldAddr PP t_api_Span t5 1).bind fun x36 =>
(aLoad false 1 (AS.mk r29.2.1 (joinEsc s.esc r29.2.2)) x36).bind fun x37 =>
(aBin PP .geq t_int (.tmp 51) (.const (.int .i64 1)) x37 (.int .i64 1)).bind fun x38 =>
bcase x38 (
(aFieldAddr PP t_api_Span t5 1).bind fun x39 =>
(aLoad false 1 (AS.mk r29.2.1 (joinEsc s.esc r29.2.2)) x39).bind fun x40 =>
(aBin PP .leq t_int (.tmp 56) (.const (.int .i64 1073741824)) x40 (.int .i64 1073741824)).bind fun x41 =>
some (AEx.normal, [t5, t6, t7, t8, x41], AS.mk r29.2.1 (joinEsc s.esc r29.2.2))) (
some (AEx.normal, [t5, t6, t7, t8, .bool false], AS.mk r29.2.1 (joinEsc s.esc r29.2.2)))) (
some (AEx.normal, [t5, t6, t7, t8, .bool false], AS.mk r29.2.1 (joinEsc s.esc r29.2.2)))) (
some (AEx.normal, [t5, t6, t7, t8, .bool false], AS.mk r29.2.1 (joinEsc s.esc r29.2.2)))).bind fun r42 =>
match r42.1 with
| .normal => j3 C L n0 ((r42.2.1.getD 0 unk)) ((r42.2.1.getD 1 unk)) ((r42.2.1.getD 2 unk)) ((r42.2.1.getD 3 unk)) ((r42.2.1.getD 4 unk)) r42.2.2
| .exit i => none
| .ret => fin PP false n0 [unk] r42.2.2
noncomputable def sh (C : Am.Callee) (L : Loops) (n0 : Nat) (t0 t1 : Value) (s : AS) : Option (Value × List Blk × Option Nat) :=
(aBox t_twainlaw14_One t1 s).bind fun r1 =>
(aFieldAddr PP t_twainlaw14_One r1.1 0).bind fun x2 =>
(aLoad true 2 r1.2 x2).bind fun x3 =>
(aFieldAddr PP t_twainlaw14_One r1.1 1).bind fun x4 =>
(aLoad false 1 r1.2 x4).bind fun x5 =>
(aFieldAddr PP t_twainlaw14_One r1.1 2).bind fun x6 =>
(aLoad false 1 r1.2 x6).bind fun x7 =>
(aBox t_api_Span ((zeroP PP t_api_Span).getD unk) r1.2).bind fun r8 =>
if ((((aLoad true 2 r8.2 x2).bind fun x89 =>
some (veq x89 x3)) == some true) && ((((aLoad false 1 r8.2 x4).bind fun x88 =>
some (veq x88 x5)) == some true) && ((((aLoad false 1 r8.2 x6).bind fun x87 =>
some (veq x87 x7)) == some true) && true))) = true then
(aStore 2 r8.2 r8.1 x3).bind fun s9 =>
if ((((aLoad false 1 s9 x4).bind fun x86 =>
some (veq x86 x5)) == some true) && ((((aLoad false 1 s9 x6).bind fun x85 =>
some (veq x85 x7)) == some true) && true)) = true then
(aLen PP t_L_twainlaw14_Act t0 s9).bind fun x10 =>
(aBin PP .gtr t_int (.tmp 20) (.const (.int .i64 100)) x10 (.int .i64 100)).bind fun x11 =>
bcase x11 (
(C n_twainlaw14_lives [] s9.H).bind fun r12 =>
fin PP false n0 [r12.1] (AS.mk r12.2.1 (joinEsc s9.esc r12.2.2))) (
(C n_itree_New [] s9.H).bind fun r13 =>
((aLen PP t_L_twainlaw14_Act t0 (AS.mk r13.2.1 (joinEsc s9.esc r13.2.2))).bind fun x14 =>
(L n0 (loop6s C L n0) ([r8.1, x5, x7, r13.1, t0, x14, .int .i64 0], AS.mk r13.2.1 (joinEsc s9.esc r13.2.2))).bind fun r26 =>
match r26.1 with
| .normal => some (AEx.normal, [(r26.2.1.getD 0 unk), (r26.2.1.getD 1 unk), (r26.2.1.getD 2 unk), (r26.2.1.getD 3 unk)], r26.2.2)
| .exit i => if i = 0 then some (AEx.normal, [(r26.2.1.getD 0 unk), (r26.2.1.getD 1 unk), (r26.2.1.getD 2 unk), (r26.2.1.getD 3 unk)], r26.2.2) else some (AEx.exit i, [(r26.2.1.getD 0 unk), (r26.2.1.getD 1 unk), (r26.2.1.getD 2 unk), (r26.2.1.getD 3 unk)], r26.2.2)
| .ret => some (AEx.ret, [(r26.2.1.getD 0 unk), (r26.2.1.getD 1 unk), (r26.2.1.getD 2 unk), (r26.2.1.getD 3 unk)], r26.2.2)).bind fun r27 =>
match r27.1 with
| .normal => j2 C L n0 ((r27.2.1.getD 0 unk)) ((r27.2.1.getD 1 unk)) ((r27.2.1.getD 2 unk)) ((r27.2.1.getD 3 unk)) r27.2.2
| .exit i => none
| .ret => fin PP false n0 [unk] r27.2.2)
else none
else none
def T : Tab := ⟨fun i => if i = 6 then some [5, 6, 7, 8, 24, 25, 26] else none, fun i => if i = 6 then some [5, 6, 7, 8] else none, false, fun i => if i = 10 then some [5, 6, 7, 8] else if i = 12 then some [5, 6, 7, 8, 11] else if i = 15 then some [5, 7, 8, 88] else if i = 16 then some [4, 5, 7, 8] else if i = 17 then some [5, 7, 8, 119] else if i = 18 then some [4, 5, 7, 8] else none, fun _ => false, false, false, fun _ => false⟩
end twainlaw14_ItreeFinds
namespace twainlaw14_ItreeActs
noncomputable def j2 (C : Am.Callee) (L : Loops) (n0 : Nat) (t3 t5 t6 t19 t20 t21 t83 : Value) (s : AS) : Option (AEx × List Value × AS) :=
bcase t83 (
some (AEx.ret, [t3, .bool false, t5, t6, t19, t20, t21], s)) (
some (AEx.normal, [t3, unk, t5, t6, t19, t20, t21], s))
noncomputable def j1 (C : Am.Callee) (L : Loops) (n0 : Nat) (t3 t5 t6 t9 t10 t19 t20 t21 : Value) (s : AS) : Option (AEx × List Value × AS) :=
(aLoad true 2 s t3).bind fun x41 =>
(C n_P_twainref14_Tree_Overlaps [t6, x41] s.H).bind fun r42 =>
((aBin PP .neq t_bool (.tmp 54) (.tmp 55) t9 t10).bind fun x43 =>
bcase x43 (
some (AEx.normal, [t3, t5, t6, t19, t20, t21, .bool true], AS.mk r42.2.1 (joinEsc s.esc r42.2.2))) (
(aNil t6).bind fun x44 =>
(aFieldAddr PP t_twainref14_Tree x44 0).bind fun x45 =>
(aLoad false 1 (AS.mk r42.2.1 (joinEsc s.esc r42.2.2)) x45).bind fun x46 =>
(aLen PP t_L_twainref14_Item x46 (AS.mk r42.2.1 (joinEsc s.esc r42.2.2))).bind fun x47 =>
(C n_P_itree_Tree_Len [t5] (AS.mk r42.2.1 (joinEsc s.esc r42.2.2)).H).bind fun r48 =>
if ((((aLoad false 1 (AS.mk r48.2.1 (joinEsc (AS.mk r42.2.1 (joinEsc s.esc r42.2.2)).esc r48.2.2)) x45).bind fun x61 =>
some (veq x61 x46)) == some true) && ((((aLen PP t_L_twainref14_Item x46 (AS.mk r48.2.1 (joinEsc (AS.mk r42.2.1 (joinEsc s.esc r42.2.2)).esc r48.2.2))).bind fun x60 =>
some (veq x60 x47)) == some true) && true)) = true then
(aBin PP .neq t_int (.tmp 59) (.tmp 64) r48.1 x47).bind fun x49 =>
bcase x49 (
some (AEx.normal, [t3, t5, t6, t19, t20, t21, .bool true], AS.mk r48.2.1 (joinEsc (AS.mk r42.2.1 (joinEsc s.esc r42.2.2)).esc r48.2.2))) (
(aLoad true 2 (AS.mk r48.2.1 (joinEsc (AS.mk r42.2.1 (joinEsc s.esc r42.2.2)).esc r48.2.2)) t3).bind fun x50 =>
(C n_P_itree_Tree_Overlaps [t5, x50] (AS.mk r48.2.1 (joinEsc (AS.mk r42.2.1 (joinEsc s.esc r42.2.2)).esc r48.2.2)).H).bind fun r51 =>
(C n_twainref01_Ints [r51.1, r42.1] (AS.mk r51.2.1 (joinEsc (AS.mk r48.2.1 (joinEsc (AS.mk r42.2.1 (joinEsc s.esc r42.2.2)).esc r48.2.2)).esc r51.2.2)).H).bind fun r52 =>
(aUn PP .not r52.1).bind fun x53 =>
bcase x53 (
some (AEx.normal, [t3, t5, t6, t19, t20, t21, .bool true], AS.mk r52.2.1 (joinEsc (AS.mk r51.2.1 (joinEsc (AS.mk r48.2.1 (joinEsc (AS.mk r42.2.1 (joinEsc s.esc r42.2.2)).esc r48.2.2)).esc r51.2.2)).esc r52.2.2))) (
(aLoad true 2 (AS.mk r52.2.1 (joinEsc (AS.mk r51.2.1 (joinEsc (AS.mk r48.2.1 (joinEsc (AS.mk r42.2.1 (joinEsc s.esc r42.2.2)).esc r48.2.2)).esc r51.2.2)).esc r52.2.2)) t3).bind fun x54 =>
(aLen PP t_L_int r42.1 (AS.mk r52.2.1 (joinEsc (AS.mk r51.2.1 (joinEsc (AS.mk r48.2.1 (joinEsc (AS.mk r42.2.1 (joinEsc s.esc r42.2.2)).esc r48.2.2)).esc r51.2.2)).esc r52.2.2))).bind fun x55 =>
(aBin PP .gtr t_int (.tmp 80) (.const (.int .i64 0)) x55 (.int .i64 0)).bind fun x56 =>
(C n_P_itree_Tree_Any [t5, x54] (AS.mk r52.2.1 (joinEsc (AS.mk r51.2.1 (joinEsc (AS.mk r48.2.1 (joinEsc (AS.mk r42.2.1 (joinEsc s.esc r42.2.2)).esc r48.2.2)).esc r51.2.2)).esc r52.2.2)).H).bind fun r57 =>
if ((((aLen PP t_L_int r42.1 (AS.mk r57.2.1 (joinEsc (AS.mk r52.2.1 (joinEsc (AS.mk r51.2.1 (joinEsc (AS.mk r48.2.1 (joinEsc (AS.mk r42.2.1 (joinEsc s.esc r42.2.2)).esc r48.2.2)).esc r51.2.2)).esc r52.2.2)).esc r57.2.2))).bind fun x59 =>
some (veq x59 x55)) == some true) && true) = true then
(aBin PP .neq t_bool (.tmp 78) (.tmp 81) r57.1 x56).bind fun x58 =>
some (AEx.normal, [t3, t5, t6, t19, t20, t21, x58], AS.mk r57.2.1 (joinEsc (AS.mk r52.2.1 (joinEsc (AS.mk r51.2.1 (joinEsc (AS.mk r48.2.1 (joinEsc (AS.mk r42.2.1 (joinEsc s.esc r42.2.2)).esc r48.2.2)).esc r51.2.2)).esc r52.2.2)).esc r57.2.2))
else none))
else none)).bind fun r62 =>
match r62.1 with
| .normal => j2 C L n0 ((r62.2.1.getD 0 unk)) ((r62.2.1.getD 1 unk)) ((r62.2.1.getD 2 unk)) ((r62.2.1.getD 3 unk)) ((r62.2.1.getD 4 unk)) ((r62.2.1.getD 5 unk)) ((r62.2.1.getD 6 unk)) r62.2.2
| .exit i => if i = 1 then some (AEx.normal, [(r62.2.1.getD 0 unk), unk, (r62.2.1.getD 1 unk), (r62.2.1.getD 2 unk), (r62.2.1.getD 3 unk), (r62.2.1.getD 4 unk), (r62.2.1.getD 5 unk)], r62.2.2) else some (AEx.exit i, [(r62.2.1.getD 0 unk), unk, (r62.2.1.getD 1 unk), (r62.2.1.getD 2 unk), (r62.2.1.getD 3 unk), (r62.2.1.getD 4 unk), (r62.2.1.getD 5 unk)], r62.2.2)
| .ret => some (AEx.ret, [(r62.2.1.getD 0 unk), unk, (r62.2.1.getD 1 unk), (r62.2.1.getD 2 unk), (r62.2.1.getD 3 unk), (r62.2.1.getD 4 unk), (r62.2.1.getD 5 unk)], r62.2.2)
noncomputable def j3 (C : Am.Callee) (L : Loops) (n0 : Nat) (t3 t5 t6 t19 t20 t21 : Value) (s : AS) : Option ((List Value × AS) ⊕ (AEx × List Value × AS)) :=
(aBin PP .add t_int (.tmp 21) (.const (.int .i64 1)) t21 (.int .i64 1)).bind fun x64 =>
some (.inl ([t3, t5, t6, t19, t20, x64], s))
noncomputable def loop5 (C : Am.Callee) (L : Loops) (n0 : Nat) (t3 t5 t6 t19 t20 t21 : Value) (s : AS) : Option ((List Value × AS) ⊕ (AEx × List Value × AS)) :=
(aBin PP .lss t_int (.tmp 21) (.tmp 20) t21 t20).bind fun x9 =>
bcase x9 (
((aIndexAddr PP t_L_twainlaw14_Act t19 t21).bind fun x10 =>
(aLoad true 4 s x10).bind fun x11 =>
(aBox t_twainlaw14_Act ((zeroP PP t_twainlaw14_Act).getD unk) s).bind fun r12 =>
(aStore 4 r12.2 r12.1 x11).bind fun s13 =>
((aFieldAddr PP t_twainlaw14_Act r12.1 0).bind fun x14 =>
(aLoad false 1 s13 x14).bind fun x15 =>
bcase x15 (
(aFieldAddr PP t_twainlaw14_Act r12.1 1).bind fun x16 =>
(aLoad true 2 s13 x16).bind fun x17 =>
(aFieldAddr PP t_twainlaw14_Act r12.1 2).bind fun x18 =>
(aLoad false 1 s13 x18).bind fun x19 =>
(aFieldAddr PP t_twainlaw14_Act r12.1 1).bind fun x20 =>
(aLoad true 2 s13 x20).bind fun x21 =>
(aFieldAddr PP t_twainlaw14_Act r12.1 2).bind fun x22 =>
(aLoad false 1 s13 x22).bind fun x23 =>
(C n_P_itree_Tree_Delete [t5, x17, x19] s13.H).bind fun r24 =>
if ((((aLoad true 2 (AS.mk r24.2.1 (joinEsc s13.esc r24.2.2)) x20).bind fun x27 =>
some (veq x27 x21)) == some true) && ((((aLoad false 1 (AS.mk r24.2.1 (joinEsc s13.esc r24.2.2)) x22).bind fun x26 =>
some (veq x26 x23)) == some true) && true)) = true then
(C n_P_twainref14_Tree_Delete [t6, x21, x23] (AS.mk r24.2.1 (joinEsc s13.esc r24.2.2)).H).bind fun r25 =>
some (AEx.normal, [t3, t5, t6, r24.1, r25.1, t19, t20, t21], AS.mk r25.2.1 (joinEsc (AS.mk r24.2.1 (joinEsc s13.esc r24.2.2)).esc r25.2.2))
else none) (
(aFieldAddr PP t_twainlaw14_Act r12.1 1).bind fun x28 =>
(aLoad true 2 s13 x28).bind fun x29 =>
(aFieldAddr PP t_twainlaw14_Act r12.1 2).bind fun x30 =>
(aLoad false 1 s13 x30).bind fun x31 =>
(aFieldAddr PP t_twainlaw14_Act r12.1 1).bind fun x32 =>
(aLoad true 2 s13 x32).bind fun x33 =>
(aFieldAddr PP t_twainlaw14_Act r12.1 2).bind fun x34 =>
(aLoad false 1 s13 x34).bind fun x35 =>
(C n_P_itree_Tree_Insert [t5, x29, x31] s13.H).bind fun r36 =>
if ((((aLoad true 2 (AS.mk r36.2.1 (joinEsc s13.esc r36.2.2)) x32).bind fun x39 =>
some (veq x39 x33)) == some true) && ((((aLoad false 1 (AS.mk r36.2.1 (joinEsc s13.esc r36.2.2)) x34).bind fun x38 =>
some (veq x38 x35)) == some true) && true)) = true then
(C n_P_twainref14_Tree_Insert [t6, x33, x35] (AS.mk r36.2.1 (joinEsc s13.esc r36.2.2)).H).bind fun r37 =>
some (AEx.normal, [t3, t5, t6, r36.1, r37.1, t19, t20, t21], AS.mk r37.2.1 (joinEsc (AS.mk r36.2.1 (joinEsc s13.esc r36.2.2)).esc r37.2.2))
else none)).bind fun r40 =>
match r40.1 with
| .normal => j1 C L n0 ((r40.2.1.getD 0 unk)) ((r40.2.1.getD 1 unk)) ((r40.2.1.getD 2 unk)) ((r40.2.1.getD 3 unk)) ((r40.2.1.getD 4 unk)) ((r40.2.1.getD 5 unk)) ((r40.2.1.getD 6 unk)) ((r40.2.1.getD 7 unk)) r40.2.2
| .exit i => if i = 1 then some (AEx.normal, [(r40.2.1.getD 0 unk), unk, (r40.2.1.getD 1 unk), (r40.2.1.getD 2 unk), (r40.2.1.getD 5 unk), (r40.2.1.getD 6 unk), (r40.2.1.getD 7 unk)], r40.2.2) else some (AEx.exit i, [(r40.2.1.getD 0 unk), unk, (r40.2.1.getD 1 unk), (r40.2.1.getD 2 unk), (r40.2.1.getD 5 unk), (r40.2.1.getD 6 unk), (r40.2.1.getD 7 unk)], r40.2.2)
| .ret => some (AEx.ret, [(r40.2.1.getD 0 unk), unk, (r40.2.1.getD 1 unk), (r40.2.1.getD 2 unk), (r40.2.1.getD 5 unk), (r40.2.1.getD 6 unk), (r40.2.1.getD 7 unk)], r40.2.2)).bind fun r63 =>
match r63.1 with
| .normal => j3 C L n0 ((r63.2.1.getD 0 unk)) ((r63.2.1.getD 2 unk)) ((r63.2.1.getD 3 unk)) ((r63.2.1.getD 4 unk)) ((r63.2.1.getD 5 unk)) ((r63.2.1.getD 6 unk)) r63.2.2
| .exit i => some (.inr (.exit i, [(r63.2.1.getD 1 unk), (r63.2.1.getD 2 unk), (r63.2.1.getD 3 unk)], r63.2.2))
| .ret => some (.inr (.ret, [(r63.2.1.getD 1 unk), (r63.2.1.getD 2 unk), (r63.2.1.getD 3 unk)], r63.2.2))) (
some (.inr (.exit 0, [unk, t5, t6], s)))
noncomputable def loop5s (C : Am.Callee) (L : Loops) (n0 : Nat) : List Value × AS → Option ((List Value × AS) ⊕ (AEx × List Value × AS)) := fun s => loop5 C L n0 (s.1.getD 0 unk) (s.1.getD 1 unk) (s.1.getD 2 unk) (s.1.getD 3 unk) (s.1.getD 4 unk) (s.1.getD 5 unk) s.2
noncomputable def j5 (C : Am.Callee) (L : Loops) (n0 : Nat) (t5 t6 : Value) (s : AS) : Option (Value × List Blk × Option Nat) :=
(C n_P_itree_Tree_Ids [t5] s.H).bind fun r67 =>
(C n_P_twainref14_Tree_Ids [t6] (AS.mk r67.2.1 (joinEsc s.esc r67.2.2)).H).bind fun r68 =>
(C n_twainref01_Ints [r67.1, r68.1] (AS.mk r68.2.1 (joinEsc (AS.mk r67.2.1 (joinEsc s.esc r67.2.2)).esc r68.2.2)).H).bind fun r69 =>
bcase r69.1 (
(C n_twainlaw14_lives [] (AS.mk r69.2.1 (joinEsc (AS.mk r68.2.1 (joinEsc (AS.mk r67.2.1 (joinEsc s.esc r67.2.2)).esc r68.2.2)).esc r69.2.2)).H).bind fun r70 =>
fin PP false n0 [r70.1] (AS.mk r70.2.1 (joinEsc (AS.mk r69.2.1 (joinEsc (AS.mk r68.2.1 (joinEsc (AS.mk r67.2.1 (joinEsc s.esc r67.2.2)).esc r68.2.2)).esc r69.2.2)).esc r70.2.2))) (
fin PP false n0 [.bool false] (AS.mk r69.2.1 (joinEsc (AS.mk r68.2.1 (joinEsc (AS.mk r67.2.1 (joinEsc s.esc r67.2.2)).esc r68.2.2)).esc r69.2.2)))
noncomputable def sh (C : Am.Callee) (L : Loops) (n0 : Nat) (t0 t1 : Value) (s : AS) : Option (Value × List Blk × Option Nat) :=
(aBox t_api_Span t1 s).bind fun r1 =>
(aLen PP t_L_twainlaw14_Act t0 r1.2).bind fun x2 =>
(aBin PP .gtr t_int (.tmp 13) (.const (.int .i64 150)) x2 (.int .i64 150)).bind fun x3 =>
bcase x3 (
(C n_twainlaw14_lives [] r1.2.H).bind fun r4 =>
fin PP false n0 [r4.1] (AS.mk r4.2.1 (joinEsc r1.2.esc r4.2.2))) (
(C n_itree_New [] r1.2.H).bind fun r5 =>
(aBuild PP t_twainref14_Tree []).bind fun x6 =>
(aBox t_twainref14_Tree x6 (AS.mk r5.2.1 (joinEsc r1.2.esc r5.2.2))).bind fun r7 =>
((aLen PP t_L_twainlaw14_Act t0 r7.2).bind fun x8 =>
(L n0 (loop5s C L n0) ([r1.1, r5.1, r7.1, t0, x8, .int .i64 0], r7.2)).bind fun r65 =>
match r65.1 with
| .normal => some (AEx.normal, [(r65.2.1.getD 0 unk), (r65.2.1.getD 1 unk), (r65.2.1.getD 2 unk)], r65.2.2)
| .exit i => if i = 0 then some (AEx.normal, [(r65.2.1.getD 0 unk), (r65.2.1.getD 1 unk), (r65.2.1.getD 2 unk)], r65.2.2) else some (AEx.exit i, [(r65.2.1.getD 0 unk), (r65.2.1.getD 1 unk), (r65.2.1.getD 2 unk)], r65.2.2)
| .ret => some (AEx.ret, [(r65.2.1.getD 0 unk), (r65.2.1.getD 1 unk), (r65.2.1.getD 2 unk)], r65.2.2)).bind fun r66 =>
match r66.1 with
| .normal => j5 C L n0 ((r66.2.1.getD 1 unk)) ((r66.2.1.getD 2 unk)) r66.2.2
| .exit i => none
| .ret => fin PP false n0 [(r66.2.1.getD 0 unk)] r66.2.2)
def T : Tab := ⟨fun i => if i = 5 then some [3, 5, 6, 19, 20, 21] else none, fun i => if i = 5 then some [4, 5, 6] else none, false, fun i => if i = 11 then some [3, 5, 6, 9, 10, 19, 20, 21] else if i = 13 then some [3, 5, 6, 19, 20, 21, 83] else if i = 14 then some [3, 4, 5, 6, 19, 20, 21] else if i = 15 then some [4, 5, 6] else none, fun _ => false, false, false, fun _ => false⟩
end twainlaw14_ItreeActs
namespace itree_New
noncomputable def sh (C : Am.Callee) (L : Loops) (n0 : Nat) (s : AS) : Option (Value × List Blk × Option Nat) :=
(aBuild PP t_itree_Tree [(0, .bool true)]).bind fun x1 =>
(aBox t_itree_Tree x1 s).bind fun r2 =>
fin PP false n0 [r2.1] r2.2
def T : Tab := ⟨fun i => none, fun i => none, false, fun i => none, fun _ => false, false, false, fun _ => false⟩
end itree_New
namespace P_itree_Tree_Insert
noncomputable def j0 (C : Am.Callee) (L : Loops) (n0 : Nat) (t0 t7 t28 : Value) (s : AS) : Option (AEx × List Value × AS) :=
bcase t28 (
some (AEx.ret, [t0, .bool false, t7], s)) (
some (AEx.normal, [t0, unk, t7], s))
noncomputable def j1 (C : Am.Callee) (L : Loops) (n0 : Nat) (t0 t7 : Value) (s : AS) : Option (Value × List Blk × Option Nat) :=
(aNil t0).bind fun x18 =>
(aFieldAddr PP t_itree_Tree x18 1).bind fun x19 =>
(aLoad false 1 s x19).bind fun x20 =>
(aLoad true 3 s t7).bind fun x21 =>
(C n_itree_add [x20, x21] s.H).bind fun r22 =>
(aNil t0).bind fun x23 =>
(aFieldAddr PP t_itree_Tree x23 1).bind fun x24 =>
(aStore 1 (AS.mk r22.2.1 (joinEsc s.esc r22.2.2)) x24 r22.1).bind fun s25 =>
(aNil t0).bind fun x26 =>
(aFieldAddr PP t_itree_Tree x26 1).bind fun x27 =>
(aLoad false 1 s25 x27).bind fun x28 =>
(aNil x28).bind fun x29 =>
(aFieldAddr PP t_itree_node x29 1).bind fun x30 =>
(aStore 1 s25 x30 (.bool false)).bind fun s31 =>
(aNil t0).bind fun x32 =>
(aFieldAddr PP t_itree_Tree x32 2).bind fun x33 =>
(aLoad false 1 s31 x33).bind fun x34 =>
(aBin PP .add t_int (.tmp 47) (.const (.int .i64 1)) x34 (.int .i64 1)).bind fun x35 =>
(aNil t0).bind fun x36 =>
(aFieldAddr PP t_itree_Tree x36 2).bind fun x37 =>
(aStore 1 s31 x37 x35).bind fun s38 =>
fin PP true n0 [.bool true] s38
noncomputable def sh (C : Am.Callee) (L : Loops) (n0 : Nat) (t0 t1 t2 : Value) (s : AS) : Option (Value × List Blk × Option Nat) :=
(aBox t_api_Span t1 s).bind fun r1 =>
(aLoad true 2 r1.2 r1.1).bind fun x2 =>
(aBuild PP t_itree_entry [(0, x2), (1, t2)]).bind fun x3 =>
(aBox t_itree_entry ((zeroP PP t_itree_entry).getD unk) r1.2).bind fun r4 =>
(aStore 3 r4.2 r4.1 x3).bind fun s5 =>
(((C n_P_itree_Tree_is [t0] s5.H).bind fun r6 =>
(aUn PP .not r6.1).bind fun x7 =>
bcase x7 (
some (AEx.normal, [t0, r4.1, .bool true], AS.mk r6.2.1 (joinEsc s5.esc r6.2.2))) (
(aLoad true 2 (AS.mk r6.2.1 (joinEsc s5.esc r6.2.2)) r1.1).bind fun x8 =>
(C n_span_Plain [x8] (AS.mk r6.2.1 (joinEsc s5.esc r6.2.2)).H).bind fun r9 =>
(aUn PP .not r9.1).bind fun x10 =>
bcase x10 (
some (AEx.normal, [t0, r4.1, .bool true], AS.mk r9.2.1 (joinEsc (AS.mk r6.2.1 (joinEsc s5.esc r6.2.2)).esc r9.2.2))) (
(aFieldAddr PP t_api_Span r1.1 1).bind fun x11 =>
(aLoad false 1 (AS.mk r9.2.1 (joinEsc (AS.mk r6.2.1 (joinEsc s5.esc r6.2.2)).esc r9.2.2)) x11).bind fun x12 =>
(aBin PP .lss t_int (.tmp 21) (.const (.int .i64 1)) x12 (.int .i64 1)).bind fun x13 =>
bcase x13 (
some (AEx.normal, [t0, r4.1, .bool true], AS.mk r9.2.1 (joinEsc (AS.mk r6.2.1 (joinEsc s5.esc r6.2.2)).esc r9.2.2))) (
(aLoad true 3 (AS.mk r9.2.1 (joinEsc (AS.mk r6.2.1 (joinEsc s5.esc r6.2.2)).esc r9.2.2)) r4.1).bind fun x14 =>
(C n_P_itree_Tree_has [t0, x14] (AS.mk r9.2.1 (joinEsc (AS.mk r6.2.1 (joinEsc s5.esc r6.2.2)).esc r9.2.2)).H).bind fun r15 =>
some (AEx.normal, [t0, r4.1, r15.1], AS.mk r15.2.1 (joinEsc (AS.mk r9.2.1 (joinEsc (AS.mk r6.2.1 (joinEsc s5.esc r6.2.2)).esc r9.2.2)).esc r15.2.2)))))).bind fun r16 =>
match r16.1 with
| .normal => j0 C L n0 ((r16.2.1.getD 0 unk)) ((r16.2.1.getD 1 unk)) ((r16.2.1.getD 2 unk)) r16.2.2
| .exit i => some (AEx.exit i, [(r16.2.1.getD 0 unk), unk, (r16.2.1.getD 1 unk)], r16.2.2)
| .ret => some (AEx.ret, [(r16.2.1.getD 0 unk), unk, (r16.2.1.getD 1 unk)], r16.2.2)).bind fun r17 =>
match r17.1 with
| .normal => j1 C L n0 ((r17.2.1.getD 0 unk)) ((r17.2.1.getD 2 unk)) r17.2.2
| .exit i => none
| .ret => fin PP true n0 [(r17.2.1.getD 1 unk)] r17.2.2
def T : Tab := ⟨fun i => none, fun i => none, true, fun i => if i = 3 then some [0, 7, 28] else if i = 4 then some [0, 6, 7] else none, fun _ => false, false, false, fun _ => false⟩
end P_itree_Tree_Insert
namespace P_itree_Tree_Height
noncomputable def sh (C : Am.Callee) (L : Loops) (n0 : Nat) (t0 : Value) (s : AS) : Option (Value × List Blk × Option Nat) :=
(C n_P_itree_Tree_is [t0] s.H).bind fun r1 =>
(aUn PP .not r1.1).bind fun x2 =>
bcase x2 (
fin PP false n0 [.int .i64 0] (AS.mk r1.2.1 (joinEsc s.esc r1.2.2))) (
(aNil t0).bind fun x3 =>
(aFieldAddr PP t_itree_Tree x3 1).bind fun x4 =>
(aLoad false 1 (AS.mk r1.2.1 (joinEsc s.esc r1.2.2)) x4).bind fun x5 =>
(C n_itree_height [x5] (AS.mk r1.2.1 (joinEsc s.esc r1.2.2)).H).bind fun r6 =>
fin PP false n0 [r6.1] (AS.mk r6.2.1 (joinEsc (AS.mk r1.2.1 (joinEsc s.esc r1.2.2)).esc r6.2.2)))
def T : Tab := ⟨fun i => none, fun i => none, false, fun i => none, fun _ => false, false, false, fun _ => false⟩
end P_itree_Tree_Height
namespace twainlaw14_bits
noncomputable def loop2 (C : Am.Callee) (L : Loops) (n0 : Nat) (t0 t3 : Value) (s : AS) : Option ((List Value × AS) ⊕ (AEx × List Value × AS)) :=
(aBin PP .gtr t_int (.tmp 4) (.const (.int .i64 0)) t0 (.int .i64 0)).bind fun x1 =>
bcase x1 (
(aBin PP .add t_int (.tmp 8) (.const (.int .i64 1)) t3 (.int .i64 1)).bind fun x2 =>
(aBin PP .quo t_int (.tmp 6) (.const (.int .i64 2)) t0 (.int .i64 2)).bind fun x3 =>
some (.inl ([x3, x2], s))) (
some (.inr (.exit 0, [t3], s)))
noncomputable def loop2s (C : Am.Callee) (L : Loops) (n0 : Nat) : List Value × AS → Option ((List Value × AS) ⊕ (AEx × List Value × AS)) := fun s => loop2 C L n0 (s.1.getD 0 unk) (s.1.getD 1 unk) s.2
noncomputable def j2 (C : Am.Callee) (L : Loops) (n0 : Nat) (t3 : Value) (s : AS) : Option (Value × List Blk × Option Nat) :=
fin PP false n0 [t3] s
noncomputable def sh (C : Am.Callee) (L : Loops) (n0 : Nat) (t0 : Value) (s : AS) : Option (Value × List Blk × Option Nat) :=
((L n0 (loop2s C L n0) ([t0, .int .i64 0], s)).bind fun r4 =>
match r4.1 with
| .normal => some (AEx.normal, [(r4.2.1.getD 0 unk)], r4.2.2)
| .exit i => if i = 0 then some (AEx.normal, [(r4.2.1.getD 0 unk)], r4.2.2) else some (AEx.exit i, [(r4.2.1.getD 0 unk)], r4.2.2)
| .ret => some (AEx.ret, [(r4.2.1.getD 0 unk)], r4.2.2)).bind fun r5 =>
match r5.1 with
| .normal => j2 C L n0 ((r5.2.1.getD 0 unk)) r5.2.2
| .exit i => none
| .ret => fin PP false n0 [unk] r5.2.2
def T : Tab := ⟨fun i => if i = 2 then some [0, 3] else none, fun i => if i = 2 then some [3] else none, false, fun i => if i = 5 then some [3] else none, fun _ => false, false, false, fun _ => false⟩
end twainlaw14_bits
namespace P_itree_Tree_Len
noncomputable def sh (C : Am.Callee) (L : Loops) (n0 : Nat) (t0 : Value) (s : AS) : Option (Value × List Blk × Option Nat) :=
(C n_P_itree_Tree_is [t0] s.H).bind fun r1 =>
(aUn PP .not r1.1).bind fun x2 =>
bcase x2 (
fin PP false n0 [.int .i64 0] (AS.mk r1.2.1 (joinEsc s.esc r1.2.2))) (
(aNil t0).bind fun x3 =>
(aFieldAddr PP t_itree_Tree x3 2).bind fun x4 =>
(aLoad false 1 (AS.mk r1.2.1 (joinEsc s.esc r1.2.2)) x4).bind fun x5 =>
fin PP false n0 [x5] (AS.mk r1.2.1 (joinEsc s.esc r1.2.2)))
def T : Tab := ⟨fun i => none, fun i => none, false, fun i => none, fun _ => false, false, false, fun _ => false⟩
end P_itree_Tree_Len
namespace P_itree_Tree_Delete
noncomputable def j0 (C : Am.Callee) (L : Loops) (n0 : Nat) (t0 t7 t19 : Value) (s : AS) : Option (AEx × List Value × AS) :=
bcase t19 (
some (AEx.ret, [t0, .bool false, t7], s)) (
some (AEx.normal, [t0, unk, t7], s))
noncomputable def j2 (C : Am.Callee) (L : Loops) (n0 : Nat) (t0 t7 t41 : Value) (s : AS) : Option (AEx × List Value × AS) :=
bcase t41 (
(aNil t0).bind fun x32 =>
(aFieldAddr PP t_itree_Tree x32 1).bind fun x33 =>
(aLoad false 1 s x33).bind fun x34 =>
(aNil x34).bind fun x35 =>
(aFieldAddr PP t_itree_node x35 1).bind fun x36 =>
(aStore 1 s x36 (.bool true)).bind fun s37 =>
some (AEx.normal, [t0, t7], s37)) (
some (AEx.normal, [t0, t7], s))
noncomputable def j4 (C : Am.Callee) (L : Loops) (n0 : Nat) (t0 : Value) (s : AS) : Option (Value × List Blk × Option Nat) :=
(aNil t0).bind fun x58 =>
(aFieldAddr PP t_itree_Tree x58 2).bind fun x59 =>
(aLoad false 1 s x59).bind fun x60 =>
(aBin PP .sub t_int (.tmp 71) (.const (.int .i64 1)) x60 (.int .i64 1)).bind fun x61 =>
(aNil t0).bind fun x62 =>
(aFieldAddr PP t_itree_Tree x62 2).bind fun x63 =>
(aStore 1 s x63 x61).bind fun s64 =>
fin PP true n0 [.bool true] s64
noncomputable def j3 (C : Am.Callee) (L : Loops) (n0 : Nat) (t0 t7 : Value) (s : AS) : Option (Value × List Blk × Option Nat) :=
(aNil t0).bind fun x39 =>
(aFieldAddr PP t_itree_Tree x39 1).bind fun x40 =>
(aLoad false 1 s x40).bind fun x41 =>
(aLoad true 3 s t7).bind fun x42 =>
(C n_itree_cut [x41, x42] s.H).bind fun r43 =>
(aNil t0).bind fun x44 =>
(aFieldAddr PP t_itree_Tree x44 1).bind fun x45 =>
(aStore 1 (AS.mk r43.2.1 (joinEsc s.esc r43.2.2)) x45 r43.1).bind fun s46 =>
((aNil t0).bind fun x47 =>
(aFieldAddr PP t_itree_Tree x47 1).bind fun x48 =>
(aLoad false 1 s46 x48).bind fun x49 =>
(aBin PP .neq t_P_itree_node (.tmp 60) (.const (.pointer none)) x49 (.pointer none)).bind fun x50 =>
bcase x50 (
(aNil t0).bind fun x51 =>
(aFieldAddr PP t_itree_Tree x51 1).bind fun x52 =>
(aLoad false 1 s46 x52).bind fun x53 =>
(aNil x53).bind fun x54 =>
(aFieldAddr PP t_itree_node x54 1).bind fun x55 =>
(aStore 1 s46 x55 (.bool false)).bind fun s56 =>
some (AEx.normal, [t0], s56)) (
some (AEx.normal, [t0], s46))).bind fun r57 =>
match r57.1 with
| .normal => j4 C L n0 ((r57.2.1.getD 0 unk)) r57.2.2
| .exit i => none
| .ret => fin PP true n0 [unk] r57.2.2
noncomputable def j1 (C : Am.Callee) (L : Loops) (n0 : Nat) (t0 t7 : Value) (s : AS) : Option (Value × List Blk × Option Nat) :=
(((aNil t0).bind fun x13 =>
(aFieldAddr PP t_itree_Tree x13 1).bind fun x14 =>
(aLoad false 1 s x14).bind fun x15 =>
(aNil x15).bind fun x16 =>
(aFieldAddr PP t_itree_node x16 3).bind fun x17 =>
(aIndexAddr PP t_A2_P_itree_node x17 (.int .i64 0)).bind fun x18 =>
(aLoad false 1 s x18).bind fun x19 =>
(C n_itree_isRed [x19] s.H).bind fun r20 =>
(aUn PP .not r20.1).bind fun x21 =>
bcase x21 (
(aNil t0).bind fun x22 =>
(aFieldAddr PP t_itree_Tree x22 1).bind fun x23 =>
(aLoad false 1 (AS.mk r20.2.1 (joinEsc s.esc r20.2.2)) x23).bind fun x24 =>
(aNil x24).bind fun x25 =>
(aFieldAddr PP t_itree_node x25 3).bind fun x26 =>
(aIndexAddr PP t_A2_P_itree_node x26 (.int .i64 1)).bind fun x27 =>
(aLoad false 1 (AS.mk r20.2.1 (joinEsc s.esc r20.2.2)) x27).bind fun x28 =>
(C n_itree_isRed [x28] (AS.mk r20.2.1 (joinEsc s.esc r20.2.2)).H).bind fun r29 =>
(aUn PP .not r29.1).bind fun x30 =>
some (AEx.normal, [t0, t7, x30], AS.mk r29.2.1 (joinEsc (AS.mk r20.2.1 (joinEsc s.esc r20.2.2)).esc r29.2.2))) (
some (AEx.normal, [t0, t7, .bool false], AS.mk r20.2.1 (joinEsc s.esc r20.2.2)))).bind fun r31 =>
match r31.1 with
| .normal => j2 C L n0 ((r31.2.1.getD 0 unk)) ((r31.2.1.getD 1 unk)) ((r31.2.1.getD 2 unk)) r31.2.2
| .exit i => some (AEx.exit i, [(r31.2.1.getD 0 unk), (r31.2.1.getD 1 unk)], r31.2.2)
| .ret => some (AEx.ret, [(r31.2.1.getD 0 unk), (r31.2.1.getD 1 unk)], r31.2.2)).bind fun r38 =>
match r38.1 with
| .normal => j3 C L n0 ((r38.2.1.getD 0 unk)) ((r38.2.1.getD 1 unk)) r38.2.2
| .exit i => none
| .ret => fin PP true n0 [unk] r38.2.2
noncomputable def sh (C : Am.Callee) (L : Loops) (n0 : Nat) (t0 t1 t2 : Value) (s : AS) : Option (Value × List Blk × Option Nat) :=
(aBox t_api_Span t1 s).bind fun r1 =>
(aLoad true 2 r1.2 r1.1).bind fun x2 =>
(aBuild PP t_itree_entry [(0, x2), (1, t2)]).bind fun x3 =>
(aBox t_itree_entry ((zeroP PP t_itree_entry).getD unk) r1.2).bind fun r4 =>
(aStore 3 r4.2 r4.1 x3).bind fun s5 =>
(((C n_P_itree_Tree_is [t0] s5.H).bind fun r6 =>
(aUn PP .not r6.1).bind fun x7 =>
bcase x7 (
some (AEx.normal, [t0, r4.1, .bool true], AS.mk r6.2.1 (joinEsc s5.esc r6.2.2))) (
(aLoad true 3 (AS.mk r6.2.1 (joinEsc s5.esc r6.2.2)) r4.1).bind fun x8 =>
(C n_P_itree_Tree_has [t0, x8] (AS.mk r6.2.1 (joinEsc s5.esc r6.2.2)).H).bind fun r9 =>
(aUn PP .not r9.1).bind fun x10 =>
some (AEx.normal, [t0, r4.1, x10], AS.mk r9.2.1 (joinEsc (AS.mk r6.2.1 (joinEsc s5.esc r6.2.2)).esc r9.2.2)))).bind fun r11 =>
match r11.1 with
| .normal => j0 C L n0 ((r11.2.1.getD 0 unk)) ((r11.2.1.getD 1 unk)) ((r11.2.1.getD 2 unk)) r11.2.2
| .exit i => some (AEx.exit i, [(r11.2.1.getD 0 unk), unk, (r11.2.1.getD 1 unk)], r11.2.2)
| .ret => some (AEx.ret, [(r11.2.1.getD 0 unk), unk, (r11.2.1.getD 1 unk)], r11.2.2)).bind fun r12 =>
match r12.1 with
| .normal => j1 C L n0 ((r12.2.1.getD 0 unk)) ((r12.2.1.getD 2 unk)) r12.2.2
| .exit i => none
| .ret => fin PP true n0 [(r12.2.1.getD 1 unk)] r12.2.2
def T : Tab := ⟨fun i => none, fun i => none, true, fun i => if i = 3 then some [0, 7, 19] else if i = 4 then some [0, 6, 7] else if i = 5 then some [0, 7, 41] else if i = 6 then some [0, 7] else if i = 9 then some [0] else none, fun _ => false, false, false, fun _ => false⟩
end P_itree_Tree_Delete
namespace twainlaw14_has
noncomputable def loop2 (C : Am.Callee) (L : Loops) (n0 : Nat) (t1 t7 t8 t9 : Value) (s : AS) : Option ((List Value × AS) ⊕ (AEx × List Value × AS)) :=
(aBin PP .lss t_int (.tmp 9) (.tmp 8) t9 t8).bind fun x2 =>
bcase x2 (
(aIndexAddr PP t_L_int t7 t9).bind fun x3 =>
(aLoad false 1 s x3).bind fun x4 =>
(aBin PP .eql t_int (.tmp 13) (.tmp 14) x4 t1).bind fun x5 =>
bcase x5 (
some (.inr (.ret, [.bool true], s))) (
(aBin PP .add t_int (.tmp 9) (.const (.int .i64 1)) t9 (.int .i64 1)).bind fun x6 =>
some (.inl ([t1, t7, t8, x6], s)))) (
some (.inr (.exit 0, [unk], s)))
noncomputable def loop2s (C : Am.Callee) (L : Loops) (n0 : Nat) : List Value × AS → Option ((List Value × AS) ⊕ (AEx × List Value × AS)) := fun s => loop2 C L n0 (s.1.getD 0 unk) (s.1.getD 1 unk) (s.1.getD 2 unk) (s.1.getD 3 unk) s.2
noncomputable def j2 (C : Am.Callee) (L : Loops) (n0 : Nat) (s : AS) : Option (Value × List Blk × Option Nat) :=
fin PP false n0 [.bool false] s
noncomputable def sh (C : Am.Callee) (L : Loops) (n0 : Nat) (t0 t1 : Value) (s : AS) : Option (Value × List Blk × Option Nat) :=
((aLen PP t_L_int t0 s).bind fun x1 =>
(L n0 (loop2s C L n0) ([t1, t0, x1, .int .i64 0], s)).bind fun r7 =>
match r7.1 with
| .normal => some (AEx.normal, [(r7.2.1.getD 0 unk)], r7.2.2)
| .exit i => if i = 0 then some (AEx.normal, [(r7.2.1.getD 0 unk)], r7.2.2) else some (AEx.exit i, [(r7.2.1.getD 0 unk)], r7.2.2)
| .ret => some (AEx.ret, [(r7.2.1.getD 0 unk)], r7.2.2)).bind fun r8 =>
match r8.1 with
| .normal => j2 C L n0  r8.2.2
| .exit i => none
| .ret => fin PP false n0 [(r8.2.1.getD 0 unk)] r8.2.2
def T : Tab := ⟨fun i => if i = 2 then some [1, 7, 8, 9] else none, fun i => if i = 2 then some [4] else none, false, fun i => if i = 7 then some [4] else none, fun _ => false, false, false, fun _ => false⟩
end twainlaw14_has
namespace P_itree_Tree_Overlaps
noncomputable def j0 (C : Am.Callee) (L : Loops) (n0 : Nat) (t0 t3 t5 t13 : Value) (s : AS) : Option (AEx × List Value × AS) :=
bcase t13 (
some (AEx.ret, [t0, t3, .slice none 0 0, t5], s)) (
some (AEx.normal, [t0, t3, unk, t5], s))
noncomputable def j1 (C : Am.Callee) (L : Loops) (n0 : Nat) (t0 t3 t5 : Value) (s : AS) : Option (Value × List Blk × Option Nat) :=
(aNil t0).bind fun x10 =>
(aFieldAddr PP t_itree_Tree x10 1).bind fun x11 =>
(aLoad false 1 s x11).bind fun x12 =>
(aLoad true 2 s t3).bind fun x13 =>
(C n_itree_walk [x12, x13, .func (.func n_P_itree_Tree_Overlaps_1) (#[]) (#[t5])] s.H).bind fun r14 =>
(aLoad false 1 (AS.mk r14.2.1 (joinEsc s.esc r14.2.2)) t5).bind fun x15 =>
fin PP false n0 [x15] (AS.mk r14.2.1 (joinEsc s.esc r14.2.2))
noncomputable def sh (C : Am.Callee) (L : Loops) (n0 : Nat) (t0 t1 : Value) (s : AS) : Option (Value × List Blk × Option Nat) :=
(aBox t_api_Span t1 s).bind fun r1 =>
(aBox t_L_int ((zeroP PP t_L_int).getD unk) r1.2).bind fun r2 =>
(((C n_P_itree_Tree_is [t0] r2.2.H).bind fun r3 =>
(aUn PP .not r3.1).bind fun x4 =>
bcase x4 (
some (AEx.normal, [t0, r1.1, r2.1, .bool true], AS.mk r3.2.1 (joinEsc r2.2.esc r3.2.2))) (
(aLoad true 2 (AS.mk r3.2.1 (joinEsc r2.2.esc r3.2.2)) r1.1).bind fun x5 =>
(C n_span_Plain [x5] (AS.mk r3.2.1 (joinEsc r2.2.esc r3.2.2)).H).bind fun r6 =>
(aUn PP .not r6.1).bind fun x7 =>
some (AEx.normal, [t0, r1.1, r2.1, x7], AS.mk r6.2.1 (joinEsc (AS.mk r3.2.1 (joinEsc r2.2.esc r3.2.2)).esc r6.2.2)))).bind fun r8 =>
match r8.1 with
| .normal => j0 C L n0 ((r8.2.1.getD 0 unk)) ((r8.2.1.getD 1 unk)) ((r8.2.1.getD 2 unk)) ((r8.2.1.getD 3 unk)) r8.2.2
| .exit i => some (AEx.exit i, [(r8.2.1.getD 0 unk), (r8.2.1.getD 1 unk), unk, (r8.2.1.getD 2 unk)], r8.2.2)
| .ret => some (AEx.ret, [(r8.2.1.getD 0 unk), (r8.2.1.getD 1 unk), unk, (r8.2.1.getD 2 unk)], r8.2.2)).bind fun r9 =>
match r9.1 with
| .normal => j1 C L n0 ((r9.2.1.getD 0 unk)) ((r9.2.1.getD 1 unk)) ((r9.2.1.getD 3 unk)) r9.2.2
| .exit i => none
| .ret => fin PP false n0 [(r9.2.1.getD 2 unk)] r9.2.2
def T : Tab := ⟨fun i => none, fun i => none, false, fun i => if i = 3 then some [0, 3, 5, 13] else if i = 4 then some [0, 3, 4, 5] else none, fun _ => false, false, false, fun _ => false⟩
end P_itree_Tree_Overlaps
namespace P_itree_Tree_Any
noncomputable def sh (C : Am.Callee) (L : Loops) (n0 : Nat) (t0 t1 : Value) (s : AS) : Option (Value × List Blk × Option Nat) :=
(aBox t_api_Span t1 s).bind fun r1 =>
(C n_P_itree_Tree_is [t0] r1.2.H).bind fun r2 =>
bcase r2.1 (
(aLoad true 2 (AS.mk r2.2.1 (joinEsc r1.2.esc r2.2.2)) r1.1).bind fun x3 =>
(C n_span_Plain [x3] (AS.mk r2.2.1 (joinEsc r1.2.esc r2.2.2)).H).bind fun r4 =>
bcase r4.1 (
(aNil t0).bind fun x5 =>
(aFieldAddr PP t_itree_Tree x5 1).bind fun x6 =>
(aLoad false 1 (AS.mk r4.2.1 (joinEsc (AS.mk r2.2.1 (joinEsc r1.2.esc r2.2.2)).esc r4.2.2)) x6).bind fun x7 =>
(aLoad true 2 (AS.mk r4.2.1 (joinEsc (AS.mk r2.2.1 (joinEsc r1.2.esc r2.2.2)).esc r4.2.2)) r1.1).bind fun x8 =>
(C n_itree_walk [x7, x8, .func (.func n_P_itree_Tree_Any_1) #[] #[]] (AS.mk r4.2.1 (joinEsc (AS.mk r2.2.1 (joinEsc r1.2.esc r2.2.2)).esc r4.2.2)).H).bind fun r9 =>
(aUn PP .not r9.1).bind fun x10 =>
fin PP false n0 [x10] (AS.mk r9.2.1 (joinEsc (AS.mk r4.2.1 (joinEsc (AS.mk r2.2.1 (joinEsc r1.2.esc r2.2.2)).esc r4.2.2)).esc r9.2.2))) (
fin PP false n0 [.bool false] (AS.mk r4.2.1 (joinEsc (AS.mk r2.2.1 (joinEsc r1.2.esc r2.2.2)).esc r4.2.2)))) (
fin PP false n0 [.bool false] (AS.mk r2.2.1 (joinEsc r1.2.esc r2.2.2)))
def T : Tab := ⟨fun i => none, fun i => none, false, fun i => none, fun _ => false, false, false, fun _ => false⟩
end P_itree_Tree_Any
namespace P_twainref14_Tree_Delete
noncomputable def j0 (C : Am.Callee) (L : Loops) (n0 : Nat) (t0 t8 t33 : Value) (s : AS) : Option (AEx × List Value × AS) :=
bcase t33 (
some (AEx.ret, [t0, .bool false, t8], s)) (
some (AEx.normal, [t0, unk, t8], s))
noncomputable def j1 (C : Am.Callee) (L : Loops) (n0 : Nat) (t0 t8 : Value) (s : AS) : Option (Value × List Blk × Option Nat) :=
(bsl PP t_L_twainref14_Item 0 [] [] s).bind fun r22 =>
(aNil t0).bind fun x23 =>
(aFieldAddr PP t_twainref14_Tree x23 0).bind fun x24 =>
(aLoad false 1 r22.2 x24).bind fun x25 =>
(aSlice PP t_L_twainref14_Item x25 none (some t8) none r22.2).bind fun x26 =>
eBuiltin PP .append #[t_L_twainref14_Item, t_L_twainref14_Item] [r22.1, x26] r22.2 fun x27 s28 =>
(aNil t0).bind fun x29 =>
(aFieldAddr PP t_twainref14_Tree x29 0).bind fun x30 =>
(aLoad false 1 s28 x30).bind fun x31 =>
(aBin PP .add t_int (.tmp 47) (.const (.int .i64 1)) t8 (.int .i64 1)).bind fun x32 =>
(aSlice PP t_L_twainref14_Item x31 (some x32) none none s28).bind fun x33 =>
eBuiltin PP .append #[t_L_twainref14_Item, t_L_twainref14_Item] [x27, x33] s28 fun x34 s35 =>
(aNil t0).bind fun x36 =>
(aFieldAddr PP t_twainref14_Tree x36 0).bind fun x37 =>
(aStore 1 s35 x37 x34).bind fun s38 =>
fin PP false n0 [.bool true] s38
noncomputable def sh (C : Am.Callee) (L : Loops) (n0 : Nat) (t0 t1 t2 : Value) (s : AS) : Option (Value × List Blk × Option Nat) :=
(aBox t_api_Span t1 s).bind fun r1 =>
(aLoad true 2 r1.2 r1.1).bind fun x2 =>
(aBuild PP t_twainref14_Item [(0, x2), (1, t2)]).bind fun x3 =>
(aBox t_twainref14_Item ((zeroP PP t_twainref14_Item).getD unk) r1.2).bind fun r4 =>
(aStore 3 r4.2 r4.1 x3).bind fun s5 =>
(aLoad true 3 s5 r4.1).bind fun x6 =>
(C n_P_twainref14_Tree_place [t0, x6] s5.H).bind fun r7 =>
(((aNil t0).bind fun x8 =>
(aFieldAddr PP t_twainref14_Tree x8 0).bind fun x9 =>
(aLoad false 1 (AS.mk r7.2.1 (joinEsc s5.esc r7.2.2)) x9).bind fun x10 =>
(aLen PP t_L_twainref14_Item x10 (AS.mk r7.2.1 (joinEsc s5.esc r7.2.2))).bind fun x11 =>
(aBin PP .geq t_int (.tmp 16) (.tmp 21) r7.1 x11).bind fun x12 =>
bcase x12 (
some (AEx.normal, [t0, r7.1, .bool true], AS.mk r7.2.1 (joinEsc s5.esc r7.2.2))) (
(aNil t0).bind fun x13 =>
(aFieldAddr PP t_twainref14_Tree x13 0).bind fun x14 =>
(aLoad false 1 (AS.mk r7.2.1 (joinEsc s5.esc r7.2.2)) x14).bind fun x15 =>
(aIndexAddr PP t_L_twainref14_Item x15 r7.1).bind fun x16 =>
(aLoad true 3 (AS.mk r7.2.1 (joinEsc s5.esc r7.2.2)) x16).bind fun x17 =>
(aLoad true 3 (AS.mk r7.2.1 (joinEsc s5.esc r7.2.2)) r4.1).bind fun x18 =>
(aBin PP .neq t_twainref14_Item (.tmp 30) (.tmp 31) x17 x18).bind fun x19 =>
some (AEx.normal, [t0, r7.1, x19], AS.mk r7.2.1 (joinEsc s5.esc r7.2.2)))).bind fun r20 =>
match r20.1 with
| .normal => j0 C L n0 ((r20.2.1.getD 0 unk)) ((r20.2.1.getD 1 unk)) ((r20.2.1.getD 2 unk)) r20.2.2
| .exit i => some (AEx.exit i, [(r20.2.1.getD 0 unk), unk, (r20.2.1.getD 1 unk)], r20.2.2)
| .ret => some (AEx.ret, [(r20.2.1.getD 0 unk), unk, (r20.2.1.getD 1 unk)], r20.2.2)).bind fun r21 =>
match r21.1 with
| .normal => j1 C L n0 ((r21.2.1.getD 0 unk)) ((r21.2.1.getD 2 unk)) r21.2.2
| .exit i => none
| .ret => fin PP false n0 [(r21.2.1.getD 1 unk)] r21.2.2
def T : Tab := ⟨fun i => none, fun i => none, false, fun i => if i = 4 then some [0, 8, 33] else if i = 5 then some [0, 6, 8] else none, fun _ => false, false, false, fun _ => false⟩
end P_twainref14_Tree_Delete
namespace P_twainref14_Tree_Insert
noncomputable def j0 (C : Am.Callee) (L : Loops) (n0 : Nat) (t0 t7 t8 t43 : Value) (s : AS) : Option (AEx × List Value × AS) :=
bcase t43 (
some (AEx.ret, [t0, .bool false, t7, t8], s)) (
some (AEx.normal, [t0, unk, t7, t8], s))
noncomputable def j1 (C : Am.Callee) (L : Loops) (n0 : Nat) (t0 t7 t8 : Value) (s : AS) : Option (Value × List Blk × Option Nat) :=
(bsl PP t_L_twainref14_Item 0 [] [] s).bind fun r28 =>
(aNil t0).bind fun x29 =>
(aFieldAddr PP t_twainref14_Tree x29 0).bind fun x30 =>
(aLoad false 1 r28.2 x30).bind fun x31 =>
(aSlice PP t_L_twainref14_Item x31 none (some t8) none r28.2).bind fun x32 =>
eBuiltin PP .append #[t_L_twainref14_Item, t_L_twainref14_Item] [r28.1, x32] r28.2 fun x33 s34 =>
(aLoad true 3 s34 t7).bind fun x35 =>
(bsl PP t_L_twainref14_Item 1 [0] [x35] s34).bind fun r36 =>
eBuiltin PP .append #[t_L_twainref14_Item, t_L_twainref14_Item] [x33, r36.1] r36.2 fun x37 s38 =>
(aNil t0).bind fun x39 =>
(aFieldAddr PP t_twainref14_Tree x39 0).bind fun x40 =>
(aLoad false 1 s38 x40).bind fun x41 =>
(aSlice PP t_L_twainref14_Item x41 (some t8) none none s38).bind fun x42 =>
eBuiltin PP .append #[t_L_twainref14_Item, t_L_twainref14_Item] [x37, x42] s38 fun x43 s44 =>
(aNil t0).bind fun x45 =>
(aFieldAddr PP t_twainref14_Tree x45 0).bind fun x46 =>
(aStore 1 s44 x46 x43).bind fun s47 =>
fin PP false n0 [.bool true] s47
noncomputable def sh (C : Am.Callee) (L : Loops) (n0 : Nat) (t0 t1 t2 : Value) (s : AS) : Option (Value × List Blk × Option Nat) :=
(aBox t_api_Span t1 s).bind fun r1 =>
(aLoad true 2 r1.2 r1.1).bind fun x2 =>
(aBuild PP t_twainref14_Item [(0, x2), (1, t2)]).bind fun x3 =>
(aBox t_twainref14_Item ((zeroP PP t_twainref14_Item).getD unk) r1.2).bind fun r4 =>
(aStore 3 r4.2 r4.1 x3).bind fun s5 =>
(aLoad true 3 s5 r4.1).bind fun x6 =>
(C n_P_twainref14_Tree_place [t0, x6] s5.H).bind fun r7 =>
(((aLoad true 2 (AS.mk r7.2.1 (joinEsc s5.esc r7.2.2)) r1.1).bind fun x8 =>
(C n_twainref04_Plain [x8] (AS.mk r7.2.1 (joinEsc s5.esc r7.2.2)).H).bind fun r9 =>
(aUn PP .not r9.1).bind fun x10 =>
bcase x10 (
some (AEx.normal, [t0, r4.1, r7.1, .bool true], AS.mk r9.2.1 (joinEsc (AS.mk r7.2.1 (joinEsc s5.esc r7.2.2)).esc r9.2.2))) (
(aFieldAddr PP t_api_Span r1.1 1).bind fun x11 =>
(aLoad false 1 (AS.mk r9.2.1 (joinEsc (AS.mk r7.2.1 (joinEsc s5.esc r7.2.2)).esc r9.2.2)) x11).bind fun x12 =>
(aBin PP .lss t_int (.tmp 21) (.const (.int .i64 1)) x12 (.int .i64 1)).bind fun x13 =>
bcase x13 (
some (AEx.normal, [t0, r4.1, r7.1, .bool true], AS.mk r9.2.1 (joinEsc (AS.mk r7.2.1 (joinEsc s5.esc r7.2.2)).esc r9.2.2))) (
(aNil t0).bind fun x14 =>
(aFieldAddr PP t_twainref14_Tree x14 0).bind fun x15 =>
(aLoad false 1 (AS.mk r9.2.1 (joinEsc (AS.mk r7.2.1 (joinEsc s5.esc r7.2.2)).esc r9.2.2)) x15).bind fun x16 =>
(aLen PP t_L_twainref14_Item x16 (AS.mk r9.2.1 (joinEsc (AS.mk r7.2.1 (joinEsc s5.esc r7.2.2)).esc r9.2.2))).bind fun x17 =>
(aBin PP .lss t_int (.tmp 25) (.tmp 30) r7.1 x17).bind fun x18 =>
bcase x18 (
(aNil t0).bind fun x19 =>
(aFieldAddr PP t_twainref14_Tree x19 0).bind fun x20 =>
(aLoad false 1 (AS.mk r9.2.1 (joinEsc (AS.mk r7.2.1 (joinEsc s5.esc r7.2.2)).esc r9.2.2)) x20).bind fun x21 =>
(aIndexAddr PP t_L_twainref14_Item x21 r7.1).bind fun x22 =>
(aLoad true 3 (AS.mk r9.2.1 (joinEsc (AS.mk r7.2.1 (joinEsc s5.esc r7.2.2)).esc r9.2.2)) x22).bind fun x23 =>
(aLoad true 3 (AS.mk r9.2.1 (joinEsc (AS.mk r7.2.1 (joinEsc s5.esc r7.2.2)).esc r9.2.2)) r4.1).bind fun x24 =>
(aBin PP .eql t_twainref14_Item (.tmp 39) (.tmp 40) x23 x24).bind fun x25 =>
some (AEx.normal, [t0, r4.1, r7.1, x25], AS.mk r9.2.1 (joinEsc (AS.mk r7.2.1 (joinEsc s5.esc r7.2.2)).esc r9.2.2))) (
some (AEx.normal, [t0, r4.1, r7.1, .bool false], AS.mk r9.2.1 (joinEsc (AS.mk r7.2.1 (joinEsc s5.esc r7.2.2)).esc r9.2.2)))))).bind fun r26 =>
match r26.1 with
| .normal => j0 C L n0 ((r26.2.1.getD 0 unk)) ((r26.2.1.getD 1 unk)) ((r26.2.1.getD 2 unk)) ((r26.2.1.getD 3 unk)) r26.2.2
| .exit i => some (AEx.exit i, [(r26.2.1.getD 0 unk), unk, (r26.2.1.getD 1 unk), (r26.2.1.getD 2 unk)], r26.2.2)
| .ret => some (AEx.ret, [(r26.2.1.getD 0 unk), unk, (r26.2.1.getD 1 unk), (r26.2.1.getD 2 unk)], r26.2.2)).bind fun r27 =>
match r27.1 with
| .normal => j1 C L n0 ((r27.2.1.getD 0 unk)) ((r27.2.1.getD 2 unk)) ((r27.2.1.getD 3 unk)) r27.2.2
| .exit i => none
| .ret => fin PP false n0 [(r27.2.1.getD 1 unk)] r27.2.2
def T : Tab := ⟨fun i => none, fun i => none, false, fun i => if i = 4 then some [0, 7, 8, 43] else if i = 5 then some [0, 6, 7, 8] else none, fun _ => false, false, false, fun _ => false⟩
end P_twainref14_Tree_Insert
namespace P_twainref14_Tree_Overlaps
noncomputable def j1 (C : Am.Callee) (L : Loops) (n0 : Nat) (t3 t5 t11 t12 t13 : Value) (s : AS) : Option ((List Value × AS) ⊕ (AEx × List Value × AS)) :=
(aBin PP .add t_int (.tmp 13) (.const (.int .i64 1)) t13 (.int .i64 1)).bind fun x21 =>
some (.inl ([t3, t5, t11, t12, x21], s))
noncomputable def loop3 (C : Am.Callee) (L : Loops) (n0 : Nat) (t3 t5 t11 t12 t13 : Value) (s : AS) : Option ((List Value × AS) ⊕ (AEx × List Value × AS)) :=
(aBin PP .lss t_int (.tmp 13) (.tmp 12) t13 t12).bind fun x6 =>
bcase x6 (
((aIndexAddr PP t_L_twainref14_Item t11 t13).bind fun x7 =>
(aLoad true 3 s x7).bind fun x8 =>
(aBox t_twainref14_Item ((zeroP PP t_twainref14_Item).getD unk) s).bind fun r9 =>
(aStore 3 r9.2 r9.1 x8).bind fun s10 =>
(aFieldAddr PP t_twainref14_Item r9.1 0).bind fun x11 =>
(aLoad true 2 s10 x11).bind fun x12 =>
(aLoad true 2 s10 t3).bind fun x13 =>
(C n_twainref04_Overlap [x12, x13] s10.H).bind fun r14 =>
bcase r14.1 (
(aFieldAddr PP t_twainref14_Item r9.1 1).bind fun x15 =>
(aLoad false 1 (AS.mk r14.2.1 (joinEsc s10.esc r14.2.2)) x15).bind fun x16 =>
(bsl PP t_L_int 1 [0] [x16] (AS.mk r14.2.1 (joinEsc s10.esc r14.2.2))).bind fun r17 =>
eBuiltin PP .append #[t_L_int, t_L_int] [t5, r17.1] r17.2 fun x18 s19 =>
some (AEx.normal, [t3, x18, t11, t12, t13], s19)) (
some (AEx.normal, [t3, t5, t11, t12, t13], AS.mk r14.2.1 (joinEsc s10.esc r14.2.2)))).bind fun r20 =>
match r20.1 with
| .normal => j1 C L n0 ((r20.2.1.getD 0 unk)) ((r20.2.1.getD 1 unk)) ((r20.2.1.getD 2 unk)) ((r20.2.1.getD 3 unk)) ((r20.2.1.getD 4 unk)) r20.2.2
| .exit i => some (.inr (.exit i, [(r20.2.1.getD 1 unk)], r20.2.2))
| .ret => some (.inr (.ret, [(r20.2.1.getD 1 unk)], r20.2.2))) (
some (.inr (.exit 0, [t5], s)))
noncomputable def loop3s (C : Am.Callee) (L : Loops) (n0 : Nat) : List Value × AS → Option ((List Value × AS) ⊕ (AEx × List Value × AS)) := fun s => loop3 C L n0 (s.1.getD 0 unk) (s.1.getD 1 unk) (s.1.getD 2 unk) (s.1.getD 3 unk) (s.1.getD 4 unk) s.2
noncomputable def j3 (C : Am.Callee) (L : Loops) (n0 : Nat) (t5 : Value) (s : AS) : Option (Value × List Blk × Option Nat) :=
fin PP false n0 [t5] s
noncomputable def sh (C : Am.Callee) (L : Loops) (n0 : Nat) (t0 t1 : Value) (s : AS) : Option (Value × List Blk × Option Nat) :=
(aBox t_api_Span t1 s).bind fun r1 =>
((aNil t0).bind fun x2 =>
(aFieldAddr PP t_twainref14_Tree x2 0).bind fun x3 =>
(aLoad false 1 r1.2 x3).bind fun x4 =>
(aLen PP t_L_twainref14_Item x4 r1.2).bind fun x5 =>
(L n0 (loop3s C L n0) ([r1.1, .slice none 0 0, x4, x5, .int .i64 0], r1.2)).bind fun r22 =>
match r22.1 with
| .normal => some (AEx.normal, [(r22.2.1.getD 0 unk)], r22.2.2)
| .exit i => if i = 0 then some (AEx.normal, [(r22.2.1.getD 0 unk)], r22.2.2) else some (AEx.exit i, [(r22.2.1.getD 0 unk)], r22.2.2)
| .ret => some (AEx.ret, [(r22.2.1.getD 0 unk)], r22.2.2)).bind fun r23 =>
match r23.1 with
| .normal => j3 C L n0 ((r23.2.1.getD 0 unk)) r23.2.2
| .exit i => none
| .ret => fin PP false n0 [unk] r23.2.2
def T : Tab := ⟨fun i => if i = 3 then some [3, 5, 11, 12, 13] else none, fun i => if i = 3 then some [5] else none, false, fun i => if i = 7 then some [3, 5, 11, 12, 13] else if i = 8 then some [5] else none, fun _ => false, false, false, fun _ => false⟩
end P_twainref14_Tree_Overlaps
namespace twainref01_Ints
noncomputable def loop4 (C : Am.Callee) (L : Loops) (n0 : Nat) (t0 t1 t12 t13 : Value) (s : AS) : Option ((List Value × AS) ⊕ (AEx × List Value × AS)) :=
(aBin PP .lss t_int (.tmp 13) (.tmp 12) t13 t12).bind fun x5 =>
bcase x5 (
(aIndexAddr PP t_L_int t0 t13).bind fun x6 =>
(aLoad false 1 s x6).bind fun x7 =>
(aIndexAddr PP t_L_int t1 t13).bind fun x8 =>
(aLoad false 1 s x8).bind fun x9 =>
(aBin PP .neq t_int (.tmp 19) (.tmp 23) x7 x9).bind fun x10 =>
bcase x10 (
some (.inr (.ret, [.bool false], s))) (
(aBin PP .add t_int (.tmp 13) (.const (.int .i64 1)) t13 (.int .i64 1)).bind fun x11 =>
some (.inl ([t0, t1, t12, x11], s)))) (
some (.inr (.exit 0, [unk], s)))
noncomputable def loop4s (C : Am.Callee) (L : Loops) (n0 : Nat) : List Value × AS → Option ((List Value × AS) ⊕ (AEx × List Value × AS)) := fun s => loop4 C L n0 (s.1.getD 0 unk) (s.1.getD 1 unk) (s.1.getD 2 unk) (s.1.getD 3 unk) s.2
noncomputable def j2 (C : Am.Callee) (L : Loops) (n0 : Nat) (s : AS) : Option (Value × List Blk × Option Nat) :=
fin PP false n0 [.bool true] s
noncomputable def sh (C : Am.Callee) (L : Loops) (n0 : Nat) (t0 t1 : Value) (s : AS) : Option (Value × List Blk × Option Nat) :=
(aLen PP t_L_int t0 s).bind fun x1 =>
(aLen PP t_L_int t1 s).bind fun x2 =>
(aBin PP .neq t_int (.tmp 7) (.tmp 9) x1 x2).bind fun x3 =>
bcase x3 (
fin PP false n0 [.bool false] s) (
((aLen PP t_L_int t0 s).bind fun x4 =>
(L n0 (loop4s C L n0) ([t0, t1, x4, .int .i64 0], s)).bind fun r12 =>
match r12.1 with
| .normal => some (AEx.normal, [(r12.2.1.getD 0 unk)], r12.2.2)
| .exit i => if i = 0 then some (AEx.normal, [(r12.2.1.getD 0 unk)], r12.2.2) else some (AEx.exit i, [(r12.2.1.getD 0 unk)], r12.2.2)
| .ret => some (AEx.ret, [(r12.2.1.getD 0 unk)], r12.2.2)).bind fun r13 =>
match r13.1 with
| .normal => j2 C L n0  r13.2.2
| .exit i => none
| .ret => fin PP false n0 [(r13.2.1.getD 0 unk)] r13.2.2)
def T : Tab := ⟨fun i => if i = 4 then some [0, 1, 12, 13] else none, fun i => if i = 4 then some [4] else none, false, fun i => if i = 9 then some [4] else none, fun _ => false, false, false, fun _ => false⟩
end twainref01_Ints
namespace P_itree_Tree_Ids
noncomputable def sh (C : Am.Callee) (L : Loops) (n0 : Nat) (t0 : Value) (s : AS) : Option (Value × List Blk × Option Nat) :=
(C n_P_itree_Tree_is [t0] s.H).bind fun r1 =>
(aUn PP .not r1.1).bind fun x2 =>
bcase x2 (
fin PP false n0 [.slice none 0 0] (AS.mk r1.2.1 (joinEsc s.esc r1.2.2))) (
(aNil t0).bind fun x3 =>
(aFieldAddr PP t_itree_Tree x3 1).bind fun x4 =>
(aLoad false 1 (AS.mk r1.2.1 (joinEsc s.esc r1.2.2)) x4).bind fun x5 =>
(C n_itree_ids [x5, .slice none 0 0] (AS.mk r1.2.1 (joinEsc s.esc r1.2.2)).H).bind fun r6 =>
fin PP false n0 [r6.1] (AS.mk r6.2.1 (joinEsc (AS.mk r1.2.1 (joinEsc s.esc r1.2.2)).esc r6.2.2)))
def T : Tab := ⟨fun i => none, fun i => none, false, fun i => none, fun _ => false, false, false, fun _ => false⟩
end P_itree_Tree_Ids
namespace P_twainref14_Tree_Ids
noncomputable def loop3 (C : Am.Callee) (L : Loops) (n0 : Nat) (t3 t9 t10 t11 : Value) (s : AS) : Option ((List Value × AS) ⊕ (AEx × List Value × AS)) :=
(aBin PP .lss t_int (.tmp 11) (.tmp 10) t11 t10).bind fun x5 =>
bcase x5 (
(aIndexAddr PP t_L_twainref14_Item t9 t11).bind fun x6 =>
(aLoad true 3 s x6).bind fun x7 =>
(aBox t_twainref14_Item ((zeroP PP t_twainref14_Item).getD unk) s).bind fun r8 =>
(aStore 3 r8.2 r8.1 x7).bind fun s9 =>
(aFieldAddr PP t_twainref14_Item r8.1 1).bind fun x10 =>
(aLoad false 1 s9 x10).bind fun x11 =>
(bsl PP t_L_int 1 [0] [x11] s9).bind fun r12 =>
eBuiltin PP .append #[t_L_int, t_L_int] [t3, r12.1] r12.2 fun x13 s14 =>
(aBin PP .add t_int (.tmp 11) (.const (.int .i64 1)) t11 (.int .i64 1)).bind fun x15 =>
some (.inl ([x13, t9, t10, x15], s14))) (
some (.inr (.exit 0, [t3], s)))
noncomputable def loop3s (C : Am.Callee) (L : Loops) (n0 : Nat) : List Value × AS → Option ((List Value × AS) ⊕ (AEx × List Value × AS)) := fun s => loop3 C L n0 (s.1.getD 0 unk) (s.1.getD 1 unk) (s.1.getD 2 unk) (s.1.getD 3 unk) s.2
noncomputable def j2 (C : Am.Callee) (L : Loops) (n0 : Nat) (t3 : Value) (s : AS) : Option (Value × List Blk × Option Nat) :=
fin PP false n0 [t3] s
noncomputable def sh (C : Am.Callee) (L : Loops) (n0 : Nat) (t0 : Value) (s : AS) : Option (Value × List Blk × Option Nat) :=
((aNil t0).bind fun x1 =>
(aFieldAddr PP t_twainref14_Tree x1 0).bind fun x2 =>
(aLoad false 1 s x2).bind fun x3 =>
(aLen PP t_L_twainref14_Item x3 s).bind fun x4 =>
(L n0 (loop3s C L n0) ([.slice none 0 0, x3, x4, .int .i64 0], s)).bind fun r16 =>
match r16.1 with
| .normal => some (AEx.normal, [(r16.2.1.getD 0 unk)], r16.2.2)
| .exit i => if i = 0 then some (AEx.normal, [(r16.2.1.getD 0 unk)], r16.2.2) else some (AEx.exit i, [(r16.2.1.getD 0 unk)], r16.2.2)
| .ret => some (AEx.ret, [(r16.2.1.getD 0 unk)], r16.2.2)).bind fun r17 =>
match r17.1 with
| .normal => j2 C L n0 ((r17.2.1.getD 0 unk)) r17.2.2
| .exit i => none
| .ret => fin PP false n0 [unk] r17.2.2
def T : Tab := ⟨fun i => if i = 3 then some [3, 9, 10, 11] else none, fun i => if i = 3 then some [3] else none, false, fun i => if i = 7 then some [3] else none, fun _ => false, false, false, fun _ => false⟩
end P_twainref14_Tree_Ids
namespace P_itree_Tree_is
noncomputable def sh (C : Am.Callee) (L : Loops) (n0 : Nat) (t0 : Value) (s : AS) : Option (Value × List Blk × Option Nat) :=
(aBin PP .neq t_P_itree_Tree (.tmp 3) (.const (.pointer none)) t0 (.pointer none)).bind fun x1 =>
bcase x1 (
(aNil t0).bind fun x2 =>
(aFieldAddr PP t_itree_Tree x2 0).bind fun x3 =>
(aLoad false 1 s x3).bind fun x4 =>
fin PP false n0 [x4] s) (
fin PP false n0 [.bool false] s)
def T : Tab := ⟨fun i => none, fun i => none, false, fun i => none, fun _ => false, false, false, fun _ => false⟩
end P_itree_Tree_is
namespace span_Plain
noncomputable def sh (C : Am.Callee) (L : Loops) (n0 : Nat) (t0 : Value) (s : AS) : Option (Value × List Blk × Option Nat) :=
(aBox t_api_Span t0 s).bind fun r1 =>
(aFieldAddr PP t_api_Span r1.1 0).bind fun x2 =>
(aLoad false 1 r1.2 x2).bind fun x3 =>
(C n_span_within [x3] r1.2.H).bind fun r4 =>
bcase r4.1 (
(aFieldAddr PP t_api_Span r1.1 1).bind fun x5 =>
(aLoad false 1 (AS.mk r4.2.1 (joinEsc r1.2.esc r4.2.2)) x5).bind fun x6 =>
(C n_span_within [x6] (AS.mk r4.2.1 (joinEsc r1.2.esc r4.2.2)).H).bind fun r7 =>
fin PP false n0 [r7.1] (AS.mk r7.2.1 (joinEsc (AS.mk r4.2.1 (joinEsc r1.2.esc r4.2.2)).esc r7.2.2))) (
fin PP false n0 [.bool false] (AS.mk r4.2.1 (joinEsc r1.2.esc r4.2.2)))
def T : Tab := ⟨fun i => none, fun i => none, false, fun i => none, fun _ => false, false, false, fun _ => false⟩
end span_Plain
namespace P_itree_Tree_has
noncomputable def loop2 (C : Am.Callee) (L : Loops) (n0 : Nat) (t3 t5 : Value) (s : AS) : Option ((List Value × AS) ⊕ (AEx × List Value × AS)) :=
(aBin PP .neq t_P_itree_node (.tmp 11) (.const (.pointer none)) t5 (.pointer none)).bind fun x5 =>
bcase x5 (
(aLoad true 3 s t3).bind fun x6 =>
(aNil t5).bind fun x7 =>
(aFieldAddr PP t_itree_node x7 0).bind fun x8 =>
(aLoad true 3 s x8).bind fun x9 =>
(C n_itree_compare [x6, x9] s.H).bind fun r10 =>
(aBin PP .lss t_int (.tmp 20) (.const (.int .i64 0)) r10.1 (.int .i64 0)).bind fun x11 =>
bcase x11 (
(aNil t5).bind fun x12 =>
(aFieldAddr PP t_itree_node x12 3).bind fun x13 =>
(aIndexAddr PP t_A2_P_itree_node x13 (.int .i64 0)).bind fun x14 =>
(aLoad false 1 (AS.mk r10.2.1 (joinEsc s.esc r10.2.2)) x14).bind fun x15 =>
some (.inl ([t3, x15], AS.mk r10.2.1 (joinEsc s.esc r10.2.2)))) (
(aBin PP .gtr t_int (.tmp 28) (.const (.int .i64 0)) r10.1 (.int .i64 0)).bind fun x16 =>
bcase x16 (
(aNil t5).bind fun x17 =>
(aFieldAddr PP t_itree_node x17 3).bind fun x18 =>
(aIndexAddr PP t_A2_P_itree_node x18 (.int .i64 1)).bind fun x19 =>
(aLoad false 1 (AS.mk r10.2.1 (joinEsc s.esc r10.2.2)) x19).bind fun x20 =>
some (.inl ([t3, x20], AS.mk r10.2.1 (joinEsc s.esc r10.2.2)))) (
some (.inr (.exit 0, [t5], AS.mk r10.2.1 (joinEsc s.esc r10.2.2)))))) (
some (.inr (.exit 0, [t5], s)))
noncomputable def loop2s (C : Am.Callee) (L : Loops) (n0 : Nat) : List Value × AS → Option ((List Value × AS) ⊕ (AEx × List Value × AS)) := fun s => loop2 C L n0 (s.1.getD 0 unk) (s.1.getD 1 unk) s.2
noncomputable def j2 (C : Am.Callee) (L : Loops) (n0 : Nat) (t5 : Value) (s : AS) : Option (Value × List Blk × Option Nat) :=
(aBin PP .neq t_P_itree_node (.tmp 35) (.const (.pointer none)) t5 (.pointer none)).bind fun x23 =>
fin PP false n0 [x23] s
noncomputable def sh (C : Am.Callee) (L : Loops) (n0 : Nat) (t0 t1 : Value) (s : AS) : Option (Value × List Blk × Option Nat) :=
(aBox t_itree_entry t1 s).bind fun r1 =>
(aNil t0).bind fun x2 =>
(aFieldAddr PP t_itree_Tree x2 1).bind fun x3 =>
(aLoad false 1 r1.2 x3).bind fun x4 =>
((L n0 (loop2s C L n0) ([r1.1, x4], r1.2)).bind fun r21 =>
match r21.1 with
| .normal => some (AEx.normal, [(r21.2.1.getD 0 unk)], r21.2.2)
| .exit i => if i = 0 then some (AEx.normal, [(r21.2.1.getD 0 unk)], r21.2.2) else some (AEx.exit i, [(r21.2.1.getD 0 unk)], r21.2.2)
| .ret => some (AEx.ret, [(r21.2.1.getD 0 unk)], r21.2.2)).bind fun r22 =>
match r22.1 with
| .normal => j2 C L n0 ((r22.2.1.getD 0 unk)) r22.2.2
| .exit i => none
| .ret => fin PP false n0 [unk] r22.2.2
def T : Tab := ⟨fun i => if i = 2 then some [3, 5] else none, fun i => if i = 2 then some [5] else none, false, fun i => if i = 8 then some [5] else none, fun _ => false, false, false, fun _ => false⟩
end P_itree_Tree_has
namespace itree_add
noncomputable def j0 (C : Am.Callee) (L : Loops) (n0 : Nat) (t0 t3 t5 : Value) (s : AS) : Option (Value × List Blk × Option Nat) :=
(aNil t0).bind fun x14 =>
(aFieldAddr PP t_itree_node x14 3).bind fun x15 =>
(aIndexAddr PP t_A2_P_itree_node x15 t5).bind fun x16 =>
(aLoad false 1 s x16).bind fun x17 =>
(aLoad true 3 s t3).bind fun x18 =>
(aNil t0).bind fun x19 =>
(aFieldAddr PP t_itree_node x19 3).bind fun x20 =>
(C n_itree_add [x17, x18] s.H).bind fun r21 =>
(aIndexAddr PP t_A2_P_itree_node x20 t5).bind fun x22 =>
(aStore 1 (AS.mk r21.2.1 (joinEsc s.esc r21.2.2)) x22 r21.1).bind fun s23 =>
(C n_itree_settle [t0] s23.H).bind fun r24 =>
fin PP true n0 [r24.1] (AS.mk r24.2.1 (joinEsc s23.esc r24.2.2))
noncomputable def sh (C : Am.Callee) (L : Loops) (n0 : Nat) (t0 t1 : Value) (s : AS) : Option (Value × List Blk × Option Nat) :=
(aBox t_itree_entry t1 s).bind fun r1 =>
(aBin PP .eql t_P_itree_node (.tmp 6) (.const (.pointer none)) t0 (.pointer none)).bind fun x2 =>
bcase x2 (
(aLoad true 3 r1.2 r1.1).bind fun x3 =>
(aBuild PP t_itree_node [(0, x3), (1, .bool true)]).bind fun x4 =>
(aBox t_itree_node x4 r1.2).bind fun r5 =>
(C n_P_itree_node_mend [r5.1] r5.2.H).bind fun r6 =>
fin PP true n0 [r5.1] (AS.mk r6.2.1 (joinEsc r5.2.esc r6.2.2))) (
((aLoad true 3 r1.2 r1.1).bind fun x7 =>
(aNil t0).bind fun x8 =>
(aFieldAddr PP t_itree_node x8 0).bind fun x9 =>
(aLoad true 3 r1.2 x9).bind fun x10 =>
(C n_itree_compare [x7, x10] r1.2.H).bind fun r11 =>
(aBin PP .gtr t_int (.tmp 19) (.const (.int .i64 0)) r11.1 (.int .i64 0)).bind fun x12 =>
bcase x12 (
some (AEx.normal, [t0, r1.1, .int .i64 1], AS.mk r11.2.1 (joinEsc r1.2.esc r11.2.2))) (
some (AEx.normal, [t0, r1.1, .int .i64 0], AS.mk r11.2.1 (joinEsc r1.2.esc r11.2.2)))).bind fun r13 =>
match r13.1 with
| .normal => j0 C L n0 ((r13.2.1.getD 0 unk)) ((r13.2.1.getD 1 unk)) ((r13.2.1.getD 2 unk)) r13.2.2
| .exit i => none
| .ret => fin PP true n0 [unk] r13.2.2)
def T : Tab := ⟨fun i => none, fun i => none, true, fun i => if i = 8 then some [0, 3, 5] else none, fun _ => false, false, false, fun _ => false⟩
end itree_add
namespace itree_height
noncomputable def sh (C : Am.Callee) (L : Loops) (n0 : Nat) (t0 : Value) (s : AS) : Option (Value × List Blk × Option Nat) :=
(aBin PP .eql t_P_itree_node (.tmp 3) (.const (.pointer none)) t0 (.pointer none)).bind fun x1 =>
bcase x1 (
fin PP false n0 [.int .i64 0] s) (
(aNil t0).bind fun x2 =>
(aFieldAddr PP t_itree_node x2 3).bind fun x3 =>
(aIndexAddr PP t_A2_P_itree_node x3 (.int .i64 0)).bind fun x4 =>
(aLoad false 1 s x4).bind fun x5 =>
(aNil t0).bind fun x6 =>
(aFieldAddr PP t_itree_node x6 3).bind fun x7 =>
(aIndexAddr PP t_A2_P_itree_node x7 (.int .i64 1)).bind fun x8 =>
(aLoad false 1 s x8).bind fun x9 =>
(C n_itree_height [x5] s.H).bind fun r10 =>
if ((((aLoad false 1 (AS.mk r10.2.1 (joinEsc s.esc r10.2.2)) x8).bind fun x15 =>
some (veq x15 x9)) == some true) && true) = true then
(C n_itree_height [x9] (AS.mk r10.2.1 (joinEsc s.esc r10.2.2)).H).bind fun r11 =>
eBuiltin PP .max #[t_int, t_int] [r10.1, r11.1] (AS.mk r11.2.1 (joinEsc (AS.mk r10.2.1 (joinEsc s.esc r10.2.2)).esc r11.2.2)) fun x12 s13 =>
(aBin PP .add t_int (.const (.int .i64 1)) (.tmp 17) (.int .i64 1) x12).bind fun x14 =>
fin PP false n0 [x14] s13
else none)
def T : Tab := ⟨fun i => none, fun i => none, false, fun i => none, fun _ => false, false, false, fun _ => false⟩
end itree_height
namespace itree_isRed
noncomputable def sh (C : Am.Callee) (L : Loops) (n0 : Nat) (t0 : Value) (s : AS) : Option (Value × List Blk × Option Nat) :=
(aBin PP .neq t_P_itree_node (.tmp 3) (.const (.pointer none)) t0 (.pointer none)).bind fun x1 =>
bcase x1 (
(aNil t0).bind fun x2 =>
(aFieldAddr PP t_itree_node x2 1).bind fun x3 =>
(aLoad false 1 s x3).bind fun x4 =>
fin PP false n0 [x4] s) (
fin PP false n0 [.bool false] s)
def T : Tab := ⟨fun i => none, fun i => none, false, fun i => none, fun _ => false, false, false, fun _ => false⟩
end itree_isRed
namespace itree_cut
noncomputable def j0 (C : Am.Callee) (L : Loops) (n0 : Nat) (t0 t3 t31 : Value) (s : AS) : Option (AEx × List Value × AS) :=
bcase t31 (
(C n_itree_redLeft [t0] s.H).bind fun r25 =>
some (AEx.normal, [r25.1, t3], AS.mk r25.2.1 (joinEsc s.esc r25.2.2))) (
some (AEx.normal, [t0, t3], s))
noncomputable def j1 (C : Am.Callee) (L : Loops) (n0 : Nat) (t0 t3 : Value) (s : AS) : Option (Value × List Blk × Option Nat) :=
(aNil t0).bind fun x27 =>
(aFieldAddr PP t_itree_node x27 3).bind fun x28 =>
(aIndexAddr PP t_A2_P_itree_node x28 (.int .i64 0)).bind fun x29 =>
(aLoad false 1 s x29).bind fun x30 =>
(aLoad true 3 s t3).bind fun x31 =>
(aNil t0).bind fun x32 =>
(aFieldAddr PP t_itree_node x32 3).bind fun x33 =>
(C n_itree_cut [x30, x31] s.H).bind fun r34 =>
(aIndexAddr PP t_A2_P_itree_node x33 (.int .i64 0)).bind fun x35 =>
(aStore 1 (AS.mk r34.2.1 (joinEsc s.esc r34.2.2)) x35 r34.1).bind fun s36 =>
(C n_itree_settle [t0] s36.H).bind fun r37 =>
fin PP true n0 [r37.1] (AS.mk r37.2.1 (joinEsc s36.esc r37.2.2))
noncomputable def j3 (C : Am.Callee) (L : Loops) (n0 : Nat) (t0 t3 t69 : Value) (s : AS) : Option (AEx × List Value × AS) :=
bcase t69 (
some (AEx.ret, [t0, t3, .pointer none], s)) (
some (AEx.normal, [t0, t3, unk], s))
noncomputable def j5 (C : Am.Callee) (L : Loops) (n0 : Nat) (t0 t3 t89 : Value) (s : AS) : Option (AEx × List Value × AS) :=
bcase t89 (
(C n_itree_redRight [t0] s.H).bind fun r75 =>
some (AEx.normal, [r75.1, t3], AS.mk r75.2.1 (joinEsc s.esc r75.2.2))) (
some (AEx.normal, [t0, t3], s))
noncomputable def j7 (C : Am.Callee) (L : Loops) (n0 : Nat) (t0 : Value) (s : AS) : Option (Value × List Blk × Option Nat) :=
(C n_itree_settle [t0] s.H).bind fun r111 =>
fin PP true n0 [r111.1] (AS.mk r111.2.1 (joinEsc s.esc r111.2.2))
noncomputable def j6 (C : Am.Callee) (L : Loops) (n0 : Nat) (t0 t3 : Value) (s : AS) : Option (Value × List Blk × Option Nat) :=
((aLoad true 3 s t3).bind fun x77 =>
(aNil t0).bind fun x78 =>
(aFieldAddr PP t_itree_node x78 0).bind fun x79 =>
(aLoad true 3 s x79).bind fun x80 =>
(C n_itree_compare [x77, x80] s.H).bind fun r81 =>
(aBin PP .eql t_int (.tmp 97) (.const (.int .i64 0)) r81.1 (.int .i64 0)).bind fun x82 =>
bcase x82 (
(aNil t0).bind fun x83 =>
(aFieldAddr PP t_itree_node x83 3).bind fun x84 =>
(aIndexAddr PP t_A2_P_itree_node x84 (.int .i64 1)).bind fun x85 =>
(aLoad false 1 (AS.mk r81.2.1 (joinEsc s.esc r81.2.2)) x85).bind fun x86 =>
(C n_itree_first [x86] (AS.mk r81.2.1 (joinEsc s.esc r81.2.2)).H).bind fun r87 =>
(aNil t0).bind fun x88 =>
(aFieldAddr PP t_itree_node x88 0).bind fun x89 =>
(aStore 3 (AS.mk r87.2.1 (joinEsc (AS.mk r81.2.1 (joinEsc s.esc r81.2.2)).esc r87.2.2)) x89 r87.1).bind fun s90 =>
(aNil t0).bind fun x91 =>
(aFieldAddr PP t_itree_node x91 3).bind fun x92 =>
(aIndexAddr PP t_A2_P_itree_node x92 (.int .i64 1)).bind fun x93 =>
(aLoad false 1 s90 x93).bind fun x94 =>
(aNil t0).bind fun x95 =>
(aFieldAddr PP t_itree_node x95 3).bind fun x96 =>
(C n_itree_behead [x94] s90.H).bind fun r97 =>
(aIndexAddr PP t_A2_P_itree_node x96 (.int .i64 1)).bind fun x98 =>
(aStore 1 (AS.mk r97.2.1 (joinEsc s90.esc r97.2.2)) x98 r97.1).bind fun s99 =>
some (AEx.normal, [t0], s99)) (
(aNil t0).bind fun x100 =>
(aFieldAddr PP t_itree_node x100 3).bind fun x101 =>
(aIndexAddr PP t_A2_P_itree_node x101 (.int .i64 1)).bind fun x102 =>
(aLoad false 1 (AS.mk r81.2.1 (joinEsc s.esc r81.2.2)) x102).bind fun x103 =>
(aLoad true 3 (AS.mk r81.2.1 (joinEsc s.esc r81.2.2)) t3).bind fun x104 =>
(aNil t0).bind fun x105 =>
(aFieldAddr PP t_itree_node x105 3).bind fun x106 =>
(C n_itree_cut [x103, x104] (AS.mk r81.2.1 (joinEsc s.esc r81.2.2)).H).bind fun r107 =>
(aIndexAddr PP t_A2_P_itree_node x106 (.int .i64 1)).bind fun x108 =>
(aStore 1 (AS.mk r107.2.1 (joinEsc (AS.mk r81.2.1 (joinEsc s.esc r81.2.2)).esc r107.2.2)) x108 r107.1).bind fun s109 =>
some (AEx.normal, [t0], s109))).bind fun r110 =>
match r110.1 with
| .normal => j7 C L n0 ((r110.2.1.getD 0 unk)) r110.2.2
| .exit i => none
| .ret => fin PP true n0 [unk] r110.2.2
noncomputable def j4 (C : Am.Callee) (L : Loops) (n0 : Nat) (t0 t3 : Value) (s : AS) : Option (Value × List Blk × Option Nat) :=
(((aNil t0).bind fun x58 =>
(aFieldAddr PP t_itree_node x58 3).bind fun x59 =>
(aIndexAddr PP t_A2_P_itree_node x59 (.int .i64 1)).bind fun x60 =>
(aLoad false 1 s x60).bind fun x61 =>
(C n_itree_isRed [x61] s.H).bind fun r62 =>
(aUn PP .not r62.1).bind fun x63 =>
bcase x63 (
(aNil t0).bind fun x64 =>
(aFieldAddr PP t_itree_node x64 3).bind fun x65 =>
(aIndexAddr PP t_A2_P_itree_node x65 (.int .i64 1)).bind fun x66 =>
(aLoad false 1 (AS.mk r62.2.1 (joinEsc s.esc r62.2.2)) x66).bind fun x67 =>
(aNil x67).bind fun x68 =>
(aFieldAddr PP t_itree_node x68 3).bind fun x69 =>
(aIndexAddr PP t_A2_P_itree_node x69 (.int .i64 0)).bind fun x70 =>
(aLoad false 1 (AS.mk r62.2.1 (joinEsc s.esc r62.2.2)) x70).bind fun x71 =>
(C n_itree_isRed [x71] (AS.mk r62.2.1 (joinEsc s.esc r62.2.2)).H).bind fun r72 =>
(aUn PP .not r72.1).bind fun x73 =>
some (AEx.normal, [t0, t3, x73], AS.mk r72.2.1 (joinEsc (AS.mk r62.2.1 (joinEsc s.esc r62.2.2)).esc r72.2.2))) (
some (AEx.normal, [t0, t3, .bool false], AS.mk r62.2.1 (joinEsc s.esc r62.2.2)))).bind fun r74 =>
match r74.1 with
| .normal => j5 C L n0 ((r74.2.1.getD 0 unk)) ((r74.2.1.getD 1 unk)) ((r74.2.1.getD 2 unk)) r74.2.2
| .exit i => some (AEx.exit i, [(r74.2.1.getD 0 unk), (r74.2.1.getD 1 unk)], r74.2.2)
| .ret => some (AEx.ret, [(r74.2.1.getD 0 unk), (r74.2.1.getD 1 unk)], r74.2.2)).bind fun r76 =>
match r76.1 with
| .normal => j6 C L n0 ((r76.2.1.getD 0 unk)) ((r76.2.1.getD 1 unk)) r76.2.2
| .exit i => none
| .ret => fin PP true n0 [unk] r76.2.2
noncomputable def j2 (C : Am.Callee) (L : Loops) (n0 : Nat) (t0 t3 : Value) (s : AS) : Option (Value × List Blk × Option Nat) :=
(((aLoad true 3 s t3).bind fun x45 =>
(aNil t0).bind fun x46 =>
(aFieldAddr PP t_itree_node x46 0).bind fun x47 =>
(aLoad true 3 s x47).bind fun x48 =>
(C n_itree_compare [x45, x48] s.H).bind fun r49 =>
(aBin PP .eql t_int (.tmp 60) (.const (.int .i64 0)) r49.1 (.int .i64 0)).bind fun x50 =>
bcase x50 (
(aNil t0).bind fun x51 =>
(aFieldAddr PP t_itree_node x51 3).bind fun x52 =>
(aIndexAddr PP t_A2_P_itree_node x52 (.int .i64 1)).bind fun x53 =>
(aLoad false 1 (AS.mk r49.2.1 (joinEsc s.esc r49.2.2)) x53).bind fun x54 =>
(aBin PP .eql t_P_itree_node (.tmp 67) (.const (.pointer none)) x54 (.pointer none)).bind fun x55 =>
some (AEx.normal, [t0, t3, x55], AS.mk r49.2.1 (joinEsc s.esc r49.2.2))) (
some (AEx.normal, [t0, t3, .bool false], AS.mk r49.2.1 (joinEsc s.esc r49.2.2)))).bind fun r56 =>
match r56.1 with
| .normal => j3 C L n0 ((r56.2.1.getD 0 unk)) ((r56.2.1.getD 1 unk)) ((r56.2.1.getD 2 unk)) r56.2.2
| .exit i => some (AEx.exit i, [(r56.2.1.getD 0 unk), (r56.2.1.getD 1 unk), unk], r56.2.2)
| .ret => some (AEx.ret, [(r56.2.1.getD 0 unk), (r56.2.1.getD 1 unk), unk], r56.2.2)).bind fun r57 =>
match r57.1 with
| .normal => j4 C L n0 ((r57.2.1.getD 0 unk)) ((r57.2.1.getD 1 unk)) r57.2.2
| .exit i => none
| .ret => fin PP true n0 [(r57.2.1.getD 2 unk)] r57.2.2
noncomputable def sh (C : Am.Callee) (L : Loops) (n0 : Nat) (t0 t1 : Value) (s : AS) : Option (Value × List Blk × Option Nat) :=
(aBox t_itree_entry t1 s).bind fun r1 =>
(aLoad true 3 r1.2 r1.1).bind fun x2 =>
(aNil t0).bind fun x3 =>
(aFieldAddr PP t_itree_node x3 0).bind fun x4 =>
(aLoad true 3 r1.2 x4).bind fun x5 =>
(C n_itree_compare [x2, x5] r1.2.H).bind fun r6 =>
(aBin PP .lss t_int (.tmp 10) (.const (.int .i64 0)) r6.1 (.int .i64 0)).bind fun x7 =>
bcase x7 (
(((aNil t0).bind fun x8 =>
(aFieldAddr PP t_itree_node x8 3).bind fun x9 =>
(aIndexAddr PP t_A2_P_itree_node x9 (.int .i64 0)).bind fun x10 =>
(aLoad false 1 (AS.mk r6.2.1 (joinEsc r1.2.esc r6.2.2)) x10).bind fun x11 =>
(C n_itree_isRed [x11] (AS.mk r6.2.1 (joinEsc r1.2.esc r6.2.2)).H).bind fun r12 =>
(aUn PP .not r12.1).bind fun x13 =>
bcase x13 (
(aNil t0).bind fun x14 =>
(aFieldAddr PP t_itree_node x14 3).bind fun x15 =>
(aIndexAddr PP t_A2_P_itree_node x15 (.int .i64 0)).bind fun x16 =>
(aLoad false 1 (AS.mk r12.2.1 (joinEsc (AS.mk r6.2.1 (joinEsc r1.2.esc r6.2.2)).esc r12.2.2)) x16).bind fun x17 =>
(aNil x17).bind fun x18 =>
(aFieldAddr PP t_itree_node x18 3).bind fun x19 =>
(aIndexAddr PP t_A2_P_itree_node x19 (.int .i64 0)).bind fun x20 =>
(aLoad false 1 (AS.mk r12.2.1 (joinEsc (AS.mk r6.2.1 (joinEsc r1.2.esc r6.2.2)).esc r12.2.2)) x20).bind fun x21 =>
(C n_itree_isRed [x21] (AS.mk r12.2.1 (joinEsc (AS.mk r6.2.1 (joinEsc r1.2.esc r6.2.2)).esc r12.2.2)).H).bind fun r22 =>
(aUn PP .not r22.1).bind fun x23 =>
some (AEx.normal, [t0, r1.1, x23], AS.mk r22.2.1 (joinEsc (AS.mk r12.2.1 (joinEsc (AS.mk r6.2.1 (joinEsc r1.2.esc r6.2.2)).esc r12.2.2)).esc r22.2.2))) (
some (AEx.normal, [t0, r1.1, .bool false], AS.mk r12.2.1 (joinEsc (AS.mk r6.2.1 (joinEsc r1.2.esc r6.2.2)).esc r12.2.2)))).bind fun r24 =>
match r24.1 with
| .normal => j0 C L n0 ((r24.2.1.getD 0 unk)) ((r24.2.1.getD 1 unk)) ((r24.2.1.getD 2 unk)) r24.2.2
| .exit i => some (AEx.exit i, [(r24.2.1.getD 0 unk), (r24.2.1.getD 1 unk)], r24.2.2)
| .ret => some (AEx.ret, [(r24.2.1.getD 0 unk), (r24.2.1.getD 1 unk)], r24.2.2)).bind fun r26 =>
match r26.1 with
| .normal => j1 C L n0 ((r26.2.1.getD 0 unk)) ((r26.2.1.getD 1 unk)) r26.2.2
| .exit i => none
| .ret => fin PP true n0 [unk] r26.2.2) (
((aNil t0).bind fun x38 =>
(aFieldAddr PP t_itree_node x38 3).bind fun x39 =>
(aIndexAddr PP t_A2_P_itree_node x39 (.int .i64 0)).bind fun x40 =>
(aLoad false 1 (AS.mk r6.2.1 (joinEsc r1.2.esc r6.2.2)) x40).bind fun x41 =>
(C n_itree_isRed [x41] (AS.mk r6.2.1 (joinEsc r1.2.esc r6.2.2)).H).bind fun r42 =>
bcase r42.1 (
(C n_itree_turn [t0, .int .i64 1] (AS.mk r42.2.1 (joinEsc (AS.mk r6.2.1 (joinEsc r1.2.esc r6.2.2)).esc r42.2.2)).H).bind fun r43 =>
some (AEx.normal, [r43.1, r1.1], AS.mk r43.2.1 (joinEsc (AS.mk r42.2.1 (joinEsc (AS.mk r6.2.1 (joinEsc r1.2.esc r6.2.2)).esc r42.2.2)).esc r43.2.2))) (
some (AEx.normal, [t0, r1.1], AS.mk r42.2.1 (joinEsc (AS.mk r6.2.1 (joinEsc r1.2.esc r6.2.2)).esc r42.2.2)))).bind fun r44 =>
match r44.1 with
| .normal => j2 C L n0 ((r44.2.1.getD 0 unk)) ((r44.2.1.getD 1 unk)) r44.2.2
| .exit i => none
| .ret => fin PP true n0 [unk] r44.2.2)
def T : Tab := ⟨fun i => none, fun i => none, true, fun i => if i = 3 then some [0, 3, 31] else if i = 4 then some [0, 3] else if i = 8 then some [0, 3] else if i = 9 then some [0, 3, 69] else if i = 10 then some [0, 3, 4] else if i = 11 then some [0, 3, 89] else if i = 12 then some [0, 3] else if i = 16 then some [0] else none, fun _ => false, false, false, fun _ => false⟩
end itree_cut
namespace itree_walk
noncomputable def j0 (C : Am.Callee) (L : Loops) (n0 : Nat) (t0 t2 t4 t17 : Value) (s : AS) : Option (AEx × List Value × AS) :=
bcase t17 (
some (AEx.ret, [t0, t2, t4, .bool true], s)) (
some (AEx.normal, [t0, t2, t4, unk], s))
noncomputable def j2 (C : Am.Callee) (L : Loops) (n0 : Nat) (t0 t2 t4 t52 : Value) (s : AS) : Option (AEx × List Value × AS) :=
bcase t52 (
some (AEx.ret, [t0, t2, t4, .bool false], s)) (
some (AEx.normal, [t0, t2, t4, unk], s))
noncomputable def j3 (C : Am.Callee) (L : Loops) (n0 : Nat) (t0 t2 t4 : Value) (s : AS) : Option (Value × List Blk × Option Nat) :=
(aNil t0).bind fun x41 =>
(aFieldAddr PP t_itree_node x41 3).bind fun x42 =>
(aIndexAddr PP t_A2_P_itree_node x42 (.int .i64 1)).bind fun x43 =>
(aLoad false 1 s x43).bind fun x44 =>
(aLoad true 2 s t4).bind fun x45 =>
(C n_itree_walk [x44, x45, t2] s.H).bind fun r46 =>
fin PP true n0 [r46.1] (AS.mk r46.2.1 (joinEsc s.esc r46.2.2))
noncomputable def j1 (C : Am.Callee) (L : Loops) (n0 : Nat) (t0 t2 t4 : Value) (s : AS) : Option (Value × List Blk × Option Nat) :=
(aNil t0).bind fun x11 =>
(aFieldAddr PP t_itree_node x11 3).bind fun x12 =>
(aIndexAddr PP t_A2_P_itree_node x12 (.int .i64 0)).bind fun x13 =>
(aLoad false 1 s x13).bind fun x14 =>
(aLoad true 2 s t4).bind fun x15 =>
(C n_itree_walk [x14, x15, t2] s.H).bind fun r16 =>
(aUn PP .not r16.1).bind fun x17 =>
bcase x17 (
fin PP true n0 [.bool false] (AS.mk r16.2.1 (joinEsc s.esc r16.2.2))) (
(aNil t0).bind fun x18 =>
(aFieldAddr PP t_itree_node x18 0).bind fun x19 =>
(aFieldAddr PP t_itree_entry x19 0).bind fun x20 =>
(aFieldAddr PP t_api_Span x20 0).bind fun x21 =>
(aLoad false 1 (AS.mk r16.2.1 (joinEsc s.esc r16.2.2)) x21).bind fun x22 =>
(aLoad true 2 (AS.mk r16.2.1 (joinEsc s.esc r16.2.2)) t4).bind fun x23 =>
(C n_span_End [x23] (AS.mk r16.2.1 (joinEsc s.esc r16.2.2)).H).bind fun r24 =>
if ((((aLoad false 1 (AS.mk r24.2.1 (joinEsc (AS.mk r16.2.1 (joinEsc s.esc r16.2.2)).esc r24.2.2)) x21).bind fun x47 =>
some (veq x47 x22)) == some true) && true) = true then
(aBin PP .geq t_int (.tmp 32) (.tmp 34) x22 r24.1).bind fun x25 =>
bcase x25 (
fin PP true n0 [.bool true] (AS.mk r24.2.1 (joinEsc (AS.mk r16.2.1 (joinEsc s.esc r16.2.2)).esc r24.2.2))) (
(((aNil t0).bind fun x26 =>
(aFieldAddr PP t_itree_node x26 0).bind fun x27 =>
(aFieldAddr PP t_itree_entry x27 0).bind fun x28 =>
(aLoad true 2 (AS.mk r24.2.1 (joinEsc (AS.mk r16.2.1 (joinEsc s.esc r16.2.2)).esc r24.2.2)) x28).bind fun x29 =>
(aLoad true 2 (AS.mk r24.2.1 (joinEsc (AS.mk r16.2.1 (joinEsc s.esc r16.2.2)).esc r24.2.2)) t4).bind fun x30 =>
(C n_span_Overlap [x29, x30] (AS.mk r24.2.1 (joinEsc (AS.mk r16.2.1 (joinEsc s.esc r16.2.2)).esc r24.2.2)).H).bind fun r31 =>
bcase r31.1 (
(aNil t0).bind fun x32 =>
(aFieldAddr PP t_itree_node x32 0).bind fun x33 =>
(aFieldAddr PP t_itree_entry x33 1).bind fun x34 =>
(aLoad false 1 (AS.mk r31.2.1 (joinEsc (AS.mk r24.2.1 (joinEsc (AS.mk r16.2.1 (joinEsc s.esc r16.2.2)).esc r24.2.2)).esc r31.2.2)) x34).bind fun x35 =>
(aFn PP t2 [x35]).bind fun g37 =>
(C g37.1 g37.2 (AS.mk r31.2.1 (joinEsc (AS.mk r24.2.1 (joinEsc (AS.mk r16.2.1 (joinEsc s.esc r16.2.2)).esc r24.2.2)).esc r31.2.2)).H).bind fun r36 =>
(aUn PP .not r36.1).bind fun x38 =>
some (AEx.normal, [t0, t2, t4, x38], AS.mk r36.2.1 (joinEsc (AS.mk r31.2.1 (joinEsc (AS.mk r24.2.1 (joinEsc (AS.mk r16.2.1 (joinEsc s.esc r16.2.2)).esc r24.2.2)).esc r31.2.2)).esc r36.2.2))) (
some (AEx.normal, [t0, t2, t4, .bool false], AS.mk r31.2.1 (joinEsc (AS.mk r24.2.1 (joinEsc (AS.mk r16.2.1 (joinEsc s.esc r16.2.2)).esc r24.2.2)).esc r31.2.2)))).bind fun r39 =>
match r39.1 with
| .normal => j2 C L n0 ((r39.2.1.getD 0 unk)) ((r39.2.1.getD 1 unk)) ((r39.2.1.getD 2 unk)) ((r39.2.1.getD 3 unk)) r39.2.2
| .exit i => some (AEx.exit i, [(r39.2.1.getD 0 unk), (r39.2.1.getD 1 unk), (r39.2.1.getD 2 unk), unk], r39.2.2)
| .ret => some (AEx.ret, [(r39.2.1.getD 0 unk), (r39.2.1.getD 1 unk), (r39.2.1.getD 2 unk), unk], r39.2.2)).bind fun r40 =>
match r40.1 with
| .normal => j3 C L n0 ((r40.2.1.getD 0 unk)) ((r40.2.1.getD 1 unk)) ((r40.2.1.getD 2 unk)) r40.2.2
| .exit i => none
| .ret => fin PP true n0 [(r40.2.1.getD 3 unk)] r40.2.2)
else none)
noncomputable def sh (C : Am.Callee) (L : Loops) (n0 : Nat) (t0 t1 t2 : Value) (s : AS) : Option (Value × List Blk × Option Nat) :=
(aBox t_api_Span t1 s).bind fun r1 =>
(((aBin PP .eql t_P_itree_node (.tmp 7) (.const (.pointer none)) t0 (.pointer none)).bind fun x2 =>
bcase x2 (
some (AEx.normal, [t0, t2, r1.1, .bool true], r1.2)) (
(aNil t0).bind fun x3 =>
(aFieldAddr PP t_itree_node x3 2).bind fun x4 =>
(aLoad false 1 r1.2 x4).bind fun x5 =>
(aFieldAddr PP t_api_Span r1.1 0).bind fun x6 =>
(aLoad false 1 r1.2 x6).bind fun x7 =>
(aBin PP .leq t_int (.tmp 13) (.tmp 15) x5 x7).bind fun x8 =>
some (AEx.normal, [t0, t2, r1.1, x8], r1.2))).bind fun r9 =>
match r9.1 with
| .normal => j0 C L n0 ((r9.2.1.getD 0 unk)) ((r9.2.1.getD 1 unk)) ((r9.2.1.getD 2 unk)) ((r9.2.1.getD 3 unk)) r9.2.2
| .exit i => some (AEx.exit i, [(r9.2.1.getD 0 unk), (r9.2.1.getD 1 unk), (r9.2.1.getD 2 unk), unk], r9.2.2)
| .ret => some (AEx.ret, [(r9.2.1.getD 0 unk), (r9.2.1.getD 1 unk), (r9.2.1.getD 2 unk), unk], r9.2.2)).bind fun r10 =>
match r10.1 with
| .normal => j1 C L n0 ((r10.2.1.getD 0 unk)) ((r10.2.1.getD 1 unk)) ((r10.2.1.getD 2 unk)) r10.2.2
| .exit i => none
| .ret => fin PP true n0 [(r10.2.1.getD 3 unk)] r10.2.2
def T : Tab := ⟨fun i => none, fun i => none, true, fun i => if i = 2 then some [0, 2, 4, 17] else if i = 3 then some [0, 2, 4, 6] else if i = 8 then some [0, 2, 4, 52] else if i = 9 then some [0, 2, 4, 6] else none, fun _ => false, false, false, fun _ => false⟩
end itree_walk
namespace P_itree_Tree_Overlaps_1
noncomputable def sh (C : Am.Callee) (L : Loops) (n0 : Nat) (t0 t1 : Value) (s : AS) : Option (Value × List Blk × Option Nat) :=
(aLoad false 1 s t1).bind fun x1 =>
(bsl PP t_L_int 1 [0] [t0] s).bind fun r2 =>
eBuiltin PP .append #[t_L_int, t_L_int] [x1, r2.1] r2.2 fun x3 s4 =>
(aStore 1 s4 t1 x3).bind fun s5 =>
fin PP true n0 [.bool true] s5
def T : Tab := ⟨fun i => none, fun i => none, true, fun i => none, fun _ => false, false, false, fun _ => false⟩
end P_itree_Tree_Overlaps_1
namespace P_itree_Tree_Any_1
noncomputable def sh (C : Am.Callee) (L : Loops) (n0 : Nat) (t0 : Value) (s : AS) : Option (Value × List Blk × Option Nat) :=
fin PP false n0 [.bool false] s
def T : Tab := ⟨fun i => none, fun i => none, false, fun i => none, fun _ => false, false, false, fun _ => false⟩
end P_itree_Tree_Any_1
namespace P_twainref14_Tree_place
noncomputable def j1 (C : Am.Callee) (L : Loops) (n0 : Nat) (t0 t3 t5 t23 : Value) (s : AS) : Option (AEx × List Value × AS) :=
bcase t23 (
some (AEx.normal, [t0, t3, t5], s)) (
some (AEx.exit 0, [t0, t3, t5], s))
noncomputable def j2 (C : Am.Callee) (L : Loops) (n0 : Nat) (t0 t3 t5 : Value) (s : AS) : Option ((List Value × AS) ⊕ (AEx × List Value × AS)) :=
(aBin PP .add t_int (.tmp 24) (.const (.int .i64 1)) t5 (.int .i64 1)).bind fun x15 =>
some (.inl ([t0, t3, x15], s))
noncomputable def loop2 (C : Am.Callee) (L : Loops) (n0 : Nat) (t0 t3 t5 : Value) (s : AS) : Option ((List Value × AS) ⊕ (AEx × List Value × AS)) :=
((aNil t0).bind fun x2 =>
(aFieldAddr PP t_twainref14_Tree x2 0).bind fun x3 =>
(aLoad false 1 s x3).bind fun x4 =>
(aLen PP t_L_twainref14_Item x4 s).bind fun x5 =>
(aBin PP .lss t_int (.tmp 6) (.tmp 11) t5 x5).bind fun x6 =>
bcase x6 (
(aNil t0).bind fun x7 =>
(aFieldAddr PP t_twainref14_Tree x7 0).bind fun x8 =>
(aLoad false 1 s x8).bind fun x9 =>
(aIndexAddr PP t_L_twainref14_Item x9 t5).bind fun x10 =>
(aLoad true 3 s x10).bind fun x11 =>
(aLoad true 3 s t3).bind fun x12 =>
(C n_twainref14_less [x11, x12] s.H).bind fun r13 =>
j1 C L n0 t0 t3 t5 r13.1 (AS.mk r13.2.1 (joinEsc s.esc r13.2.2))) (
j1 C L n0 t0 t3 t5 (.bool false) s)).bind fun r14 =>
match r14.1 with
| .normal => j2 C L n0 ((r14.2.1.getD 0 unk)) ((r14.2.1.getD 1 unk)) ((r14.2.1.getD 2 unk)) r14.2.2
| .exit i => some (.inr (.exit i, [(r14.2.1.getD 2 unk)], r14.2.2))
| .ret => some (.inr (.ret, [(r14.2.1.getD 2 unk)], r14.2.2))
noncomputable def loop2s (C : Am.Callee) (L : Loops) (n0 : Nat) : List Value × AS → Option ((List Value × AS) ⊕ (AEx × List Value × AS)) := fun s => loop2 C L n0 (s.1.getD 0 unk) (s.1.getD 1 unk) (s.1.getD 2 unk) s.2
noncomputable def j4 (C : Am.Callee) (L : Loops) (n0 : Nat) (t5 : Value) (s : AS) : Option (Value × List Blk × Option Nat) :=
fin PP false n0 [t5] s
noncomputable def sh (C : Am.Callee) (L : Loops) (n0 : Nat) (t0 t1 : Value) (s : AS) : Option (Value × List Blk × Option Nat) :=
(aBox t_twainref14_Item t1 s).bind fun r1 =>
((L n0 (loop2s C L n0) ([t0, r1.1, .int .i64 0], r1.2)).bind fun r16 =>
match r16.1 with
| .normal => some (AEx.normal, [(r16.2.1.getD 0 unk)], r16.2.2)
| .exit i => if i = 0 then some (AEx.normal, [(r16.2.1.getD 0 unk)], r16.2.2) else some (AEx.exit i, [(r16.2.1.getD 0 unk)], r16.2.2)
| .ret => some (AEx.ret, [(r16.2.1.getD 0 unk)], r16.2.2)).bind fun r17 =>
match r17.1 with
| .normal => j4 C L n0 ((r17.2.1.getD 0 unk)) r17.2.2
| .exit i => none
| .ret => fin PP false n0 [unk] r17.2.2
def T : Tab := ⟨fun i => if i = 2 then some [0, 3, 5] else none, fun i => if i = 2 then some [5] else none, false, fun i => if i = 3 then some [0, 3, 5] else if i = 4 then some [5] else none, fun _ => false, false, false, fun _ => false⟩
end P_twainref14_Tree_place
namespace twainref04_Plain
noncomputable def sh (C : Am.Callee) (L : Loops) (n0 : Nat) (t0 : Value) (s : AS) : Option (Value × List Blk × Option Nat) :=
(aBox t_api_Span t0 s).bind fun r1 =>
(aFieldAddr PP t_api_Span r1.1 0).bind fun x2 =>
(aLoad false 1 r1.2 x2).bind fun x3 =>
(aBin PP .geq t_int (.tmp 4) (.const (.int .i64 0)) x3 (.int .i64 0)).bind fun x4 =>
bcase x4 (
(aFieldAddr PP t_api_Span r1.1 0).bind fun x5 =>
(aLoad false 1 r1.2 x5).bind fun x6 =>
(aBin PP .leq t_int (.tmp 8) (.const (.int .i64 1073741824)) x6 (.int .i64 1073741824)).bind fun x7 =>
bcase x7 (
(aFieldAddr PP t_api_Span r1.1 1).bind fun x8 =>
(aLoad false 1 r1.2 x8).bind fun x9 =>
(aBin PP .geq t_int (.tmp 13) (.const (.int .i64 0)) x9 (.int .i64 0)).bind fun x10 =>
bcase x10 (
(aFieldAddr PP t_api_Span r1.1 1).bind fun x11 =>
(aLoad false 1 r1.2 x11).bind fun x12 =>
(aBin PP .leq t_int (.tmp 18) (.const (.int .i64 1073741824)) x12 (.int .i64 1073741824)).bind fun x13 =>
fin PP false n0 [x13] r1.2) (
fin PP false n0 [.bool false] r1.2)) (
fin PP false n0 [.bool false] r1.2)) (
fin PP false n0 [.bool false] r1.2)
def T : Tab := ⟨fun i => none, fun i => none, false, fun i => none, fun _ => false, false, false, fun _ => false⟩
end twainref04_Plain
namespace twainref04_Overlap
noncomputable def sh (C : Am.Callee) (L : Loops) (n0 : Nat) (t0 t1 : Value) (s : AS) : Option (Value × List Blk × Option Nat) :=
(aBox t_api_Span t0 s).bind fun r1 =>
(aBox t_api_Span t1 r1.2).bind fun r2 =>
(aLoad true 2 r2.2 r1.1).bind fun x3 =>
(aLoad true 2 r2.2 r2.1).bind fun x4 =>
(C n_twainref04_Meet [x3, x4] r2.2.H).bind fun r5 =>
(pureRun PP (Instr.extract r5.1 0)).bind fun x6 =>
(pureRun PP (Instr.extract r5.1 1)).bind fun x7 =>
(aBox t_api_Span ((zeroP PP t_api_Span).getD unk) (AS.mk r5.2.1 (joinEsc r2.2.esc r5.2.2))).bind fun r8 =>
(aStore 2 r8.2 r8.1 x6).bind fun s9 =>
fin PP false n0 [x7] s9
def T : Tab := ⟨fun i => none, fun i => none, false, fun i => none, fun _ => false, false, false, fun _ => false⟩
end twainref04_Overlap
namespace itree_ids
noncomputable def sh (C : Am.Callee) (L : Loops) (n0 : Nat) (t0 t1 : Value) (s : AS) : Option (Value × List Blk × Option Nat) :=
(aBin PP .eql t_P_itree_node (.tmp 5) (.const (.pointer none)) t0 (.pointer none)).bind fun x1 =>
bcase x1 (
fin PP true n0 [t1] s) (
(aNil t0).bind fun x2 =>
(aFieldAddr PP t_itree_node x2 3).bind fun x3 =>
(aIndexAddr PP t_A2_P_itree_node x3 (.int .i64 0)).bind fun x4 =>
(aLoad false 1 s x4).bind fun x5 =>
(aNil t0).bind fun x6 =>
(aFieldAddr PP t_itree_node x6 0).bind fun x7 =>
(aFieldAddr PP t_itree_entry x7 1).bind fun x8 =>
(aLoad false 1 s x8).bind fun x9 =>
(C n_itree_ids [x5, t1] s.H).bind fun r10 =>
if ((((aLoad false 1 (AS.mk r10.2.1 (joinEsc s.esc r10.2.2)) x8).bind fun x19 =>
some (veq x19 x9)) == some true) && true) = true then
if (([x9] : List Value).all litV && decide (1 < UNK)) = true then
(bsl PP t_L_int 1 [0] [x9] (AS.mk r10.2.1 (joinEsc s.esc r10.2.2))).bind fun r11 =>
eBuiltin PP .append #[t_L_int, t_L_int] [r10.1, r11.1] r11.2 fun x12 s13 =>
(aNil t0).bind fun x14 =>
(aFieldAddr PP t_itree_node x14 3).bind fun x15 =>
(aIndexAddr PP t_A2_P_itree_node x15 (.int .i64 1)).bind fun x16 =>
(aLoad false 1 s13 x16).bind fun x17 =>
(C n_itree_ids [x17, x12] s13.H).bind fun r18 =>
fin PP true n0 [r18.1] (AS.mk r18.2.1 (joinEsc s13.esc r18.2.2))
else none
else none)
def T : Tab := ⟨fun i => none, fun i => none, true, fun i => none, fun _ => false, false, false, fun _ => false⟩
end itree_ids
namespace span_within
noncomputable def sh (C : Am.Callee) (L : Loops) (n0 : Nat) (t0 : Value) (s : AS) : Option (Value × List Blk × Option Nat) :=
(aBin PP .geq t_int (.tmp 3) (.const (.int .i64 0)) t0 (.int .i64 0)).bind fun x1 =>
bcase x1 (
(aBin PP .leq t_int (.tmp 6) (.const (.int .i64 1073741824)) t0 (.int .i64 1073741824)).bind fun x2 =>
fin PP false n0 [x2] s) (
fin PP false n0 [.bool false] s)
def T : Tab := ⟨fun i => none, fun i => none, false, fun i => none, fun _ => false, false, false, fun _ => false⟩
end span_within
namespace itree_compare
noncomputable def sh (C : Am.Callee) (L : Loops) (n0 : Nat) (t0 t1 : Value) (s : AS) : Option (Value × List Blk × Option Nat) :=
(aBox t_itree_entry t0 s).bind fun r1 =>
(aBox t_itree_entry t1 r1.2).bind fun r2 =>
(aFieldAddr PP t_itree_entry r1.1 0).bind fun x3 =>
(aFieldAddr PP t_api_Span x3 0).bind fun x4 =>
(aLoad false 1 r2.2 x4).bind fun x5 =>
(aFieldAddr PP t_itree_entry r2.1 0).bind fun x6 =>
(aFieldAddr PP t_api_Span x6 0).bind fun x7 =>
(aLoad false 1 r2.2 x7).bind fun x8 =>
(aFieldAddr PP t_itree_entry r1.1 0).bind fun x9 =>
(aFieldAddr PP t_api_Span x9 1).bind fun x10 =>
(aLoad false 1 r2.2 x10).bind fun x11 =>
(aFieldAddr PP t_itree_entry r2.1 0).bind fun x12 =>
(aFieldAddr PP t_api_Span x12 1).bind fun x13 =>
(aLoad false 1 r2.2 x13).bind fun x14 =>
(aFieldAddr PP t_itree_entry r1.1 1).bind fun x15 =>
(aLoad false 1 r2.2 x15).bind fun x16 =>
(aFieldAddr PP t_itree_entry r2.1 1).bind fun x17 =>
(aLoad false 1 r2.2 x17).bind fun x18 =>
(C n_cmp_Compare_int [x5, x8] r2.2.H).bind fun r19 =>
if ((((aLoad false 1 (AS.mk r19.2.1 (joinEsc r2.2.esc r19.2.2)) x10).bind fun x29 =>
some (veq x29 x11)) == some true) && ((((aLoad false 1 (AS.mk r19.2.1 (joinEsc r2.2.esc r19.2.2)) x13).bind fun x28 =>
some (veq x28 x14)) == some true) && ((((aLoad false 1 (AS.mk r19.2.1 (joinEsc r2.2.esc r19.2.2)) x15).bind fun x27 =>
some (veq x27 x16)) == some true) && ((((aLoad false 1 (AS.mk r19.2.1 (joinEsc r2.2.esc r19.2.2)) x17).bind fun x26 =>
some (veq x26 x18)) == some true) && true)))) = true then
(C n_cmp_Compare_int [x11, x14] (AS.mk r19.2.1 (joinEsc r2.2.esc r19.2.2)).H).bind fun r20 =>
if ((((aLoad false 1 (AS.mk r20.2.1 (joinEsc (AS.mk r19.2.1 (joinEsc r2.2.esc r19.2.2)).esc r20.2.2)) x15).bind fun x25 =>
some (veq x25 x16)) == some true) && ((((aLoad false 1 (AS.mk r20.2.1 (joinEsc (AS.mk r19.2.1 (joinEsc r2.2.esc r19.2.2)).esc r20.2.2)) x17).bind fun x24 =>
some (veq x24 x18)) == some true) && true)) = true then
(C n_cmp_Compare_int [x16, x18] (AS.mk r20.2.1 (joinEsc (AS.mk r19.2.1 (joinEsc r2.2.esc r19.2.2)).esc r20.2.2)).H).bind fun r21 =>
(bsl PP t_L_int 3 [0, 1, 2] [r19.1, r20.1, r21.1] (AS.mk r21.2.1 (joinEsc (AS.mk r20.2.1 (joinEsc (AS.mk r19.2.1 (joinEsc r2.2.esc r19.2.2)).esc r20.2.2)).esc r21.2.2))).bind fun r22 =>
(C n_cmp_Or_int [r22.1] r22.2.H).bind fun r23 =>
fin PP false n0 [r23.1] (AS.mk r23.2.1 (joinEsc r22.2.esc r23.2.2))
else none
else none
def T : Tab := ⟨fun i => none, fun i => none, false, fun i => none, fun _ => false, false, false, fun _ => false⟩
end itree_compare
namespace P_itree_node_mend
noncomputable def sh (C : Am.Callee) (L : Loops) (n0 : Nat) (t0 : Value) (s : AS) : Option (Value × List Blk × Option Nat) :=
(aNil t0).bind fun x1 =>
(aFieldAddr PP t_itree_node x1 0).bind fun x2 =>
(aFieldAddr PP t_itree_entry x2 0).bind fun x3 =>
(aLoad true 2 s x3).bind fun x4 =>
(aNil t0).bind fun x5 =>
(aFieldAddr PP t_itree_node x5 3).bind fun x6 =>
(aIndexAddr PP t_A2_P_itree_node x6 (.int .i64 0)).bind fun x7 =>
(aLoad false 1 s x7).bind fun x8 =>
(aNil t0).bind fun x9 =>
(aFieldAddr PP t_itree_node x9 3).bind fun x10 =>
(aIndexAddr PP t_A2_P_itree_node x10 (.int .i64 1)).bind fun x11 =>
(aLoad false 1 s x11).bind fun x12 =>
(C n_span_End [x4] s.H).bind fun r13 =>
if ((((aLoad false 1 (AS.mk r13.2.1 (joinEsc s.esc r13.2.2)) x7).bind fun x23 =>
some (veq x23 x8)) == some true) && ((((aLoad false 1 (AS.mk r13.2.1 (joinEsc s.esc r13.2.2)) x11).bind fun x22 =>
some (veq x22 x12)) == some true) && true)) = true then
(C n_itree_reach [x8] (AS.mk r13.2.1 (joinEsc s.esc r13.2.2)).H).bind fun r14 =>
if ((((aLoad false 1 (AS.mk r14.2.1 (joinEsc (AS.mk r13.2.1 (joinEsc s.esc r13.2.2)).esc r14.2.2)) x11).bind fun x21 =>
some (veq x21 x12)) == some true) && true) = true then
(C n_itree_reach [x12] (AS.mk r14.2.1 (joinEsc (AS.mk r13.2.1 (joinEsc s.esc r13.2.2)).esc r14.2.2)).H).bind fun r15 =>
eBuiltin PP .max #[t_int, t_int, t_int] [r13.1, r14.1, r15.1] (AS.mk r15.2.1 (joinEsc (AS.mk r14.2.1 (joinEsc (AS.mk r13.2.1 (joinEsc s.esc r13.2.2)).esc r14.2.2)).esc r15.2.2)) fun x16 s17 =>
(aNil t0).bind fun x18 =>
(aFieldAddr PP t_itree_node x18 2).bind fun x19 =>
(aStore 1 s17 x19 x16).bind fun s20 =>
fin PP true n0 [] s20
else none
else none
def T : Tab := ⟨fun i => none, fun i => none, true, fun i => none, fun _ => false, false, false, fun _ => false⟩
end P_itree_node_mend
namespace itree_settle
noncomputable def j0 (C : Am.Callee) (L : Loops) (n0 : Nat) (t0 t17 : Value) (s : AS) : Option (AEx × List Value × AS) :=
bcase t17 (
(C n_itree_turn [t0, .int .i64 0] s.H).bind fun r13 =>
some (AEx.normal, [r13.1], AS.mk r13.2.1 (joinEsc s.esc r13.2.2))) (
some (AEx.normal, [t0], s))
noncomputable def j2 (C : Am.Callee) (L : Loops) (n0 : Nat) (t0 t37 : Value) (s : AS) : Option (AEx × List Value × AS) :=
bcase t37 (
(C n_itree_turn [t0, .int .i64 1] s.H).bind fun r30 =>
some (AEx.normal, [r30.1], AS.mk r30.2.1 (joinEsc s.esc r30.2.2))) (
some (AEx.normal, [t0], s))
noncomputable def j4 (C : Am.Callee) (L : Loops) (n0 : Nat) (t0 t53 : Value) (s : AS) : Option (AEx × List Value × AS) :=
bcase t53 (
(C n_itree_flip [t0] s.H).bind fun r43 =>
some (AEx.normal, [t0], AS.mk r43.2.1 (joinEsc s.esc r43.2.2))) (
some (AEx.normal, [t0], s))
noncomputable def j5 (C : Am.Callee) (L : Loops) (n0 : Nat) (t0 : Value) (s : AS) : Option (Value × List Blk × Option Nat) :=
(C n_P_itree_node_mend [t0] s.H).bind fun r45 =>
fin PP true n0 [t0] (AS.mk r45.2.1 (joinEsc s.esc r45.2.2))
noncomputable def j3 (C : Am.Callee) (L : Loops) (n0 : Nat) (t0 : Value) (s : AS) : Option (Value × List Blk × Option Nat) :=
(((aNil t0).bind fun x32 =>
(aFieldAddr PP t_itree_node x32 3).bind fun x33 =>
(aIndexAddr PP t_A2_P_itree_node x33 (.int .i64 0)).bind fun x34 =>
(aLoad false 1 s x34).bind fun x35 =>
(C n_itree_isRed [x35] s.H).bind fun r36 =>
bcase r36.1 (
(aNil t0).bind fun x37 =>
(aFieldAddr PP t_itree_node x37 3).bind fun x38 =>
(aIndexAddr PP t_A2_P_itree_node x38 (.int .i64 1)).bind fun x39 =>
(aLoad false 1 (AS.mk r36.2.1 (joinEsc s.esc r36.2.2)) x39).bind fun x40 =>
(C n_itree_isRed [x40] (AS.mk r36.2.1 (joinEsc s.esc r36.2.2)).H).bind fun r41 =>
some (AEx.normal, [t0, r41.1], AS.mk r41.2.1 (joinEsc (AS.mk r36.2.1 (joinEsc s.esc r36.2.2)).esc r41.2.2))) (
some (AEx.normal, [t0, .bool false], AS.mk r36.2.1 (joinEsc s.esc r36.2.2)))).bind fun r42 =>
match r42.1 with
| .normal => j4 C L n0 ((r42.2.1.getD 0 unk)) ((r42.2.1.getD 1 unk)) r42.2.2
| .exit i => some (AEx.exit i, [(r42.2.1.getD 0 unk)], r42.2.2)
| .ret => some (AEx.ret, [(r42.2.1.getD 0 unk)], r42.2.2)).bind fun r44 =>
match r44.1 with
| .normal => j5 C L n0 ((r44.2.1.getD 0 unk)) r44.2.2
| .exit i => none
| .ret => fin PP true n0 [unk] r44.2.2
noncomputable def j1 (C : Am.Callee) (L : Loops) (n0 : Nat) (t0 : Value) (s : AS) : Option (Value × List Blk × Option Nat) :=
(((aNil t0).bind fun x15 =>
(aFieldAddr PP t_itree_node x15 3).bind fun x16 =>
(aIndexAddr PP t_A2_P_itree_node x16 (.int .i64 0)).bind fun x17 =>
(aLoad false 1 s x17).bind fun x18 =>
(C n_itree_isRed [x18] s.H).bind fun r19 =>
bcase r19.1 (
(aNil t0).bind fun x20 =>
(aFieldAddr PP t_itree_node x20 3).bind fun x21 =>
(aIndexAddr PP t_A2_P_itree_node x21 (.int .i64 0)).bind fun x22 =>
(aLoad false 1 (AS.mk r19.2.1 (joinEsc s.esc r19.2.2)) x22).bind fun x23 =>
(aNil x23).bind fun x24 =>
(aFieldAddr PP t_itree_node x24 3).bind fun x25 =>
(aIndexAddr PP t_A2_P_itree_node x25 (.int .i64 0)).bind fun x26 =>
(aLoad false 1 (AS.mk r19.2.1 (joinEsc s.esc r19.2.2)) x26).bind fun x27 =>
(C n_itree_isRed [x27] (AS.mk r19.2.1 (joinEsc s.esc r19.2.2)).H).bind fun r28 =>
some (AEx.normal, [t0, r28.1], AS.mk r28.2.1 (joinEsc (AS.mk r19.2.1 (joinEsc s.esc r19.2.2)).esc r28.2.2))) (
some (AEx.normal, [t0, .bool false], AS.mk r19.2.1 (joinEsc s.esc r19.2.2)))).bind fun r29 =>
match r29.1 with
| .normal => j2 C L n0 ((r29.2.1.getD 0 unk)) ((r29.2.1.getD 1 unk)) r29.2.2
| .exit i => some (AEx.exit i, [(r29.2.1.getD 0 unk)], r29.2.2)
| .ret => some (AEx.ret, [(r29.2.1.getD 0 unk)], r29.2.2)).bind fun r31 =>
match r31.1 with
| .normal => j3 C L n0 ((r31.2.1.getD 0 unk)) r31.2.2
| .exit i => none
| .ret => fin PP true n0 [unk] r31.2.2
noncomputable def sh (C : Am.Callee) (L : Loops) (n0 : Nat) (t0 : Value) (s : AS) : Option (Value × List Blk × Option Nat) :=
(((aNil t0).bind fun x1 =>
(aFieldAddr PP t_itree_node x1 3).bind fun x2 =>
(aIndexAddr PP t_A2_P_itree_node x2 (.int .i64 1)).bind fun x3 =>
(aLoad false 1 s x3).bind fun x4 =>
(C n_itree_isRed [x4] s.H).bind fun r5 =>
bcase r5.1 (
(aNil t0).bind fun x6 =>
(aFieldAddr PP t_itree_node x6 3).bind fun x7 =>
(aIndexAddr PP t_A2_P_itree_node x7 (.int .i64 0)).bind fun x8 =>
(aLoad false 1 (AS.mk r5.2.1 (joinEsc s.esc r5.2.2)) x8).bind fun x9 =>
(C n_itree_isRed [x9] (AS.mk r5.2.1 (joinEsc s.esc r5.2.2)).H).bind fun r10 =>
(aUn PP .not r10.1).bind fun x11 =>
some (AEx.normal, [t0, x11], AS.mk r10.2.1 (joinEsc (AS.mk r5.2.1 (joinEsc s.esc r5.2.2)).esc r10.2.2))) (
some (AEx.normal, [t0, .bool false], AS.mk r5.2.1 (joinEsc s.esc r5.2.2)))).bind fun r12 =>
match r12.1 with
| .normal => j0 C L n0 ((r12.2.1.getD 0 unk)) ((r12.2.1.getD 1 unk)) r12.2.2
| .exit i => some (AEx.exit i, [(r12.2.1.getD 0 unk)], r12.2.2)
| .ret => some (AEx.ret, [(r12.2.1.getD 0 unk)], r12.2.2)).bind fun r14 =>
match r14.1 with
| .normal => j1 C L n0 ((r14.2.1.getD 0 unk)) r14.2.2
| .exit i => none
| .ret => fin PP true n0 [unk] r14.2.2
def T : Tab := ⟨fun i => none, fun i => none, true, fun i => if i = 2 then some [0, 17] else if i = 3 then some [0] else if i = 4 then some [0, 37] else if i = 5 then some [0] else if i = 6 then some [0, 53] else if i = 7 then some [0] else none, fun _ => false, false, false, fun _ => false⟩
end itree_settle
namespace itree_redLeft
noncomputable def j0 (C : Am.Callee) (L : Loops) (n0 : Nat) (t0 : Value) (s : AS) : Option (Value × List Blk × Option Nat) :=
fin PP true n0 [t0] s
noncomputable def sh (C : Am.Callee) (L : Loops) (n0 : Nat) (t0 : Value) (s : AS) : Option (Value × List Blk × Option Nat) :=
(C n_itree_flip [t0] s.H).bind fun r1 =>
((aNil t0).bind fun x2 =>
(aFieldAddr PP t_itree_node x2 3).bind fun x3 =>
(aIndexAddr PP t_A2_P_itree_node x3 (.int .i64 1)).bind fun x4 =>
(aLoad false 1 (AS.mk r1.2.1 (joinEsc s.esc r1.2.2)) x4).bind fun x5 =>
(aNil x5).bind fun x6 =>
(aFieldAddr PP t_itree_node x6 3).bind fun x7 =>
(aIndexAddr PP t_A2_P_itree_node x7 (.int .i64 0)).bind fun x8 =>
(aLoad false 1 (AS.mk r1.2.1 (joinEsc s.esc r1.2.2)) x8).bind fun x9 =>
(C n_itree_isRed [x9] (AS.mk r1.2.1 (joinEsc s.esc r1.2.2)).H).bind fun r10 =>
bcase r10.1 (
(aNil t0).bind fun x11 =>
(aFieldAddr PP t_itree_node x11 3).bind fun x12 =>
(aIndexAddr PP t_A2_P_itree_node x12 (.int .i64 1)).bind fun x13 =>
(aLoad false 1 (AS.mk r10.2.1 (joinEsc (AS.mk r1.2.1 (joinEsc s.esc r1.2.2)).esc r10.2.2)) x13).bind fun x14 =>
(aNil t0).bind fun x15 =>
(aFieldAddr PP t_itree_node x15 3).bind fun x16 =>
(C n_itree_turn [x14, .int .i64 1] (AS.mk r10.2.1 (joinEsc (AS.mk r1.2.1 (joinEsc s.esc r1.2.2)).esc r10.2.2)).H).bind fun r17 =>
(aIndexAddr PP t_A2_P_itree_node x16 (.int .i64 1)).bind fun x18 =>
(aStore 1 (AS.mk r17.2.1 (joinEsc (AS.mk r10.2.1 (joinEsc (AS.mk r1.2.1 (joinEsc s.esc r1.2.2)).esc r10.2.2)).esc r17.2.2)) x18 r17.1).bind fun s19 =>
(C n_itree_turn [t0, .int .i64 0] s19.H).bind fun r20 =>
(C n_itree_flip [r20.1] (AS.mk r20.2.1 (joinEsc s19.esc r20.2.2)).H).bind fun r21 =>
some (AEx.normal, [r20.1], AS.mk r21.2.1 (joinEsc (AS.mk r20.2.1 (joinEsc s19.esc r20.2.2)).esc r21.2.2))) (
some (AEx.normal, [t0], AS.mk r10.2.1 (joinEsc (AS.mk r1.2.1 (joinEsc s.esc r1.2.2)).esc r10.2.2)))).bind fun r22 =>
match r22.1 with
| .normal => j0 C L n0 ((r22.2.1.getD 0 unk)) r22.2.2
| .exit i => none
| .ret => fin PP true n0 [unk] r22.2.2
def T : Tab := ⟨fun i => none, fun i => none, true, fun i => if i = 6 then some [0] else none, fun _ => false, false, false, fun _ => false⟩
end itree_redLeft
namespace itree_turn
noncomputable def sh (C : Am.Callee) (L : Loops) (n0 : Nat) (t0 t1 : Value) (s : AS) : Option (Value × List Blk × Option Nat) :=
(aBin PP .sub t_int (.const (.int .i64 1)) (.tmp 7) (.int .i64 1) t1).bind fun x1 =>
(aNil t0).bind fun x2 =>
(aFieldAddr PP t_itree_node x2 3).bind fun x3 =>
(aIndexAddr PP t_A2_P_itree_node x3 x1).bind fun x4 =>
(aLoad false 1 s x4).bind fun x5 =>
(aBin PP .sub t_int (.const (.int .i64 1)) (.tmp 14) (.int .i64 1) t1).bind fun x6 =>
(aNil x5).bind fun x7 =>
(aFieldAddr PP t_itree_node x7 3).bind fun x8 =>
(aIndexAddr PP t_A2_P_itree_node x8 t1).bind fun x9 =>
(aLoad false 1 s x9).bind fun x10 =>
(aNil t0).bind fun x11 =>
(aFieldAddr PP t_itree_node x11 3).bind fun x12 =>
(aIndexAddr PP t_A2_P_itree_node x12 x6).bind fun x13 =>
(aStore 1 s x13 x10).bind fun s14 =>
(aNil x5).bind fun x15 =>
(aFieldAddr PP t_itree_node x15 3).bind fun x16 =>
(aIndexAddr PP t_A2_P_itree_node x16 t1).bind fun x17 =>
(aStore 1 s14 x17 t0).bind fun s18 =>
(aNil t0).bind fun x19 =>
(aFieldAddr PP t_itree_node x19 1).bind fun x20 =>
(aLoad false 1 s18 x20).bind fun x21 =>
(aNil x5).bind fun x22 =>
(aFieldAddr PP t_itree_node x22 1).bind fun x23 =>
(aStore 1 s18 x23 x21).bind fun s24 =>
(aNil t0).bind fun x25 =>
(aFieldAddr PP t_itree_node x25 1).bind fun x26 =>
(aStore 1 s24 x26 (.bool true)).bind fun s27 =>
(C n_P_itree_node_mend [t0] s27.H).bind fun r28 =>
(C n_P_itree_node_mend [x5] (AS.mk r28.2.1 (joinEsc s27.esc r28.2.2)).H).bind fun r29 =>
fin PP true n0 [x5] (AS.mk r29.2.1 (joinEsc (AS.mk r28.2.1 (joinEsc s27.esc r28.2.2)).esc r29.2.2))
def T : Tab := ⟨fun i => none, fun i => none, true, fun i => none, fun _ => false, false, false, fun _ => false⟩
end itree_turn
namespace itree_redRight
noncomputable def j0 (C : Am.Callee) (L : Loops) (n0 : Nat) (t0 : Value) (s : AS) : Option (Value × List Blk × Option Nat) :=
fin PP true n0 [t0] s
noncomputable def sh (C : Am.Callee) (L : Loops) (n0 : Nat) (t0 : Value) (s : AS) : Option (Value × List Blk × Option Nat) :=
(C n_itree_flip [t0] s.H).bind fun r1 =>
((aNil t0).bind fun x2 =>
(aFieldAddr PP t_itree_node x2 3).bind fun x3 =>
(aIndexAddr PP t_A2_P_itree_node x3 (.int .i64 0)).bind fun x4 =>
(aLoad false 1 (AS.mk r1.2.1 (joinEsc s.esc r1.2.2)) x4).bind fun x5 =>
(aNil x5).bind fun x6 =>
(aFieldAddr PP t_itree_node x6 3).bind fun x7 =>
(aIndexAddr PP t_A2_P_itree_node x7 (.int .i64 0)).bind fun x8 =>
(aLoad false 1 (AS.mk r1.2.1 (joinEsc s.esc r1.2.2)) x8).bind fun x9 =>
(C n_itree_isRed [x9] (AS.mk r1.2.1 (joinEsc s.esc r1.2.2)).H).bind fun r10 =>
bcase r10.1 (
(C n_itree_turn [t0, .int .i64 1] (AS.mk r10.2.1 (joinEsc (AS.mk r1.2.1 (joinEsc s.esc r1.2.2)).esc r10.2.2)).H).bind fun r11 =>
(C n_itree_flip [r11.1] (AS.mk r11.2.1 (joinEsc (AS.mk r10.2.1 (joinEsc (AS.mk r1.2.1 (joinEsc s.esc r1.2.2)).esc r10.2.2)).esc r11.2.2)).H).bind fun r12 =>
some (AEx.normal, [r11.1], AS.mk r12.2.1 (joinEsc (AS.mk r11.2.1 (joinEsc (AS.mk r10.2.1 (joinEsc (AS.mk r1.2.1 (joinEsc s.esc r1.2.2)).esc r10.2.2)).esc r11.2.2)).esc r12.2.2))) (
some (AEx.normal, [t0], AS.mk r10.2.1 (joinEsc (AS.mk r1.2.1 (joinEsc s.esc r1.2.2)).esc r10.2.2)))).bind fun r13 =>
match r13.1 with
| .normal => j0 C L n0 ((r13.2.1.getD 0 unk)) r13.2.2
| .exit i => none
| .ret => fin PP true n0 [unk] r13.2.2
def T : Tab := ⟨fun i => none, fun i => none, true, fun i => if i = 5 then some [0] else none, fun _ => false, false, false, fun _ => false⟩
end itree_redRight
namespace itree_first
noncomputable def loop1 (C : Am.Callee) (L : Loops) (n0 : Nat) (t0 t2 : Value) (s : AS) : Option ((List Value × AS) ⊕ (AEx × List Value × AS)) :=
(aNil t0).bind fun x2 =>
(aFieldAddr PP t_itree_node x2 3).bind fun x3 =>
(aIndexAddr PP t_A2_P_itree_node x3 (.int .i64 0)).bind fun x4 =>
(aLoad false 1 s x4).bind fun x5 =>
(aBin PP .neq t_P_itree_node (.tmp 7) (.const (.pointer none)) x5 (.pointer none)).bind fun x6 =>
bcase x6 (
(aNil t0).bind fun x7 =>
(aFieldAddr PP t_itree_node x7 3).bind fun x8 =>
(aIndexAddr PP t_A2_P_itree_node x8 (.int .i64 0)).bind fun x9 =>
(aLoad false 1 s x9).bind fun x10 =>
some (.inl ([x10, t2], s))) (
some (.inr (.exit 0, [t0, t2], s)))
noncomputable def loop1s (C : Am.Callee) (L : Loops) (n0 : Nat) : List Value × AS → Option ((List Value × AS) ⊕ (AEx × List Value × AS)) := fun s => loop1 C L n0 (s.1.getD 0 unk) (s.1.getD 1 unk) s.2
noncomputable def j2 (C : Am.Callee) (L : Loops) (n0 : Nat) (t0 t2 : Value) (s : AS) : Option (Value × List Blk × Option Nat) :=
(aNil t0).bind fun x13 =>
(aFieldAddr PP t_itree_node x13 0).bind fun x14 =>
(aLoad true 3 s x14).bind fun x15 =>
(aStore 3 s t2 x15).bind fun s16 =>
((aLoad true 3 s16 t2).bind fun x18 => (some []).bind fun y19 => some (x18 :: y19)).bind fun z17 => fin PP false n0 z17 s16
noncomputable def sh (C : Am.Callee) (L : Loops) (n0 : Nat) (t0 : Value) (s : AS) : Option (Value × List Blk × Option Nat) :=
(aBox t_itree_entry ((zeroP PP t_itree_entry).getD unk) s).bind fun r1 =>
((L n0 (loop1s C L n0) ([t0, r1.1], r1.2)).bind fun r11 =>
match r11.1 with
| .normal => some (AEx.normal, [(r11.2.1.getD 0 unk), (r11.2.1.getD 1 unk)], r11.2.2)
| .exit i => if i = 0 then some (AEx.normal, [(r11.2.1.getD 0 unk), (r11.2.1.getD 1 unk)], r11.2.2) else some (AEx.exit i, [(r11.2.1.getD 0 unk), (r11.2.1.getD 1 unk)], r11.2.2)
| .ret => some (AEx.ret, [(r11.2.1.getD 0 unk), (r11.2.1.getD 1 unk)], r11.2.2)).bind fun r12 =>
match r12.1 with
| .normal => j2 C L n0 ((r12.2.1.getD 0 unk)) ((r12.2.1.getD 1 unk)) r12.2.2
| .exit i => none
| .ret => ((aLoad true 3 r12.2.2 ((r12.2.1.getD 1 unk))).bind fun x21 => (some []).bind fun y22 => some (x21 :: y22)).bind fun z20 => fin PP false n0 z20 r12.2.2
def T : Tab := ⟨fun i => if i = 1 then some [0, 2] else none, fun i => if i = 1 then some [0, 2] else none, false, fun i => if i = 3 then some [0, 2] else none, fun _ => false, false, false, fun _ => false⟩
end itree_first
namespace itree_behead
noncomputable def j0 (C : Am.Callee) (L : Loops) (n0 : Nat) (t0 t28 : Value) (s : AS) : Option (AEx × List Value × AS) :=
bcase t28 (
(C n_itree_redLeft [t0] s.H).bind fun r23 =>
some (AEx.normal, [r23.1], AS.mk r23.2.1 (joinEsc s.esc r23.2.2))) (
some (AEx.normal, [t0], s))
noncomputable def j1 (C : Am.Callee) (L : Loops) (n0 : Nat) (t0 : Value) (s : AS) : Option (Value × List Blk × Option Nat) :=
(aNil t0).bind fun x25 =>
(aFieldAddr PP t_itree_node x25 3).bind fun x26 =>
(aIndexAddr PP t_A2_P_itree_node x26 (.int .i64 0)).bind fun x27 =>
(aLoad false 1 s x27).bind fun x28 =>
(aNil t0).bind fun x29 =>
(aFieldAddr PP t_itree_node x29 3).bind fun x30 =>
(C n_itree_behead [x28] s.H).bind fun r31 =>
(aIndexAddr PP t_A2_P_itree_node x30 (.int .i64 0)).bind fun x32 =>
(aStore 1 (AS.mk r31.2.1 (joinEsc s.esc r31.2.2)) x32 r31.1).bind fun s33 =>
(C n_itree_settle [t0] s33.H).bind fun r34 =>
fin PP true n0 [r34.1] (AS.mk r34.2.1 (joinEsc s33.esc r34.2.2))
noncomputable def sh (C : Am.Callee) (L : Loops) (n0 : Nat) (t0 : Value) (s : AS) : Option (Value × List Blk × Option Nat) :=
(aNil t0).bind fun x1 =>
(aFieldAddr PP t_itree_node x1 3).bind fun x2 =>
(aIndexAddr PP t_A2_P_itree_node x2 (.int .i64 0)).bind fun x3 =>
(aLoad false 1 s x3).bind fun x4 =>
(aBin PP .eql t_P_itree_node (.tmp 7) (.const (.pointer none)) x4 (.pointer none)).bind fun x5 =>
bcase x5 (
fin PP true n0 [.pointer none] s) (
(((aNil t0).bind fun x6 =>
(aFieldAddr PP t_itree_node x6 3).bind fun x7 =>
(aIndexAddr PP t_A2_P_itree_node x7 (.int .i64 0)).bind fun x8 =>
(aLoad false 1 s x8).bind fun x9 =>
(C n_itree_isRed [x9] s.H).bind fun r10 =>
(aUn PP .not r10.1).bind fun x11 =>
bcase x11 (
(aNil t0).bind fun x12 =>
(aFieldAddr PP t_itree_node x12 3).bind fun x13 =>
(aIndexAddr PP t_A2_P_itree_node x13 (.int .i64 0)).bind fun x14 =>
(aLoad false 1 (AS.mk r10.2.1 (joinEsc s.esc r10.2.2)) x14).bind fun x15 =>
(aNil x15).bind fun x16 =>
(aFieldAddr PP t_itree_node x16 3).bind fun x17 =>
(aIndexAddr PP t_A2_P_itree_node x17 (.int .i64 0)).bind fun x18 =>
(aLoad false 1 (AS.mk r10.2.1 (joinEsc s.esc r10.2.2)) x18).bind fun x19 =>
(C n_itree_isRed [x19] (AS.mk r10.2.1 (joinEsc s.esc r10.2.2)).H).bind fun r20 =>
(aUn PP .not r20.1).bind fun x21 =>
some (AEx.normal, [t0, x21], AS.mk r20.2.1 (joinEsc (AS.mk r10.2.1 (joinEsc s.esc r10.2.2)).esc r20.2.2))) (
some (AEx.normal, [t0, .bool false], AS.mk r10.2.1 (joinEsc s.esc r10.2.2)))).bind fun r22 =>
match r22.1 with
| .normal => j0 C L n0 ((r22.2.1.getD 0 unk)) ((r22.2.1.getD 1 unk)) r22.2.2
| .exit i => some (AEx.exit i, [(r22.2.1.getD 0 unk)], r22.2.2)
| .ret => some (AEx.ret, [(r22.2.1.getD 0 unk)], r22.2.2)).bind fun r24 =>
match r24.1 with
| .normal => j1 C L n0 ((r24.2.1.getD 0 unk)) r24.2.2
| .exit i => none
| .ret => fin PP true n0 [unk] r24.2.2)
def T : Tab := ⟨fun i => none, fun i => none, true, fun i => if i = 4 then some [0, 28] else if i = 5 then some [0] else none, fun _ => false, false, false, fun _ => false⟩
end itree_behead
namespace span_End
noncomputable def sh (C : Am.Callee) (L : Loops) (n0 : Nat) (t0 : Value) (s : AS) : Option (Value × List Blk × Option Nat) :=
(aBox t_api_Span t0 s).bind fun r1 =>
(aLoad true 2 r1.2 r1.1).bind fun x2 =>
(C n_span_Plain [x2] r1.2.H).bind fun r3 =>
(aUn PP .not r3.1).bind fun x4 =>
bcase x4 (
fin PP false n0 [.int .i64 0] (AS.mk r3.2.1 (joinEsc r1.2.esc r3.2.2))) (
(aFieldAddr PP t_api_Span r1.1 0).bind fun x5 =>
(aLoad false 1 (AS.mk r3.2.1 (joinEsc r1.2.esc r3.2.2)) x5).bind fun x6 =>
(aFieldAddr PP t_api_Span r1.1 1).bind fun x7 =>
(aLoad false 1 (AS.mk r3.2.1 (joinEsc r1.2.esc r3.2.2)) x7).bind fun x8 =>
(aBin PP .add t_int (.tmp 7) (.tmp 9) x6 x8).bind fun x9 =>
fin PP false n0 [x9] (AS.mk r3.2.1 (joinEsc r1.2.esc r3.2.2)))
def T : Tab := ⟨fun i => none, fun i => none, false, fun i => none, fun _ => false, false, false, fun _ => false⟩
end span_End
namespace span_Overlap
noncomputable def sh (C : Am.Callee) (L : Loops) (n0 : Nat) (t0 t1 : Value) (s : AS) : Option (Value × List Blk × Option Nat) :=
(aBox t_api_Span t0 s).bind fun r1 =>
(aBox t_api_Span t1 r1.2).bind fun r2 =>
(aLoad true 2 r2.2 r1.1).bind fun x3 =>
(aLoad true 2 r2.2 r2.1).bind fun x4 =>
(C n_span_Meet [x3, x4] r2.2.H).bind fun r5 =>
(pureRun PP (Instr.extract r5.1 0)).bind fun x6 =>
(pureRun PP (Instr.extract r5.1 1)).bind fun x7 =>
(aBox t_api_Span ((zeroP PP t_api_Span).getD unk) (AS.mk r5.2.1 (joinEsc r2.2.esc r5.2.2))).bind fun r8 =>
(aStore 2 r8.2 r8.1 x6).bind fun s9 =>
fin PP false n0 [x7] s9
def T : Tab := ⟨fun i => none, fun i => none, false, fun i => none, fun _ => false, false, false, fun _ => false⟩
end span_Overlap
namespace twainref14_less
noncomputable def sh (C : Am.Callee) (L : Loops) (n0 : Nat) (t0 t1 : Value) (s : AS) : Option (Value × List Blk × Option Nat) :=
(aBox t_twainref14_Item t0 s).bind fun r1 =>
(aBox t_twainref14_Item t1 r1.2).bind fun r2 =>
(aFieldAddr PP t_twainref14_Item r1.1 0).bind fun x3 =>
(aFieldAddr PP t_api_Span x3 0).bind fun x4 =>
(aLoad false 1 r2.2 x4).bind fun x5 =>
(aFieldAddr PP t_twainref14_Item r2.1 0).bind fun x6 =>
(aFieldAddr PP t_api_Span x6 0).bind fun x7 =>
(aLoad false 1 r2.2 x7).bind fun x8 =>
(aBin PP .neq t_int (.tmp 7) (.tmp 10) x5 x8).bind fun x9 =>
bcase x9 (
(aFieldAddr PP t_twainref14_Item r1.1 0).bind fun x10 =>
(aFieldAddr PP t_api_Span x10 0).bind fun x11 =>
(aLoad false 1 r2.2 x11).bind fun x12 =>
(aFieldAddr PP t_twainref14_Item r2.1 0).bind fun x13 =>
(aFieldAddr PP t_api_Span x13 0).bind fun x14 =>
(aLoad false 1 r2.2 x14).bind fun x15 =>
(aBin PP .lss t_int (.tmp 14) (.tmp 17) x12 x15).bind fun x16 =>
fin PP false n0 [x16] r2.2) (
(aFieldAddr PP t_twainref14_Item r1.1 0).bind fun x17 =>
(aFieldAddr PP t_api_Span x17 1).bind fun x18 =>
(aLoad false 1 r2.2 x18).bind fun x19 =>
(aFieldAddr PP t_twainref14_Item r2.1 0).bind fun x20 =>
(aFieldAddr PP t_api_Span x20 1).bind fun x21 =>
(aLoad false 1 r2.2 x21).bind fun x22 =>
(aBin PP .neq t_int (.tmp 21) (.tmp 24) x19 x22).bind fun x23 =>
bcase x23 (
(aFieldAddr PP t_twainref14_Item r1.1 0).bind fun x24 =>
(aFieldAddr PP t_api_Span x24 1).bind fun x25 =>
(aLoad false 1 r2.2 x25).bind fun x26 =>
(aFieldAddr PP t_twainref14_Item r2.1 0).bind fun x27 =>
(aFieldAddr PP t_api_Span x27 1).bind fun x28 =>
(aLoad false 1 r2.2 x28).bind fun x29 =>
(aBin PP .lss t_int (.tmp 28) (.tmp 31) x26 x29).bind fun x30 =>
fin PP false n0 [x30] r2.2) (
(aFieldAddr PP t_twainref14_Item r1.1 1).bind fun x31 =>
(aLoad false 1 r2.2 x31).bind fun x32 =>
(aFieldAddr PP t_twainref14_Item r2.1 1).bind fun x33 =>
(aLoad false 1 r2.2 x33).bind fun x34 =>
(aBin PP .lss t_int (.tmp 34) (.tmp 36) x32 x34).bind fun x35 =>
fin PP false n0 [x35] r2.2))
def T : Tab := ⟨fun i => none, fun i => none, false, fun i => none, fun _ => false, false, false, fun _ => false⟩
end twainref14_less
namespace twainref04_Meet
noncomputable def j0 (C : Am.Callee) (L : Loops) (n0 : Nat) (t2 t3 t4 t15 : Value) (s : AS) : Option (AEx × List Value × AS) :=
bcase t15 (
(aBuild PP t_api_Span []).bind fun x11 =>
(aStore 2 s t4 x11).bind fun s12 =>
some (AEx.ret, [t2, t3, t4, .bool false], s12)) (
some (AEx.normal, [t2, t3, t4, unk], s))
noncomputable def j3 (C : Am.Callee) (L : Loops) (n0 : Nat) (t4 t6 t7 : Value) (s : AS) : Option (Value × List Blk × Option Nat) :=
(aBin PP .geq t_int (.tmp 42) (.tmp 43) t6 t7).bind fun x39 =>
bcase x39 (
(aBuild PP t_api_Span []).bind fun x40 =>
(aStore 2 s t4 x40).bind fun s41 =>
((aLoad true 2 s41 t4).bind fun x43 => ((some (.bool false)).bind fun x45 => (some []).bind fun y46 => some (x45 :: y46)).bind fun y44 => some (x43 :: y44)).bind fun z42 => fin PP false n0 z42 s41) (
(aBin PP .sub t_int (.tmp 47) (.tmp 48) t7 t6).bind fun x47 =>
(aBuild PP t_api_Span [(0, t6), (1, x47)]).bind fun x48 =>
(aStore 2 s t4 x48).bind fun s49 =>
((aLoad true 2 s49 t4).bind fun x51 => ((some (.bool true)).bind fun x53 => (some []).bind fun y54 => some (x53 :: y54)).bind fun y52 => some (x51 :: y52)).bind fun z50 => fin PP false n0 z50 s49)
noncomputable def j2 (C : Am.Callee) (L : Loops) (n0 : Nat) (t3 t4 t6 t7 : Value) (s : AS) : Option (Value × List Blk × Option Nat) :=
((aFieldAddr PP t_api_Span t3 0).bind fun x27 =>
(aLoad false 1 s x27).bind fun x28 =>
(aFieldAddr PP t_api_Span t3 1).bind fun x29 =>
(aLoad false 1 s x29).bind fun x30 =>
(aBin PP .add t_int (.tmp 31) (.tmp 33) x28 x30).bind fun x31 =>
(aBin PP .lss t_int (.tmp 34) (.tmp 35) x31 t7).bind fun x32 =>
bcase x32 (
(aFieldAddr PP t_api_Span t3 0).bind fun x33 =>
(aLoad false 1 s x33).bind fun x34 =>
(aFieldAddr PP t_api_Span t3 1).bind fun x35 =>
(aLoad false 1 s x35).bind fun x36 =>
(aBin PP .add t_int (.tmp 38) (.tmp 40) x34 x36).bind fun x37 =>
some (AEx.normal, [t4, t6, x37], s)) (
some (AEx.normal, [t4, t6, t7], s))).bind fun r38 =>
match r38.1 with
| .normal => j3 C L n0 ((r38.2.1.getD 0 unk)) ((r38.2.1.getD 1 unk)) ((r38.2.1.getD 2 unk)) r38.2.2
| .exit i => none
| .ret => ((aLoad true 2 r38.2.2 ((r38.2.1.getD 0 unk))).bind fun x56 => ((some unk).bind fun x58 => (some []).bind fun y59 => some (x58 :: y59)).bind fun y57 => some (x56 :: y57)).bind fun z55 => fin PP false n0 z55 r38.2.2
noncomputable def j1 (C : Am.Callee) (L : Loops) (n0 : Nat) (t2 t3 t4 : Value) (s : AS) : Option (Value × List Blk × Option Nat) :=
(aFieldAddr PP t_api_Span t2 0).bind fun x14 =>
(aLoad false 1 s x14).bind fun x15 =>
(aFieldAddr PP t_api_Span t2 0).bind fun x16 =>
(aLoad false 1 s x16).bind fun x17 =>
(aFieldAddr PP t_api_Span t2 1).bind fun x18 =>
(aLoad false 1 s x18).bind fun x19 =>
(aBin PP .add t_int (.tmp 20) (.tmp 22) x17 x19).bind fun x20 =>
((aFieldAddr PP t_api_Span t3 0).bind fun x21 =>
(aLoad false 1 s x21).bind fun x22 =>
(aBin PP .gtr t_int (.tmp 25) (.tmp 26) x22 x15).bind fun x23 =>
bcase x23 (
(aFieldAddr PP t_api_Span t3 0).bind fun x24 =>
(aLoad false 1 s x24).bind fun x25 =>
some (AEx.normal, [t3, t4, x25, x20], s)) (
some (AEx.normal, [t3, t4, x15, x20], s))).bind fun r26 =>
match r26.1 with
| .normal => j2 C L n0 ((r26.2.1.getD 0 unk)) ((r26.2.1.getD 1 unk)) ((r26.2.1.getD 2 unk)) ((r26.2.1.getD 3 unk)) r26.2.2
| .exit i => none
| .ret => ((aLoad true 2 r26.2.2 ((r26.2.1.getD 1 unk))).bind fun x61 => ((some unk).bind fun x63 => (some []).bind fun y64 => some (x63 :: y64)).bind fun y62 => some (x61 :: y62)).bind fun z60 => fin PP false n0 z60 r26.2.2
noncomputable def sh (C : Am.Callee) (L : Loops) (n0 : Nat) (t0 t1 : Value) (s : AS) : Option (Value × List Blk × Option Nat) :=
(aBox t_api_Span t0 s).bind fun r1 =>
(aBox t_api_Span t1 r1.2).bind fun r2 =>
(aBox t_api_Span ((zeroP PP t_api_Span).getD unk) r2.2).bind fun r3 =>
(((aLoad true 2 r3.2 r1.1).bind fun x4 =>
(C n_twainref04_Plain [x4] r3.2.H).bind fun r5 =>
(aUn PP .not r5.1).bind fun x6 =>
bcase x6 (
some (AEx.normal, [r1.1, r2.1, r3.1, .bool true], AS.mk r5.2.1 (joinEsc r3.2.esc r5.2.2))) (
(aLoad true 2 (AS.mk r5.2.1 (joinEsc r3.2.esc r5.2.2)) r2.1).bind fun x7 =>
(C n_twainref04_Plain [x7] (AS.mk r5.2.1 (joinEsc r3.2.esc r5.2.2)).H).bind fun r8 =>
(aUn PP .not r8.1).bind fun x9 =>
some (AEx.normal, [r1.1, r2.1, r3.1, x9], AS.mk r8.2.1 (joinEsc (AS.mk r5.2.1 (joinEsc r3.2.esc r5.2.2)).esc r8.2.2)))).bind fun r10 =>
match r10.1 with
| .normal => j0 C L n0 ((r10.2.1.getD 0 unk)) ((r10.2.1.getD 1 unk)) ((r10.2.1.getD 2 unk)) ((r10.2.1.getD 3 unk)) r10.2.2
| .exit i => some (AEx.exit i, [(r10.2.1.getD 0 unk), (r10.2.1.getD 1 unk), (r10.2.1.getD 2 unk), unk], r10.2.2)
| .ret => some (AEx.ret, [(r10.2.1.getD 0 unk), (r10.2.1.getD 1 unk), (r10.2.1.getD 2 unk), unk], r10.2.2)).bind fun r13 =>
match r13.1 with
| .normal => j1 C L n0 ((r13.2.1.getD 0 unk)) ((r13.2.1.getD 1 unk)) ((r13.2.1.getD 2 unk)) r13.2.2
| .exit i => none
| .ret => ((aLoad true 2 r13.2.2 ((r13.2.1.getD 2 unk))).bind fun x66 => ((some ((r13.2.1.getD 3 unk))).bind fun x68 => (some []).bind fun y69 => some (x68 :: y69)).bind fun y67 => some (x66 :: y67)).bind fun z65 => fin PP false n0 z65 r13.2.2
def T : Tab := ⟨fun i => none, fun i => none, false, fun i => if i = 2 then some [2, 3, 4, 15] else if i = 3 then some [2, 3, 4, 5] else if i = 6 then some [3, 4, 6, 7] else if i = 8 then some [4, 6, 7] else none, fun _ => false, false, false, fun _ => false⟩
end twainref04_Meet
namespace cmp_Or_int
noncomputable def loop3 (C : Am.Callee) (L : Loops) (n0 : Nat) (t3 t6 t7 t8 : Value) (s : AS) : Option ((List Value × AS) ⊕ (AEx × List Value × AS)) :=
(aBin PP .lss t_int (.tmp 8) (.tmp 7) t8 t7).bind fun x2 =>
bcase x2 (
(aIndexAddr PP t_L_int t6 t8).bind fun x3 =>
(aLoad false 1 s x3).bind fun x4 =>
(aBin PP .neq t_int (.tmp 12) (.tmp 13) x4 t3).bind fun x5 =>
bcase x5 (
some (.inr (.ret, [x4, t3], s))) (
(aBin PP .add t_int (.tmp 8) (.const (.int .i64 1)) t8 (.int .i64 1)).bind fun x6 =>
some (.inl ([t3, t6, t7, x6], s)))) (
some (.inr (.exit 0, [unk, t3], s)))
noncomputable def loop3s (C : Am.Callee) (L : Loops) (n0 : Nat) : List Value × AS → Option ((List Value × AS) ⊕ (AEx × List Value × AS)) := fun s => loop3 C L n0 (s.1.getD 0 unk) (s.1.getD 1 unk) (s.1.getD 2 unk) (s.1.getD 3 unk) s.2
noncomputable def j2 (C : Am.Callee) (L : Loops) (n0 : Nat) (t3 : Value) (s : AS) : Option (Value × List Blk × Option Nat) :=
fin PP false n0 [t3] s
noncomputable def sh (C : Am.Callee) (L : Loops) (n0 : Nat) (t0 : Value) (s : AS) : Option (Value × List Blk × Option Nat) :=
((aLen PP t_L_int t0 s).bind fun x1 =>
(L n0 (loop3s C L n0) ([.int .i64 0, t0, x1, .int .i64 0], s)).bind fun r7 =>
match r7.1 with
| .normal => some (AEx.normal, [(r7.2.1.getD 0 unk), (r7.2.1.getD 1 unk)], r7.2.2)
| .exit i => if i = 0 then some (AEx.normal, [(r7.2.1.getD 0 unk), (r7.2.1.getD 1 unk)], r7.2.2) else some (AEx.exit i, [(r7.2.1.getD 0 unk), (r7.2.1.getD 1 unk)], r7.2.2)
| .ret => some (AEx.ret, [(r7.2.1.getD 0 unk), (r7.2.1.getD 1 unk)], r7.2.2)).bind fun r8 =>
match r8.1 with
| .normal => j2 C L n0 ((r8.2.1.getD 1 unk)) r8.2.2
| .exit i => none
| .ret => fin PP false n0 [(r8.2.1.getD 0 unk)] r8.2.2
def T : Tab := ⟨fun i => if i = 3 then some [3, 6, 7, 8] else none, fun i => if i = 3 then some [2, 3] else none, false, fun i => if i = 8 then some [2, 3] else none, fun _ => false, false, false, fun _ => false⟩
end cmp_Or_int
namespace cmp_Compare_int
noncomputable def sh (C : Am.Callee) (L : Loops) (n0 : Nat) (t0 t1 : Value) (s : AS) : Option (Value × List Blk × Option Nat) :=
(C n_cmp_isNaN_int [t0] s.H).bind fun r1 =>
(C n_cmp_isNaN_int [t1] (AS.mk r1.2.1 (joinEsc s.esc r1.2.2)).H).bind fun r2 =>
bcase r1.1 (
bcase r2.1 (
fin PP false n0 [.int .i64 0] (AS.mk r2.2.1 (joinEsc (AS.mk r1.2.1 (joinEsc s.esc r1.2.2)).esc r2.2.2))) (
fin PP false n0 [.int .i64 (-1)] (AS.mk r2.2.1 (joinEsc (AS.mk r1.2.1 (joinEsc s.esc r1.2.2)).esc r2.2.2)))) (
bcase r2.1 (
fin PP false n0 [.int .i64 1] (AS.mk r2.2.1 (joinEsc (AS.mk r1.2.1 (joinEsc s.esc r1.2.2)).esc r2.2.2))) (
(aBin PP .lss t_int (.tmp 14) (.tmp 15) t0 t1).bind fun x3 =>
bcase x3 (
fin PP false n0 [.int .i64 (-1)] (AS.mk r2.2.1 (joinEsc (AS.mk r1.2.1 (joinEsc s.esc r1.2.2)).esc r2.2.2))) (
(aBin PP .gtr t_int (.tmp 17) (.tmp 18) t0 t1).bind fun x4 =>
bcase x4 (
fin PP false n0 [.int .i64 1] (AS.mk r2.2.1 (joinEsc (AS.mk r1.2.1 (joinEsc s.esc r1.2.2)).esc r2.2.2))) (
fin PP false n0 [.int .i64 0] (AS.mk r2.2.1 (joinEsc (AS.mk r1.2.1 (joinEsc s.esc r1.2.2)).esc r2.2.2))))))
def T : Tab := ⟨fun i => none, fun i => none, false, fun i => none, fun _ => false, false, false, fun _ => false⟩
end cmp_Compare_int
namespace itree_reach
noncomputable def sh (C : Am.Callee) (L : Loops) (n0 : Nat) (t0 : Value) (s : AS) : Option (Value × List Blk × Option Nat) :=
(aBin PP .eql t_P_itree_node (.tmp 3) (.const (.pointer none)) t0 (.pointer none)).bind fun x1 =>
bcase x1 (
fin PP false n0 [.int .i64 0] s) (
(aNil t0).bind fun x2 =>
(aFieldAddr PP t_itree_node x2 2).bind fun x3 =>
(aLoad false 1 s x3).bind fun x4 =>
fin PP false n0 [x4] s)
def T : Tab := ⟨fun i => none, fun i => none, false, fun i => none, fun _ => false, false, false, fun _ => false⟩
end itree_reach
namespace itree_flip
noncomputable def sh (C : Am.Callee) (L : Loops) (n0 : Nat) (t0 : Value) (s : AS) : Option (Value × List Blk × Option Nat) :=
(aNil t0).bind fun x1 =>
(aFieldAddr PP t_itree_node x1 1).bind fun x2 =>
(aLoad false 1 s x2).bind fun x3 =>
(aUn PP .not x3).bind fun x4 =>
(aNil t0).bind fun x5 =>
(aFieldAddr PP t_itree_node x5 1).bind fun x6 =>
(aStore 1 s x6 x4).bind fun s7 =>
(aNil t0).bind fun x8 =>
(aFieldAddr PP t_itree_node x8 3).bind fun x9 =>
(aIndexAddr PP t_A2_P_itree_node x9 (.int .i64 0)).bind fun x10 =>
(aLoad false 1 s7 x10).bind fun x11 =>
(aNil t0).bind fun x12 =>
(aFieldAddr PP t_itree_node x12 3).bind fun x13 =>
(aIndexAddr PP t_A2_P_itree_node x13 (.int .i64 0)).bind fun x14 =>
(aLoad false 1 s7 x14).bind fun x15 =>
(aNil x15).bind fun x16 =>
(aFieldAddr PP t_itree_node x16 1).bind fun x17 =>
(aLoad false 1 s7 x17).bind fun x18 =>
(aUn PP .not x18).bind fun x19 =>
(aNil x11).bind fun x20 =>
(aFieldAddr PP t_itree_node x20 1).bind fun x21 =>
(aStore 1 s7 x21 x19).bind fun s22 =>
(aNil t0).bind fun x23 =>
(aFieldAddr PP t_itree_node x23 3).bind fun x24 =>
(aIndexAddr PP t_A2_P_itree_node x24 (.int .i64 1)).bind fun x25 =>
(aLoad false 1 s22 x25).bind fun x26 =>
(aNil t0).bind fun x27 =>
(aFieldAddr PP t_itree_node x27 3).bind fun x28 =>
(aIndexAddr PP t_A2_P_itree_node x28 (.int .i64 1)).bind fun x29 =>
(aLoad false 1 s22 x29).bind fun x30 =>
(aNil x30).bind fun x31 =>
(aFieldAddr PP t_itree_node x31 1).bind fun x32 =>
(aLoad false 1 s22 x32).bind fun x33 =>
(aUn PP .not x33).bind fun x34 =>
(aNil x26).bind fun x35 =>
(aFieldAddr PP t_itree_node x35 1).bind fun x36 =>
(aStore 1 s22 x36 x34).bind fun s37 =>
fin PP true n0 [] s37
def T : Tab := ⟨fun i => none, fun i => none, true, fun i => none, fun _ => false, false, false, fun _ => false⟩
end itree_flip
namespace span_Meet
noncomputable def j0 (C : Am.Callee) (L : Loops) (n0 : Nat) (t2 t3 t4 t17 : Value) (s : AS) : Option (AEx × List Value × AS) :=
bcase t17 (
(aBuild PP t_api_Span []).bind fun x11 =>
(aStore 2 s t4 x11).bind fun s12 =>
some (AEx.ret, [t2, t3, t4, .bool false], s12)) (
some (AEx.normal, [t2, t3, t4, unk], s))
noncomputable def j1 (C : Am.Callee) (L : Loops) (n0 : Nat) (t2 t3 t4 : Value) (s : AS) : Option (Value × List Blk × Option Nat) :=
(aLoad true 2 s t2).bind fun x14 =>
(aBuild PP t_span_side [(0, x14)]).bind fun x15 =>
(aLoad true 2 s t2).bind fun x16 =>
(aBuild PP t_span_side [(0, x16)]).bind fun x17 =>
(aFieldAddr PP t_api_Span t3 0).bind fun x18 =>
(aLoad false 1 s x18).bind fun x19 =>
(aLoad true 2 s t3).bind fun x20 =>
(aFn PP (.func (.func n_span_side_from) (#[x15]) (#[])) [x19]).bind fun g22 =>
(C g22.1 g22.2 s.H).bind fun r21 =>
if ((((aLoad true 2 (AS.mk r21.2.1 (joinEsc s.esc r21.2.2)) t3).bind fun x42 =>
some (veq x42 x20)) == some true) && true) = true then
(C n_span_End [x20] (AS.mk r21.2.1 (joinEsc s.esc r21.2.2)).H).bind fun r23 =>
(aFn PP (.func (.func n_span_side_to) (#[x17]) (#[])) [r23.1]).bind fun g25 =>
(C g25.1 g25.2 (AS.mk r23.2.1 (joinEsc (AS.mk r21.2.1 (joinEsc s.esc r21.2.2)).esc r23.2.2)).H).bind fun r24 =>
(aBin PP .geq t_int (.tmp 33) (.tmp 34) r21.1 r24.1).bind fun x26 =>
bcase x26 (
(aBuild PP t_api_Span []).bind fun x27 =>
(aStore 2 (AS.mk r24.2.1 (joinEsc (AS.mk r23.2.1 (joinEsc (AS.mk r21.2.1 (joinEsc s.esc r21.2.2)).esc r23.2.2)).esc r24.2.2)) t4 x27).bind fun s28 =>
((aLoad true 2 s28 t4).bind fun x30 => ((some (.bool false)).bind fun x32 => (some []).bind fun y33 => some (x32 :: y33)).bind fun y31 => some (x30 :: y31)).bind fun z29 => fin PP false n0 z29 s28) (
(aBin PP .sub t_int (.tmp 38) (.tmp 39) r24.1 r21.1).bind fun x34 =>
(aBuild PP t_api_Span [(0, r21.1), (1, x34)]).bind fun x35 =>
(aStore 2 (AS.mk r24.2.1 (joinEsc (AS.mk r23.2.1 (joinEsc (AS.mk r21.2.1 (joinEsc s.esc r21.2.2)).esc r23.2.2)).esc r24.2.2)) t4 x35).bind fun s36 =>
((aLoad true 2 s36 t4).bind fun x38 => ((some (.bool true)).bind fun x40 => (some []).bind fun y41 => some (x40 :: y41)).bind fun y39 => some (x38 :: y39)).bind fun z37 => fin PP false n0 z37 s36)
else none
noncomputable def sh (C : Am.Callee) (L : Loops) (n0 : Nat) (t0 t1 : Value) (s : AS) : Option (Value × List Blk × Option Nat) :=
(aBox t_api_Span t0 s).bind fun r1 =>
(aBox t_api_Span t1 r1.2).bind fun r2 =>
(aBox t_api_Span ((zeroP PP t_api_Span).getD unk) r2.2).bind fun r3 =>
(((aLoad true 2 r3.2 r1.1).bind fun x4 =>
(C n_span_Plain [x4] r3.2.H).bind fun r5 =>
(aUn PP .not r5.1).bind fun x6 =>
bcase x6 (
some (AEx.normal, [r1.1, r2.1, r3.1, .bool true], AS.mk r5.2.1 (joinEsc r3.2.esc r5.2.2))) (
(aLoad true 2 (AS.mk r5.2.1 (joinEsc r3.2.esc r5.2.2)) r2.1).bind fun x7 =>
(C n_span_Plain [x7] (AS.mk r5.2.1 (joinEsc r3.2.esc r5.2.2)).H).bind fun r8 =>
(aUn PP .not r8.1).bind fun x9 =>
some (AEx.normal, [r1.1, r2.1, r3.1, x9], AS.mk r8.2.1 (joinEsc (AS.mk r5.2.1 (joinEsc r3.2.esc r5.2.2)).esc r8.2.2)))).bind fun r10 =>
match r10.1 with
| .normal => j0 C L n0 ((r10.2.1.getD 0 unk)) ((r10.2.1.getD 1 unk)) ((r10.2.1.getD 2 unk)) ((r10.2.1.getD 3 unk)) r10.2.2
| .exit i => some (AEx.exit i, [(r10.2.1.getD 0 unk), (r10.2.1.getD 1 unk), (r10.2.1.getD 2 unk), unk], r10.2.2)
| .ret => some (AEx.ret, [(r10.2.1.getD 0 unk), (r10.2.1.getD 1 unk), (r10.2.1.getD 2 unk), unk], r10.2.2)).bind fun r13 =>
match r13.1 with
| .normal => j1 C L n0 ((r13.2.1.getD 0 unk)) ((r13.2.1.getD 1 unk)) ((r13.2.1.getD 2 unk)) r13.2.2
| .exit i => none
| .ret => ((aLoad true 2 r13.2.2 ((r13.2.1.getD 2 unk))).bind fun x44 => ((some ((r13.2.1.getD 3 unk))).bind fun x46 => (some []).bind fun y47 => some (x46 :: y47)).bind fun y45 => some (x44 :: y45)).bind fun z43 => fin PP false n0 z43 r13.2.2
def T : Tab := ⟨fun i => none, fun i => none, false, fun i => if i = 2 then some [2, 3, 4, 17] else if i = 3 then some [2, 3, 4, 5] else none, fun _ => false, false, false, fun _ => false⟩
end span_Meet
namespace cmp_isNaN_int
noncomputable def sh (C : Am.Callee) (L : Loops) (n0 : Nat) (t0 : Value) (s : AS) : Option (Value × List Blk × Option Nat) :=
(aBin PP .neq t_int (.tmp 3) (.tmp 4) t0 t0).bind fun x1 =>
fin PP false n0 [x1] s
def T : Tab := ⟨fun i => none, fun i => none, false, fun i => none, fun _ => false, false, false, fun _ => false⟩
end cmp_isNaN_int
namespace span_side_from
noncomputable def sh (C : Am.Callee) (L : Loops) (n0 : Nat) (t0 t1 : Value) (s : AS) : Option (Value × List Blk × Option Nat) :=
(aBox t_span_side t0 s).bind fun r1 =>
(aFieldAddr PP t_span_side r1.1 0).bind fun x2 =>
(aFieldAddr PP t_api_Span x2 0).bind fun x3 =>
(aLoad false 1 r1.2 x3).bind fun x4 =>
eBuiltin PP .max #[t_int, t_int] [x4, t1] r1.2 fun x5 s6 =>
fin PP false n0 [x5] s6
def T : Tab := ⟨fun i => none, fun i => none, false, fun i => none, fun _ => false, false, false, fun _ => false⟩
end span_side_from
namespace span_side_to
noncomputable def sh (C : Am.Callee) (L : Loops) (n0 : Nat) (t0 t1 : Value) (s : AS) : Option (Value × List Blk × Option Nat) :=
(aBox t_span_side t0 s).bind fun r1 =>
(aFieldAddr PP t_span_side r1.1 0).bind fun x2 =>
(aLoad true 2 r1.2 x2).bind fun x3 =>
(C n_span_End [x3] r1.2.H).bind fun r4 =>
eBuiltin PP .min #[t_int, t_int] [r4.1, t1] (AS.mk r4.2.1 (joinEsc r1.2.esc r4.2.2)) fun x5 s6 =>
fin PP false n0 [x5] s6
def T : Tab := ⟨fun i => none, fun i => none, false, fun i => none, fun _ => false, false, false, fun _ => false⟩
end span_side_to
namespace twainlaw14_lives
noncomputable def sh (C : Am.Callee) (L : Loops) (n0 : Nat) (s : AS) : Option (Value × List Blk × Option Nat) :=
(C n_itree_New [] s.H).bind fun r1 =>
(aBuild PP t_api_Span [(0, .int .i64 0), (1, .int .i64 4)]).bind fun x2 =>
(C n_P_itree_Tree_Insert [r1.1, x2, .int .i64 1] (AS.mk r1.2.1 (joinEsc s.esc r1.2.2)).H).bind fun r3 =>
(aBuild PP t_api_Span [(0, .int .i64 2), (1, .int .i64 4)]).bind fun x4 =>
(C n_P_itree_Tree_Insert [r1.1, x4, .int .i64 2] (AS.mk r3.2.1 (joinEsc (AS.mk r1.2.1 (joinEsc s.esc r1.2.2)).esc r3.2.2)).H).bind fun r5 =>
bcase r3.1 (
bcase r5.1 (
(aBuild PP t_api_Span [(0, .int .i64 3), (1, .int .i64 1)]).bind fun x6 =>
(C n_P_itree_Tree_Overlaps [r1.1, x6] (AS.mk r5.2.1 (joinEsc (AS.mk r3.2.1 (joinEsc (AS.mk r1.2.1 (joinEsc s.esc r1.2.2)).esc r3.2.2)).esc r5.2.2)).H).bind fun r7 =>
(bsl PP t_L_int 2 [0, 1] [.int .i64 1, .int .i64 2] (AS.mk r7.2.1 (joinEsc (AS.mk r5.2.1 (joinEsc (AS.mk r3.2.1 (joinEsc (AS.mk r1.2.1 (joinEsc s.esc r1.2.2)).esc r3.2.2)).esc r5.2.2)).esc r7.2.2))).bind fun r8 =>
(C n_twainref01_Ints [r7.1, r8.1] r8.2.H).bind fun r9 =>
bcase r9.1 (
(aBuild PP t_api_Span [(0, .int .i64 4), (1, .int .i64 1)]).bind fun x10 =>
(C n_P_itree_Tree_Overlaps [r1.1, x10] (AS.mk r9.2.1 (joinEsc r8.2.esc r9.2.2)).H).bind fun r11 =>
(bsl PP t_L_int 1 [0] [.int .i64 2] (AS.mk r11.2.1 (joinEsc (AS.mk r9.2.1 (joinEsc r8.2.esc r9.2.2)).esc r11.2.2))).bind fun r12 =>
(C n_twainref01_Ints [r11.1, r12.1] r12.2.H).bind fun r13 =>
bcase r13.1 (
(C n_P_itree_Tree_Height [r1.1] (AS.mk r13.2.1 (joinEsc r12.2.esc r13.2.2)).H).bind fun r14 =>
(aBin PP .eql t_int (.tmp 31) (.const (.int .i64 2)) r14.1 (.int .i64 2)).bind fun x15 =>
fin PP false n0 [x15] (AS.mk r14.2.1 (joinEsc (AS.mk r13.2.1 (joinEsc r12.2.esc r13.2.2)).esc r14.2.2))) (
fin PP false n0 [.bool false] (AS.mk r13.2.1 (joinEsc r12.2.esc r13.2.2)))) (
fin PP false n0 [.bool false] (AS.mk r9.2.1 (joinEsc r8.2.esc r9.2.2)))) (
fin PP false n0 [.bool false] (AS.mk r5.2.1 (joinEsc (AS.mk r3.2.1 (joinEsc (AS.mk r1.2.1 (joinEsc s.esc r1.2.2)).esc r3.2.2)).esc r5.2.2)))) (
fin PP false n0 [.bool false] (AS.mk r5.2.1 (joinEsc (AS.mk r3.2.1 (joinEsc (AS.mk r1.2.1 (joinEsc s.esc r1.2.2)).esc r3.2.2)).esc r5.2.2)))
def T : Tab := ⟨fun i => none, fun i => none, false, fun i => none, fun _ => false, true, false, fun _ => false⟩
end twainlaw14_lives
end Go.Proofs.Ytgpfiiebfhdjhaa
