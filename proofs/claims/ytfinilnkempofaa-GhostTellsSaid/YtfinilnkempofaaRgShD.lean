/- A part of the proof: RgShD. Its conditions: none. -/
import Derived.Test.YtfinilnkempofaaAm13c
import Derived.Test.YtfinilnkempofaaChecked
set_option linter.all false
set_option linter.unusedVariables false
set_option linter.unusedSimpArgs false
set_option linter.unnecessarySimpa false
namespace Go.Proofs.Ytfinilnkempofaa
open Go Go.Am
set_option linter.unusedVariables false
noncomputable abbrev PP : Program := Try.prog
abbrev n_main_main : FuncId := 0
abbrev n_gosem_cut : FuncId := 1
abbrev n_gosem_cut_init : FuncId := 2
abbrev q331 : FuncId := 3
abbrev q339 : FuncId := 4
abbrev y324 : FuncId := 5
abbrev y313 : FuncId := 6
abbrev y99 : FuncId := 7
abbrev y358 : FuncId := 8
abbrev y123 : FuncId := 9
abbrev n_twainlaw36_lives : FuncId := 10
abbrev q123 : FuncId := 11
abbrev y135 : FuncId := 12
abbrev q145 : FuncId := 13
abbrev q124 : FuncId := 14
abbrev y110 : FuncId := 15
abbrev y134 : FuncId := 16
abbrev y161 : FuncId := 17
abbrev y136 : FuncId := 18
abbrev q179 : FuncId := 19
abbrev y145 : FuncId := 20
abbrev n_twainlaw37_lives : FuncId := 21
abbrev n_register_Fits : FuncId := 22
abbrev n_twainlaw37_Raw : FuncId := 23
abbrev y137 : FuncId := 24
abbrev y97 : FuncId := 25
abbrev q113 : FuncId := 26
abbrev q81 : FuncId := 27
abbrev q116 : FuncId := 28
abbrev q76 : FuncId := 29
abbrev q127 : FuncId := 30
abbrev y103 : FuncId := 31
abbrev q111 : FuncId := 32
abbrev q115 : FuncId := 33
abbrev y140 : FuncId := 34
abbrev q177 : FuncId := 35
abbrev y114 : FuncId := 36
abbrev y98 : FuncId := 37
abbrev q128 : FuncId := 38
abbrev q91 : FuncId := 39
abbrev q155 : FuncId := 40
abbrev q98 : FuncId := 41
abbrev y80 : FuncId := 42
abbrev y85 : FuncId := 43
abbrev y83 : FuncId := 44
abbrev q67 : FuncId := 45
abbrev q92 : FuncId := 46
abbrev q102 : FuncId := 47
abbrev q125 : FuncId := 48
abbrev y84 : FuncId := 49
abbrev y124 : FuncId := 50
abbrev q119 : FuncId := 51
abbrev q77 : FuncId := 52
abbrev y152 : FuncId := 53
abbrev y188 : FuncId := 54
abbrev y119 : FuncId := 55
abbrev q26 : FuncId := 56
abbrev y35 : FuncId := 57
abbrev q84 : FuncId := 58
abbrev q78 : FuncId := 59
abbrev q188 : FuncId := 60
abbrev y111 : FuncId := 61
abbrev q120 : FuncId := 62
abbrev q139 : FuncId := 63
abbrev q96 : FuncId := 64
abbrev y116 : FuncId := 65
abbrev q189 : FuncId := 66
abbrev y92 : FuncId := 67
abbrev q140 : FuncId := 68
abbrev q314 : FuncId := 69
abbrev q244 : FuncId := 70
abbrev y314 : FuncId := 71
abbrev q255 : FuncId := 72
abbrev q318 : FuncId := 73
abbrev y258 : FuncId := 74
abbrev y251 : FuncId := 75
abbrev y207 : FuncId := 76
abbrev y229 : FuncId := 77
abbrev y202 : FuncId := 78
abbrev q278 : FuncId := 79
abbrev y221 : FuncId := 80
abbrev q313 : FuncId := 81
abbrev q190 : FuncId := 82
abbrev q191 : FuncId := 83
abbrev n_api_Errno_Error : FuncId := 84
abbrev q316 : FuncId := 85
abbrev t_unit : TypeId := 0
abbrev t_F023062 : TypeId := 1
abbrev t_int64 : TypeId := 2
abbrev t_int : TypeId := 3
abbrev y180 : TypeId := 4
abbrev q175 : TypeId := 5
abbrev t_abi_BoundsErrorCode : TypeId := 6
abbrev t_S81e5bf : TypeId := 7
abbrev t_runtime_boundsError : TypeId := 8
abbrev t_string : TypeId := 9
abbrev t_runtime_errorString : TypeId := 10
abbrev t_runtime_plainError : TypeId := 11
abbrev t_uintptr : TypeId := 12
abbrev t_S9bc4a9 : TypeId := 13
abbrev q312 : TypeId := 14
abbrev y280 : TypeId := 15
abbrev q321 : TypeId := 16
abbrev t_P_abi_Type : TypeId := 17
abbrev t_S6875f2 : TypeId := 18
abbrev y315 : TypeId := 19
abbrev t_interface : TypeId := 20
abbrev t_int32 : TypeId := 21
abbrev q13 : TypeId := 22
abbrev t_F6f3dd6 : TypeId := 23
abbrev t_Fa86e39 : TypeId := 24
abbrev q25 : TypeId := 25
abbrev t_F8299a7 : TypeId := 26
abbrev t_Fb6cfd4 : TypeId := 27
abbrev y7 : TypeId := 28
abbrev t_F021c58 : TypeId := 29
abbrev y9 : TypeId := 30
abbrev t_F5b51bf : TypeId := 31
abbrev t_Fc0544d : TypeId := 32
abbrev t_F081862 : TypeId := 33
abbrev y28 : TypeId := 34
abbrev t_F09bab6 : TypeId := 35
abbrev t_Fb7e6b8 : TypeId := 36
abbrev t_F545503 : TypeId := 37
abbrev t_F016414 : TypeId := 38
abbrev t_A16_uint8 : TypeId := 39
abbrev y1 : TypeId := 40
abbrev t_S14c6fa : TypeId := 41
abbrev y4 : TypeId := 42
abbrev t_S6c464c : TypeId := 43
abbrev y15 : TypeId := 44
abbrev y48 : TypeId := 45
abbrev t_S21fe5b : TypeId := 46
abbrev q30 : TypeId := 47
abbrev t_S71e5a8 : TypeId := 48
abbrev y5 : TypeId := 49
abbrev t_F333c25 : TypeId := 50
abbrev t_F743d2f : TypeId := 51
abbrev t_F604643 : TypeId := 52
abbrev y13 : TypeId := 53
abbrev t_L_bool : TypeId := 54
abbrev y2 : TypeId := 55
abbrev y162 : TypeId := 56
abbrev t_bool_api_Errno : TypeId := 57
abbrev t_F4c64e2 : TypeId := 58
abbrev t_L_int_bool : TypeId := 59
abbrev t_F9ec66d : TypeId := 60
abbrev t_Ff9c105 : TypeId := 61
abbrev t_S7ed1c8 : TypeId := 62
abbrev q21 : TypeId := 63
abbrev t_F1f9e6c : TypeId := 64
abbrev t_bool_int_bool : TypeId := 65
abbrev t_F506c4b : TypeId := 66
abbrev t_F3fd729 : TypeId := 67
abbrev t_L_api_Sector_bool : TypeId := 68
abbrev t_Fa707ec : TypeId := 69
abbrev t_F6f346b : TypeId := 70
abbrev t_bool_bool : TypeId := 71
abbrev t_Ff2cfc4 : TypeId := 72
abbrev t_F4f0245 : TypeId := 73
abbrev t_F55abdf : TypeId := 74
abbrev t_Fe25e8c : TypeId := 75
abbrev t_L_int_bool_bool : TypeId := 76
abbrev t_F9a0fc5 : TypeId := 77
abbrev q10 : TypeId := 78
abbrev q48 : TypeId := 79
abbrev q93 : TypeId := 80
abbrev t_Sa52f72 : TypeId := 81
abbrev q11 : TypeId := 82
abbrev t_F2dcf0b : TypeId := 83
abbrev t_Fac7918 : TypeId := 84
abbrev t_F200dff : TypeId := 85
abbrev t_F957d7b : TypeId := 86
abbrev t_F98340e : TypeId := 87
abbrev t_int_bool : TypeId := 88
abbrev t_F7e62a4 : TypeId := 89
abbrev t_Fbe81f1 : TypeId := 90
abbrev t_F7b8c69 : TypeId := 91
abbrev q88 : TypeId := 92
abbrev t_F23a7d2 : TypeId := 93
abbrev t_F09bf95 : TypeId := 94
abbrev t_Ffe08e2 : TypeId := 95
abbrev t_F8a1ef3 : TypeId := 96
abbrev q60 : TypeId := 97
abbrev t_F0b17ba : TypeId := 98
abbrev t_P_int : TypeId := 99
abbrev t_Sf72a03 : TypeId := 100
abbrev y61 : TypeId := 101
abbrev t_F64aacc : TypeId := 102
abbrev t_api_Span_bool : TypeId := 103
abbrev t_Fa95473 : TypeId := 104
abbrev y79 : TypeId := 105
abbrev y37 : TypeId := 106
abbrev y132 : TypeId := 107
abbrev t_S01a35e : TypeId := 108
abbrev y10 : TypeId := 109
abbrev y196 : TypeId := 110
abbrev t_S27ceea : TypeId := 111
abbrev y6 : TypeId := 112
abbrev t_Fe2cb18 : TypeId := 113
abbrev t_Fdc1ba3 : TypeId := 114
abbrev t_F831f84 : TypeId := 115
abbrev t_Ff970bf : TypeId := 116
abbrev t_Fa8424a : TypeId := 117
abbrev t_Fdb95b1 : TypeId := 118
abbrev t_F42507d : TypeId := 119
abbrev t_S018a90 : TypeId := 120
abbrev q82 : TypeId := 121
abbrev t_F3f7f15 : TypeId := 122
abbrev t_F403d54 : TypeId := 123
abbrev t_F6c6759 : TypeId := 124
abbrev t_S6911b8 : TypeId := 125
abbrev y300 : TypeId := 126
abbrev y308 : TypeId := 127
abbrev t_S674f3b : TypeId := 128
abbrev q359 : TypeId := 129
abbrev t_F92c41c : TypeId := 130
abbrev t_uint32 : TypeId := 131
abbrev t_abi_TFlag : TypeId := 132
abbrev t_abi_Kind : TypeId := 133
abbrev t_F0a8967 : TypeId := 134
abbrev t_P_uint8 : TypeId := 135
abbrev t_abi_NameOff : TypeId := 136
abbrev t_abi_TypeOff : TypeId := 137
abbrev t_Scd6355 : TypeId := 138
abbrev t_abi_Type : TypeId := 139
abbrev t_unsafe_Pointer : TypeId := 140
namespace twainlaw49_GhostTells
noncomputable def j0 (C : Am.Callee) (L : Loops) (n0 : Nat) (t0 t5 t6 t7 t37 : Value) (s : AS) : Option (AEx × List Value × AS) :=
bcase t37 (
(C q81 [] s.H).bind fun r17 =>
some (AEx.ret, [t0, r17.1, t5, t6, t7], AS.mk r17.2.1 (y8 s.esc r17.2.2))) (
some (AEx.normal, [t0, unk, t5, t6, t7], s))
noncomputable def j2 (C : Am.Callee) (L : Loops) (n0 : Nat) (t0 t5 t7 t8 t66 : Value) (s : AS) : Option (AEx × List Value × AS) :=
bcase t66 (
some (AEx.ret, [t0, .bool false, t5, t7, t8], s)) (
some (AEx.normal, [t0, unk, t5, t7, t8], s))
noncomputable def j4 (C : Am.Callee) (L : Loops) (n0 : Nat) (t0 t7 t8 t82 : Value) (s : AS) : Option (AEx × List Value × AS) :=
bcase t82 (
some (AEx.ret, [t0, .bool false, t7, t8], s)) (
some (AEx.normal, [t0, unk, t7, t8], s))
noncomputable def j5 (C : Am.Callee) (L : Loops) (n0 : Nat) (t0 t7 t8 : Value) (s : AS) : Option (Value × List Blk × Option Nat) :=
(C q115 [t0, t7] s.H).bind fun r41 =>
(y12 PP (Instr.extract r41.1 0)).bind fun x42 =>
(y12 PP (Instr.extract r41.1 1)).bind fun x43 =>
(aUn PP .not x43).bind fun x44 =>
bcase x44 (
(C q81 [] (AS.mk r41.2.1 (y8 s.esc r41.2.2)).H).bind fun r45 =>
fin PP false n0 [r45.1] (AS.mk r45.2.1 (y8 (AS.mk r41.2.1 (y8 s.esc r41.2.2)).esc r45.2.2))) (
(C y140 [t8, t7] (AS.mk r41.2.1 (y8 s.esc r41.2.2)).H).bind fun r46 =>
(aBin PP .eql y180 (.tmp 94) (.tmp 95) r46.1 x42).bind fun x47 =>
bcase x47 (
(C q81 [] (AS.mk r46.2.1 (y8 (AS.mk r41.2.1 (y8 s.esc r41.2.2)).esc r46.2.2)).H).bind fun r48 =>
fin PP false n0 [r48.1] (AS.mk r48.2.1 (y8 (AS.mk r46.2.1 (y8 (AS.mk r41.2.1 (y8 s.esc r41.2.2)).esc r46.2.2)).esc r48.2.2))) (
fin PP false n0 [.bool false] (AS.mk r46.2.1 (y8 (AS.mk r41.2.1 (y8 s.esc r41.2.2)).esc r46.2.2))))
noncomputable def j3 (C : Am.Callee) (L : Loops) (n0 : Nat) (t0 t5 t7 t8 : Value) (s : AS) : Option (Value × List Blk × Option Nat) :=
(C q127 [t8, t5] s.H).bind fun r33 =>
(C y103 [t0, t5] (AS.mk r33.2.1 (y8 s.esc r33.2.2)).H).bind fun r34 =>
(y12 PP (Instr.extract r34.1 0)).bind fun x35 =>
(y12 PP (Instr.extract r34.1 1)).bind fun x36 =>
((bcase x36 (
(C q111 [r33.1, x35] (AS.mk r34.2.1 (y8 (AS.mk r33.2.1 (y8 s.esc r33.2.2)).esc r34.2.2)).H).bind fun r37 =>
(aUn PP .not r37.1).bind fun x38 =>
some (AEx.normal, [t0, t7, t8, x38], AS.mk r37.2.1 (y8 (AS.mk r34.2.1 (y8 (AS.mk r33.2.1 (y8 s.esc r33.2.2)).esc r34.2.2)).esc r37.2.2))) (
some (AEx.normal, [t0, t7, t8, .bool false], AS.mk r34.2.1 (y8 (AS.mk r33.2.1 (y8 s.esc r33.2.2)).esc r34.2.2)))).bind fun r39 =>
match r39.1 with
| .normal => j4 C L n0 ((r39.2.1.getD 0 unk)) ((r39.2.1.getD 1 unk)) ((r39.2.1.getD 2 unk)) ((r39.2.1.getD 3 unk)) r39.2.2
| .exit i => some (AEx.exit i, [(r39.2.1.getD 0 unk), unk, (r39.2.1.getD 1 unk), (r39.2.1.getD 2 unk)], r39.2.2)
| .ret => some (AEx.ret, [(r39.2.1.getD 0 unk), unk, (r39.2.1.getD 1 unk), (r39.2.1.getD 2 unk)], r39.2.2)).bind fun r40 =>
match r40.1 with
| .normal => j5 C L n0 (((jGc n0 ((r40.2.1, r40.2.2)) true).1.getD 0 unk)) (((jGc n0 ((r40.2.1, r40.2.2)) true).1.getD 2 unk)) (((jGc n0 ((r40.2.1, r40.2.2)) true).1.getD 3 unk)) ((jGc n0 ((r40.2.1, r40.2.2)) true).2)
| .exit i => none
| .ret => fin PP false n0 [(r40.2.1.getD 1 unk)] r40.2.2
noncomputable def j1 (C : Am.Callee) (L : Loops) (n0 : Nat) (t0 t5 t6 t7 : Value) (s : AS) : Option (Value × List Blk × Option Nat) :=
(C q123 [t0] s.H).bind fun r19 =>
(aLoad true 16 (AS.mk r19.2.1 (y8 s.esc r19.2.2)) t6).bind fun x20 =>
(C q116 [r19.1, t5, x20] (AS.mk r19.2.1 (y8 s.esc r19.2.2)).H).bind fun r21 =>
(y12 PP (Instr.extract r21.1 0)).bind fun x22 =>
(y12 PP (Instr.extract r21.1 1)).bind fun x23 =>
(aLoad true 16 (AS.mk r21.2.1 (y8 (AS.mk r19.2.1 (y8 s.esc r19.2.2)).esc r21.2.2)) t6).bind fun x24 =>
(C q76 [t0, t5, x24] (AS.mk r21.2.1 (y8 (AS.mk r19.2.1 (y8 s.esc r19.2.2)).esc r21.2.2)).H).bind fun r25 =>
(y12 PP (Instr.extract r25.1 0)).bind fun x26 =>
(y12 PP (Instr.extract r25.1 1)).bind fun x27 =>
(y12 PP (Instr.extract r25.1 2)).bind fun x28 =>
(((aBin PP .neq t_int (.tmp 56) (.tmp 57) x23 x27).bind fun x29 =>
bcase x29 (
some (AEx.normal, [t0, t5, t7, r19.1, .bool true], AS.mk r25.2.1 (y8 (AS.mk r21.2.1 (y8 (AS.mk r19.2.1 (y8 s.esc r19.2.2)).esc r21.2.2)).esc r25.2.2))) (
bcase x28 (
(aBin PP .neq y180 (.tmp 62) (.tmp 63) x22 x26).bind fun x30 =>
some (AEx.normal, [t0, t5, t7, r19.1, x30], AS.mk r25.2.1 (y8 (AS.mk r21.2.1 (y8 (AS.mk r19.2.1 (y8 s.esc r19.2.2)).esc r21.2.2)).esc r25.2.2))) (
some (AEx.normal, [t0, t5, t7, r19.1, .bool false], AS.mk r25.2.1 (y8 (AS.mk r21.2.1 (y8 (AS.mk r19.2.1 (y8 s.esc r19.2.2)).esc r21.2.2)).esc r25.2.2))))).bind fun r31 =>
match r31.1 with
| .normal => j2 C L n0 ((r31.2.1.getD 0 unk)) ((r31.2.1.getD 1 unk)) ((r31.2.1.getD 2 unk)) ((r31.2.1.getD 3 unk)) ((r31.2.1.getD 4 unk)) r31.2.2
| .exit i => some (AEx.exit i, [(r31.2.1.getD 0 unk), unk, (r31.2.1.getD 1 unk), (r31.2.1.getD 2 unk), (r31.2.1.getD 3 unk)], r31.2.2)
| .ret => some (AEx.ret, [(r31.2.1.getD 0 unk), unk, (r31.2.1.getD 1 unk), (r31.2.1.getD 2 unk), (r31.2.1.getD 3 unk)], r31.2.2)).bind fun r32 =>
match r32.1 with
| .normal => j3 C L n0 (((jGc n0 ((r32.2.1, r32.2.2)) true).1.getD 0 unk)) (((jGc n0 ((r32.2.1, r32.2.2)) true).1.getD 2 unk)) (((jGc n0 ((r32.2.1, r32.2.2)) true).1.getD 3 unk)) (((jGc n0 ((r32.2.1, r32.2.2)) true).1.getD 4 unk)) ((jGc n0 ((r32.2.1, r32.2.2)) true).2)
| .exit i => none
| .ret => fin PP false n0 [(r32.2.1.getD 1 unk)] r32.2.2
noncomputable def sh (C : Am.Callee) (L : Loops) (n0 : Nat) (t0 t1 : Value) (s : AS) : Option (Value × List Blk × Option Nat) :=
(aBox q21 t1 s).bind fun r1 =>
(y3 PP q21 r1.1 0).bind fun x2 =>
(aLoad false 1 r1.2 x2).bind fun x3 =>
(y3 PP q21 r1.1 1).bind fun x4 =>
(aLoad true 16 r1.2 x4).bind fun x5 =>
(y3 PP q21 r1.1 2).bind fun x6 =>
(aLoad false 1 r1.2 x6).bind fun x7 =>
(aBox y1 ((zeroP PP y1).getD unk) r1.2).bind fun r8 =>
if ((((aLoad false 1 r8.2 x2).bind fun x52 =>
some (veq x52 x3)) == some true) && ((((aLoad true 16 r8.2 x4).bind fun x51 =>
some (veq x51 x5)) == some true) && ((((aLoad false 1 r8.2 x6).bind fun x50 =>
some (veq x50 x7)) == some true) && true))) = true then
(q43 16 r8.2 r8.1 x5).bind fun s9 =>
if ((((aLoad false 1 s9 x6).bind fun x49 =>
some (veq x49 x7)) == some true) && true) = true then
(((C y123 [t0] s9.H).bind fun r10 =>
(aUn PP .not r10.1).bind fun x11 =>
bcase x11 (
some (AEx.normal, [t0, x3, r8.1, x7, .bool true], AS.mk r10.2.1 (y8 s9.esc r10.2.2))) (
(aLen PP q13 t0 (AS.mk r10.2.1 (y8 s9.esc r10.2.2))).bind fun x12 =>
(aBin PP .gtr t_int (.tmp 30) (.const (.int .i64 8)) x12 (.int .i64 8)).bind fun x13 =>
bcase x13 (
some (AEx.normal, [t0, x3, r8.1, x7, .bool true], AS.mk r10.2.1 (y8 s9.esc r10.2.2))) (
(aLen PP y48 x7 (AS.mk r10.2.1 (y8 s9.esc r10.2.2))).bind fun x14 =>
(aBin PP .gtr t_int (.tmp 35) (.const (.int .i64 200)) x14 (.int .i64 200)).bind fun x15 =>
some (AEx.normal, [t0, x3, r8.1, x7, x15], AS.mk r10.2.1 (y8 s9.esc r10.2.2))))).bind fun r16 =>
match r16.1 with
| .normal => j0 C L n0 ((r16.2.1.getD 0 unk)) ((r16.2.1.getD 1 unk)) ((r16.2.1.getD 2 unk)) ((r16.2.1.getD 3 unk)) ((r16.2.1.getD 4 unk)) r16.2.2
| .exit i => some (AEx.exit i, [(r16.2.1.getD 0 unk), unk, (r16.2.1.getD 1 unk), (r16.2.1.getD 2 unk), (r16.2.1.getD 3 unk)], r16.2.2)
| .ret => some (AEx.ret, [(r16.2.1.getD 0 unk), unk, (r16.2.1.getD 1 unk), (r16.2.1.getD 2 unk), (r16.2.1.getD 3 unk)], r16.2.2)).bind fun r18 =>
match r18.1 with
| .normal => j1 C L n0 ((r18.2.1.getD 0 unk)) ((r18.2.1.getD 2 unk)) ((r18.2.1.getD 3 unk)) ((r18.2.1.getD 4 unk)) r18.2.2
| .exit i => none
| .ret => fin PP false n0 [(r18.2.1.getD 1 unk)] r18.2.2
else none
else none
def T : Tab := ⟨fun i => none, fun i => none, false, fun i => if i = 3 then some [0, 5, 6, 7, 37] else if i = 4 then some [0, 4, 5, 6, 7] else if i = 8 then some [0, 5, 7, 8, 66] else if i = 9 then some [0, 4, 5, 7, 8] else if i = 12 then some [0, 7, 8, 82] else if i = 13 then some [0, 4, 7, 8] else none, fun _ => false, false, false, fun i => i == 9 || i == 13⟩
end twainlaw49_GhostTells
namespace twainlaw36_Few
noncomputable def j1 (C : Am.Callee) (L : Loops) (n0 : Nat) (t8 t9 t10 t24 : Value) (s : AS) : Option (AEx × List Value × AS) :=
bcase t24 (
some (AEx.ret, [.bool false, t8, t9, t10], s)) (
some (AEx.normal, [unk, t8, t9, t10], s))
noncomputable def j2 (C : Am.Callee) (L : Loops) (n0 : Nat) (t8 t9 t10 : Value) (s : AS) : Option ((List Value × AS) ⊕ (AEx × List Value × AS)) :=
(aBin PP .add t_int (.tmp 10) (.const (.int .i64 1)) t10 (.int .i64 1)).bind fun x20 =>
some (.inl ([t8, t9, x20], s))
noncomputable def loop4 (C : Am.Callee) (L : Loops) (n0 : Nat) (t8 t9 t10 : Value) (s : AS) : Option ((List Value × AS) ⊕ (AEx × List Value × AS)) :=
(aBin PP .lss t_int (.tmp 10) (.tmp 9) t10 t9).bind fun x4 =>
bcase x4 (
((q15 PP q13 t8 t10).bind fun x5 =>
(aLoad true 8 s x5).bind fun x6 =>
(aBox y5 ((zeroP PP y5).getD unk) s).bind fun r7 =>
(q43 8 r7.2 r7.1 x6).bind fun s8 =>
((y3 PP y5 r7.1 4).bind fun x9 =>
(aLoad false 1 s8 x9).bind fun x10 =>
(aLen PP y48 x10 s8).bind fun x11 =>
(aBin PP .gtr t_int (.tmp 16) (.const (.int .i64 300)) x11 (.int .i64 300)).bind fun x12 =>
bcase x12 (
some (AEx.normal, [t8, t9, t10, .bool true], s8)) (
(y3 PP y5 r7.1 3).bind fun x13 =>
(y3 PP q30 x13 2).bind fun x14 =>
(aLoad false 1 s8 x14).bind fun x15 =>
(aLen PP y48 x15 s8).bind fun x16 =>
(aBin PP .gtr t_int (.tmp 22) (.const (.int .i64 300)) x16 (.int .i64 300)).bind fun x17 =>
some (AEx.normal, [t8, t9, t10, x17], s8))).bind fun r18 =>
match r18.1 with
| .normal => j1 C L n0 ((r18.2.1.getD 0 unk)) ((r18.2.1.getD 1 unk)) ((r18.2.1.getD 2 unk)) ((r18.2.1.getD 3 unk)) r18.2.2
| .exit i => if i = 1 then some (AEx.normal, [unk, (r18.2.1.getD 0 unk), (r18.2.1.getD 1 unk), (r18.2.1.getD 2 unk)], r18.2.2) else some (AEx.exit i, [unk, (r18.2.1.getD 0 unk), (r18.2.1.getD 1 unk), (r18.2.1.getD 2 unk)], r18.2.2)
| .ret => some (AEx.ret, [unk, (r18.2.1.getD 0 unk), (r18.2.1.getD 1 unk), (r18.2.1.getD 2 unk)], r18.2.2)).bind fun r19 =>
match r19.1 with
| .normal => j2 C L n0 ((r19.2.1.getD 1 unk)) ((r19.2.1.getD 2 unk)) ((r19.2.1.getD 3 unk)) r19.2.2
| .exit i => some (.inr (.exit i, [(r19.2.1.getD 0 unk)], r19.2.2))
| .ret => some (.inr (.ret, [(r19.2.1.getD 0 unk)], r19.2.2))) (
some (.inr (.exit 0, [unk], s)))
noncomputable def loop4s (C : Am.Callee) (L : Loops) (n0 : Nat) : List Value × AS → Option ((List Value × AS) ⊕ (AEx × List Value × AS)) := fun s => loop4 C L n0 (s.1.getD 0 unk) (s.1.getD 1 unk) (s.1.getD 2 unk) s.2
noncomputable def j4 (C : Am.Callee) (L : Loops) (n0 : Nat) (s : AS) : Option (Value × List Blk × Option Nat) :=
fin PP false n0 [.bool true] s
noncomputable def sh (C : Am.Callee) (L : Loops) (n0 : Nat) (t0 : Value) (s : AS) : Option (Value × List Blk × Option Nat) :=
(aLen PP q13 t0 s).bind fun x1 =>
(aBin PP .gtr t_int (.tmp 6) (.const (.int .i64 100)) x1 (.int .i64 100)).bind fun x2 =>
bcase x2 (
fin PP false n0 [.bool false] s) (
((aLen PP q13 t0 s).bind fun x3 =>
(L n0 (loop4s C L n0) ([t0, x3, .int .i64 0], s)).bind fun r21 =>
match r21.1 with
| .normal => some (AEx.normal, [(r21.2.1.getD 0 unk)], r21.2.2)
| .exit i => if i = 0 then some (AEx.normal, [(r21.2.1.getD 0 unk)], r21.2.2) else some (AEx.exit i, [(r21.2.1.getD 0 unk)], r21.2.2)
| .ret => some (AEx.ret, [(r21.2.1.getD 0 unk)], r21.2.2)).bind fun r22 =>
match r22.1 with
| .normal => j4 C L n0  r22.2.2
| .exit i => none
| .ret => fin PP false n0 [(r22.2.1.getD 0 unk)] r22.2.2)
def T : Tab := ⟨fun i => if i = 4 then some [8, 9, 10] else none, fun i => if i = 4 then some [2] else none, false, fun i => if i = 7 then some [8, 9, 10, 24] else if i = 8 then some [2, 8, 9, 10] else if i = 9 then some [2] else none, fun _ => false, false, false, fun _ => false⟩
end twainlaw36_Few
namespace twainlaw36_Raw
noncomputable def loop3 (C : Am.Callee) (L : Loops) (n0 : Nat) (t3 t6 t7 t8 : Value) (s : AS) : Option ((List Value × AS) ⊕ (AEx × List Value × AS)) :=
(aBin PP .lss t_int (.tmp 8) (.tmp 7) t8 t7).bind fun x2 =>
bcase x2 (
(q15 PP q13 t6 t8).bind fun x3 =>
(aLoad true 8 s x3).bind fun x4 =>
(aBox y5 ((zeroP PP y5).getD unk) s).bind fun r5 =>
(q43 8 r5.2 r5.1 x4).bind fun s6 =>
(aLoad true 8 s6 r5.1).bind fun x7 =>
(bsl PP q25 1 [0] [x7] s6).bind fun r8 =>
y16 PP .append #[q25, q25] [t3, r8.1] r8.2 fun x9 s10 =>
(aBin PP .add t_int (.tmp 8) (.const (.int .i64 1)) t8 (.int .i64 1)).bind fun x11 =>
some (.inl ([x9, t6, t7, x11], s10))) (
some (.inr (.exit 0, [t3], s)))
noncomputable def loop3s (C : Am.Callee) (L : Loops) (n0 : Nat) : List Value × AS → Option ((List Value × AS) ⊕ (AEx × List Value × AS)) := fun s => loop3 C L n0 (s.1.getD 0 unk) (s.1.getD 1 unk) (s.1.getD 2 unk) (s.1.getD 3 unk) s.2
noncomputable def j2 (C : Am.Callee) (L : Loops) (n0 : Nat) (t3 : Value) (s : AS) : Option (Value × List Blk × Option Nat) :=
fin PP false n0 [t3] s
noncomputable def sh (C : Am.Callee) (L : Loops) (n0 : Nat) (t0 : Value) (s : AS) : Option (Value × List Blk × Option Nat) :=
((aLen PP q13 t0 s).bind fun x1 =>
(L n0 (loop3s C L n0) ([.slice none 0 0, t0, x1, .int .i64 0], s)).bind fun r12 =>
match r12.1 with
| .normal => some (AEx.normal, [(r12.2.1.getD 0 unk)], r12.2.2)
| .exit i => if i = 0 then some (AEx.normal, [(r12.2.1.getD 0 unk)], r12.2.2) else some (AEx.exit i, [(r12.2.1.getD 0 unk)], r12.2.2)
| .ret => some (AEx.ret, [(r12.2.1.getD 0 unk)], r12.2.2)).bind fun r13 =>
match r13.1 with
| .normal => j2 C L n0 ((r13.2.1.getD 0 unk)) r13.2.2
| .exit i => none
| .ret => fin PP false n0 [unk] r13.2.2
def T : Tab := ⟨fun i => if i = 3 then some [3, 6, 7, 8] else none, fun i => if i = 3 then some [3] else none, false, fun i => if i = 7 then some [3] else none, fun _ => false, false, false, fun _ => false⟩
end twainlaw36_Raw
namespace twainref36_Same
noncomputable def loop4 (C : Am.Callee) (L : Loops) (n0 : Nat) (t0 t1 t12 t13 : Value) (s : AS) : Option ((List Value × AS) ⊕ (AEx × List Value × AS)) :=
(aBin PP .lss t_int (.tmp 13) (.tmp 12) t13 t12).bind fun x5 =>
bcase x5 (
(q15 PP y7 t0 t13).bind fun x6 =>
(aLoad true 19 s x6).bind fun x7 =>
(q15 PP y7 t1 t13).bind fun x8 =>
(aLoad true 19 s x8).bind fun x9 =>
(aBin PP .neq y2 (.tmp 19) (.tmp 23) x7 x9).bind fun x10 =>
bcase x10 (
some (.inr (.ret, [.bool false], s))) (
(aBin PP .add t_int (.tmp 13) (.const (.int .i64 1)) t13 (.int .i64 1)).bind fun x11 =>
some (.inl ([t0, t1, t12, x11], s)))) (
some (.inr (.exit 0, [unk], s)))
noncomputable def loop4s (C : Am.Callee) (L : Loops) (n0 : Nat) : List Value × AS → Option ((List Value × AS) ⊕ (AEx × List Value × AS)) := fun s => loop4 C L n0 (s.1.getD 0 unk) (s.1.getD 1 unk) (s.1.getD 2 unk) (s.1.getD 3 unk) s.2
noncomputable def j2 (C : Am.Callee) (L : Loops) (n0 : Nat) (s : AS) : Option (Value × List Blk × Option Nat) :=
fin PP false n0 [.bool true] s
noncomputable def sh (C : Am.Callee) (L : Loops) (n0 : Nat) (t0 t1 : Value) (s : AS) : Option (Value × List Blk × Option Nat) :=
(aLen PP y7 t0 s).bind fun x1 =>
(aLen PP y7 t1 s).bind fun x2 =>
(aBin PP .neq t_int (.tmp 7) (.tmp 9) x1 x2).bind fun x3 =>
bcase x3 (
fin PP false n0 [.bool false] s) (
((aLen PP y7 t0 s).bind fun x4 =>
(L n0 (loop4s C L n0) ([t0, t1, x4, .int .i64 0], s)).bind fun r12 =>
match r12.1 with
| .normal => some (AEx.normal, [(r12.2.1.getD 0 unk)], r12.2.2)
| .exit i => if i = 0 then some (AEx.normal, [(r12.2.1.getD 0 unk)], r12.2.2) else some (AEx.exit i, [(r12.2.1.getD 0 unk)], r12.2.2)
| .ret => some (AEx.ret, [(r12.2.1.getD 0 unk)], r12.2.2)).bind fun r13 =>
match r13.1 with
| .normal => j2 C L n0  r13.2.2
| .exit i => none
| .ret => fin PP false n0 [(r13.2.1.getD 0 unk)] r13.2.2)
def T : Tab := ⟨fun i => if i = 4 then some [0, 1, 12, 13] else none, fun i => if i = 4 then some [4] else none, false, fun i => if i = 9 then some [4] else none, fun _ => false, false, false, fun _ => false⟩
end twainref36_Same
namespace twainlaw36_Ops
noncomputable def loop3 (C : Am.Callee) (L : Loops) (n0 : Nat) (t3 t6 t7 t8 : Value) (s : AS) : Option ((List Value × AS) ⊕ (AEx × List Value × AS)) :=
(aBin PP .lss t_int (.tmp 8) (.tmp 7) t8 t7).bind fun x2 =>
bcase x2 (
(q15 PP y9 t6 t8).bind fun x3 =>
(aLoad true 19 s x3).bind fun x4 =>
(aBox y4 ((zeroP PP y4).getD unk) s).bind fun r5 =>
(q43 19 r5.2 r5.1 x4).bind fun s6 =>
(aLoad true 19 s6 r5.1).bind fun x7 =>
(bsl PP y7 1 [0] [x7] s6).bind fun r8 =>
y16 PP .append #[y7, y7] [t3, r8.1] r8.2 fun x9 s10 =>
(aBin PP .add t_int (.tmp 8) (.const (.int .i64 1)) t8 (.int .i64 1)).bind fun x11 =>
some (.inl ([x9, t6, t7, x11], s10))) (
some (.inr (.exit 0, [t3], s)))
noncomputable def loop3s (C : Am.Callee) (L : Loops) (n0 : Nat) : List Value × AS → Option ((List Value × AS) ⊕ (AEx × List Value × AS)) := fun s => loop3 C L n0 (s.1.getD 0 unk) (s.1.getD 1 unk) (s.1.getD 2 unk) (s.1.getD 3 unk) s.2
noncomputable def j2 (C : Am.Callee) (L : Loops) (n0 : Nat) (t3 : Value) (s : AS) : Option (Value × List Blk × Option Nat) :=
fin PP false n0 [t3] s
noncomputable def sh (C : Am.Callee) (L : Loops) (n0 : Nat) (t0 : Value) (s : AS) : Option (Value × List Blk × Option Nat) :=
((aLen PP y9 t0 s).bind fun x1 =>
(L n0 (loop3s C L n0) ([.slice none 0 0, t0, x1, .int .i64 0], s)).bind fun r12 =>
match r12.1 with
| .normal => some (AEx.normal, [(r12.2.1.getD 0 unk)], r12.2.2)
| .exit i => if i = 0 then some (AEx.normal, [(r12.2.1.getD 0 unk)], r12.2.2) else some (AEx.exit i, [(r12.2.1.getD 0 unk)], r12.2.2)
| .ret => some (AEx.ret, [(r12.2.1.getD 0 unk)], r12.2.2)).bind fun r13 =>
match r13.1 with
| .normal => j2 C L n0 ((r13.2.1.getD 0 unk)) r13.2.2
| .exit i => none
| .ret => fin PP false n0 [unk] r13.2.2
def T : Tab := ⟨fun i => if i = 3 then some [3, 6, 7, 8] else none, fun i => if i = 3 then some [3] else none, false, fun i => if i = 7 then some [3] else none, fun _ => false, false, false, fun _ => false⟩
end twainlaw36_Ops
namespace history_Ops
noncomputable def j1 (C : Am.Callee) (L : Loops) (n0 : Nat) (t0 t1 t5 t6 t7 t8 t9 t17 t18 t19 t46 : Value) (s : AS) : Option (AEx × List Value × AS) :=
bcase t46 (
some (AEx.exit 1, [t0, t1, t5, t6, t7, t8, t9, t17, t18, t19], s)) (
some (AEx.normal, [t0, t1, t5, t6, t7, t8, t9, t17, t18, t19], s))
noncomputable def j4 (C : Am.Callee) (L : Loops) (n0 : Nat) (t0 t1 t5 t6 t7 t10 t17 t18 t19 : Value) (s : AS) : Option (AEx × List Value × AS) :=
(aLoad true 19 s t10).bind fun x76 =>
(bsl PP y9 1 [0] [x76] s).bind fun r77 =>
y16 PP .append #[y9, y9] [t5, r77.1] r77.2 fun x78 s79 =>
some (AEx.normal, [t0, t1, x78, t6, t7, t17, t18, t19], s79)
noncomputable def j3 (C : Am.Callee) (L : Loops) (n0 : Nat) (t0 t1 t5 t6 t7 t9 t10 t11 t17 t18 t19 : Value) (s : AS) : Option (AEx × List Value × AS) :=
((y3 PP q10 t9 3).bind fun x61 =>
(y3 PP q30 x61 1).bind fun x62 =>
(y3 PP y15 x62 0).bind fun x63 =>
(aLoad false 1 s x63).bind fun x64 =>
(aBin PP .sub t_int (.tmp 72) (.tmp 76) t1 x64).bind fun x65 =>
(C q155 [t11, x65] s.H).bind fun r66 =>
(aBox y1 ((zeroP PP y1).getD unk) (AS.mk r66.2.1 (y8 s.esc r66.2.2))).bind fun r67 =>
(q43 16 r67.2 r67.1 r66.1).bind fun s68 =>
(aLoad true 16 s68 r67.1).bind fun x69 =>
(q89 PP y1 []).bind fun x70 =>
(aBin PP .neq y1 (.tmp 79) (.tmp 80) x69 x70).bind fun x71 =>
bcase x71 (
(aLoad true 16 s68 r67.1).bind fun x72 =>
(y3 PP y4 t10 1).bind fun x73 =>
(q43 16 s68 x73 x72).bind fun s74 =>
some (AEx.normal, [t0, t1, t5, t6, t7, t10, t17, t18, t19], s74)) (
some (AEx.normal, [t0, t1, t5, t6, t7, t10, t17, t18, t19], s68))).bind fun r75 =>
match r75.1 with
| .normal => j4 C L n0 ((r75.2.1.getD 0 unk)) ((r75.2.1.getD 1 unk)) ((r75.2.1.getD 2 unk)) ((r75.2.1.getD 3 unk)) ((r75.2.1.getD 4 unk)) ((r75.2.1.getD 5 unk)) ((r75.2.1.getD 6 unk)) ((r75.2.1.getD 7 unk)) ((r75.2.1.getD 8 unk)) r75.2.2
| .exit i => if i = 1 then some (AEx.normal, [(r75.2.1.getD 0 unk), (r75.2.1.getD 1 unk), (r75.2.1.getD 2 unk), (r75.2.1.getD 3 unk), (r75.2.1.getD 4 unk), (r75.2.1.getD 6 unk), (r75.2.1.getD 7 unk), (r75.2.1.getD 8 unk)], r75.2.2) else some (AEx.exit i, [(r75.2.1.getD 0 unk), (r75.2.1.getD 1 unk), (r75.2.1.getD 2 unk), (r75.2.1.getD 3 unk), (r75.2.1.getD 4 unk), (r75.2.1.getD 6 unk), (r75.2.1.getD 7 unk), (r75.2.1.getD 8 unk)], r75.2.2)
| .ret => some (AEx.ret, [(r75.2.1.getD 0 unk), (r75.2.1.getD 1 unk), (r75.2.1.getD 2 unk), (r75.2.1.getD 3 unk), (r75.2.1.getD 4 unk), (r75.2.1.getD 6 unk), (r75.2.1.getD 7 unk), (r75.2.1.getD 8 unk)], r75.2.2)
noncomputable def j2 (C : Am.Callee) (L : Loops) (n0 : Nat) (t0 t1 t5 t6 t7 t8 t9 t17 t18 t19 : Value) (s : AS) : Option (AEx × List Value × AS) :=
(y3 PP q10 t9 3).bind fun x37 =>
(y3 PP q30 x37 0).bind fun x38 =>
(aLoad false 1 s x38).bind fun x39 =>
(aBin PP .eql t_int (.tmp 49) (.const (.int .i64 1)) x39 (.int .i64 1)).bind fun x40 =>
(aLoad true 3 s t6).bind fun x41 =>
(C q91 [x41, t8] s.H).bind fun r42 =>
if ((((aLoad false 1 (AS.mk r42.2.1 (y8 s.esc r42.2.2)) x38).bind fun x80 =>
some (veq x80 x39)) == some true) && true) = true then
(q89 PP y4 [(0, x40), (2, t8), (3, r42.1)]).bind fun x43 =>
(aBox y4 ((zeroP PP y4).getD unk) (AS.mk r42.2.1 (y8 s.esc r42.2.2))).bind fun r44 =>
(q43 19 r44.2 r44.1 x43).bind fun s45 =>
(y3 PP q10 t9 3).bind fun x46 =>
(y3 PP q30 x46 2).bind fun x47 =>
(aLoad false 1 s45 x47).bind fun x48 =>
((y3 PP y4 r44.1 0).bind fun x49 =>
(aLoad false 1 s45 x49).bind fun x50 =>
(aUn PP .not x50).bind fun x51 =>
bcase x51 (
(y3 PP y4 r44.1 3).bind fun x52 =>
(aLoad false 1 s45 x52).bind fun x53 =>
(aBin PP .eql t_int (.tmp 63) (.const (.int .i64 (-1))) x53 (.int .i64 (-1))).bind fun x54 =>
bcase x54 (
some (AEx.exit 1, [t0, t1, t5, t6, t7, t9, r44.1, x48, t17, t18, t19], s45)) (
(y3 PP y4 r44.1 3).bind fun x55 =>
(aLoad false 1 s45 x55).bind fun x56 =>
(q15 PP q25 t0 x56).bind fun x57 =>
(y3 PP q10 x57 4).bind fun x58 =>
(aLoad false 1 s45 x58).bind fun x59 =>
some (AEx.normal, [t0, t1, t5, t6, t7, t9, r44.1, x59, t17, t18, t19], s45))) (
some (AEx.normal, [t0, t1, t5, t6, t7, t9, r44.1, x48, t17, t18, t19], s45))).bind fun r60 =>
match r60.1 with
| .normal => j3 C L n0 ((r60.2.1.getD 0 unk)) ((r60.2.1.getD 1 unk)) ((r60.2.1.getD 2 unk)) ((r60.2.1.getD 3 unk)) ((r60.2.1.getD 4 unk)) ((r60.2.1.getD 5 unk)) ((r60.2.1.getD 6 unk)) ((r60.2.1.getD 7 unk)) ((r60.2.1.getD 8 unk)) ((r60.2.1.getD 9 unk)) ((r60.2.1.getD 10 unk)) r60.2.2
| .exit i => if i = 1 then some (AEx.normal, [(r60.2.1.getD 0 unk), (r60.2.1.getD 1 unk), (r60.2.1.getD 2 unk), (r60.2.1.getD 3 unk), (r60.2.1.getD 4 unk), (r60.2.1.getD 8 unk), (r60.2.1.getD 9 unk), (r60.2.1.getD 10 unk)], r60.2.2) else some (AEx.exit i, [(r60.2.1.getD 0 unk), (r60.2.1.getD 1 unk), (r60.2.1.getD 2 unk), (r60.2.1.getD 3 unk), (r60.2.1.getD 4 unk), (r60.2.1.getD 8 unk), (r60.2.1.getD 9 unk), (r60.2.1.getD 10 unk)], r60.2.2)
| .ret => some (AEx.ret, [(r60.2.1.getD 0 unk), (r60.2.1.getD 1 unk), (r60.2.1.getD 2 unk), (r60.2.1.getD 3 unk), (r60.2.1.getD 4 unk), (r60.2.1.getD 8 unk), (r60.2.1.getD 9 unk), (r60.2.1.getD 10 unk)], r60.2.2)
else none
noncomputable def j5 (C : Am.Callee) (L : Loops) (n0 : Nat) (t0 t1 t5 t6 t7 t17 t18 t19 : Value) (s : AS) : Option ((List Value × AS) ⊕ (AEx × List Value × AS)) :=
(aBin PP .add t_int (.tmp 19) (.const (.int .i64 1)) t19 (.int .i64 1)).bind fun x82 =>
some (.inl ([t0, t1, t5, t6, t7, t17, t18, x82], s))
noncomputable def loop5 (C : Am.Callee) (L : Loops) (n0 : Nat) (t0 t1 t5 t6 t7 t17 t18 t19 : Value) (s : AS) : Option ((List Value × AS) ⊕ (AEx × List Value × AS)) :=
(aBin PP .lss t_int (.tmp 19) (.tmp 18) t19 t18).bind fun x8 =>
bcase x8 (
((q15 PP q25 t17 t19).bind fun x9 =>
(aLoad true 8 s x9).bind fun x10 =>
(aBox q10 ((zeroP PP q10).getD unk) s).bind fun r11 =>
(q43 8 r11.2 r11.1 x10).bind fun s12 =>
((y3 PP q10 r11.1 0).bind fun x13 =>
(aLoad false 1 s12 x13).bind fun x14 =>
(aBin PP .neq t_int (.tmp 25) (.const (.int .i64 0)) x14 (.int .i64 0)).bind fun x15 =>
bcase x15 (
j1 C L n0 t0 t1 t5 t6 t7 t19 r11.1 t17 t18 t19 (.bool true) s12) (
(y3 PP q10 r11.1 3).bind fun x16 =>
(y3 PP q30 x16 0).bind fun x17 =>
(aLoad false 1 s12 x17).bind fun x18 =>
(aBin PP .neq t_int (.tmp 30) (.const (.int .i64 0)) x18 (.int .i64 0)).bind fun x19 =>
bcase x19 (
(y3 PP q10 r11.1 3).bind fun x20 =>
(y3 PP q30 x20 0).bind fun x21 =>
(aLoad false 1 s12 x21).bind fun x22 =>
(aBin PP .neq t_int (.tmp 35) (.const (.int .i64 1)) x22 (.int .i64 1)).bind fun x23 =>
bcase x23 (
j1 C L n0 t0 t1 t5 t6 t7 t19 r11.1 t17 t18 t19 (.bool true) s12) (
(y3 PP q10 r11.1 3).bind fun x24 =>
(y3 PP q30 x24 1).bind fun x25 =>
(aLoad true 2 s12 x25).bind fun x26 =>
(aLoad true 2 s12 t7).bind fun x27 =>
(C q128 [x26, x27] s12.H).bind fun r28 =>
(aUn PP .not r28.1).bind fun x29 =>
j1 C L n0 t0 t1 t5 t6 t7 t19 r11.1 t17 t18 t19 x29 (AS.mk r28.2.1 (y8 s12.esc r28.2.2)))) (
(y3 PP q10 r11.1 3).bind fun x30 =>
(y3 PP q30 x30 1).bind fun x31 =>
(aLoad true 2 s12 x31).bind fun x32 =>
(aLoad true 2 s12 t7).bind fun x33 =>
(C q128 [x32, x33] s12.H).bind fun r34 =>
(aUn PP .not r34.1).bind fun x35 =>
j1 C L n0 t0 t1 t5 t6 t7 t19 r11.1 t17 t18 t19 x35 (AS.mk r34.2.1 (y8 s12.esc r34.2.2))))).bind fun r36 =>
match r36.1 with
| .normal => j2 C L n0 ((r36.2.1.getD 0 unk)) ((r36.2.1.getD 1 unk)) ((r36.2.1.getD 2 unk)) ((r36.2.1.getD 3 unk)) ((r36.2.1.getD 4 unk)) ((r36.2.1.getD 5 unk)) ((r36.2.1.getD 6 unk)) ((r36.2.1.getD 7 unk)) ((r36.2.1.getD 8 unk)) ((r36.2.1.getD 9 unk)) r36.2.2
| .exit i => if i = 1 then some (AEx.normal, [(r36.2.1.getD 0 unk), (r36.2.1.getD 1 unk), (r36.2.1.getD 2 unk), (r36.2.1.getD 3 unk), (r36.2.1.getD 4 unk), (r36.2.1.getD 7 unk), (r36.2.1.getD 8 unk), (r36.2.1.getD 9 unk)], r36.2.2) else some (AEx.exit i, [(r36.2.1.getD 0 unk), (r36.2.1.getD 1 unk), (r36.2.1.getD 2 unk), (r36.2.1.getD 3 unk), (r36.2.1.getD 4 unk), (r36.2.1.getD 7 unk), (r36.2.1.getD 8 unk), (r36.2.1.getD 9 unk)], r36.2.2)
| .ret => some (AEx.ret, [(r36.2.1.getD 0 unk), (r36.2.1.getD 1 unk), (r36.2.1.getD 2 unk), (r36.2.1.getD 3 unk), (r36.2.1.getD 4 unk), (r36.2.1.getD 7 unk), (r36.2.1.getD 8 unk), (r36.2.1.getD 9 unk)], r36.2.2)).bind fun r81 =>
match r81.1 with
| .normal => j5 C L n0 ((r81.2.1.getD 0 unk)) ((r81.2.1.getD 1 unk)) ((r81.2.1.getD 2 unk)) ((r81.2.1.getD 3 unk)) ((r81.2.1.getD 4 unk)) ((r81.2.1.getD 5 unk)) ((r81.2.1.getD 6 unk)) ((r81.2.1.getD 7 unk)) r81.2.2
| .exit i => some (.inr (.exit i, [(r81.2.1.getD 2 unk)], r81.2.2))
| .ret => some (.inr (.ret, [(r81.2.1.getD 2 unk)], r81.2.2))) (
some (.inr (.exit 0, [t5], s)))
noncomputable def loop5s (C : Am.Callee) (L : Loops) (n0 : Nat) : List Value × AS → Option ((List Value × AS) ⊕ (AEx × List Value × AS)) := fun s => loop5 C L n0 (s.1.getD 0 unk) (s.1.getD 1 unk) (s.1.getD 2 unk) (s.1.getD 3 unk) (s.1.getD 4 unk) (s.1.getD 5 unk) (s.1.getD 6 unk) (s.1.getD 7 unk) s.2
noncomputable def j7 (C : Am.Callee) (L : Loops) (n0 : Nat) (t5 : Value) (s : AS) : Option (Value × List Blk × Option Nat) :=
fin PP false n0 [t5] s
noncomputable def sh (C : Am.Callee) (L : Loops) (n0 : Nat) (t0 t1 : Value) (s : AS) : Option (Value × List Blk × Option Nat) :=
(C y98 [t0] s.H).bind fun r1 =>
(aBox q11 ((zeroP PP q11).getD unk) (AS.mk r1.2.1 (y8 s.esc r1.2.2))).bind fun r2 =>
(q43 3 r2.2 r2.1 r1.1).bind fun s3 =>
(q89 PP y15 [(0, t1), (1, .int .i64 1)]).bind fun x4 =>
(aBox y15 ((zeroP PP y15).getD unk) s3).bind fun r5 =>
(q43 2 r5.2 r5.1 x4).bind fun s6 =>
((aLen PP q25 t0 s6).bind fun x7 =>
(L n0 (loop5s C L n0) ([t0, t1, .slice none 0 0, r2.1, r5.1, t0, x7, .int .i64 0], s6)).bind fun r83 =>
match r83.1 with
| .normal => some (AEx.normal, [(r83.2.1.getD 0 unk)], r83.2.2)
| .exit i => if i = 0 then some (AEx.normal, [(r83.2.1.getD 0 unk)], r83.2.2) else some (AEx.exit i, [(r83.2.1.getD 0 unk)], r83.2.2)
| .ret => some (AEx.ret, [(r83.2.1.getD 0 unk)], r83.2.2)).bind fun r84 =>
match r84.1 with
| .normal => j7 C L n0 ((r84.2.1.getD 0 unk)) r84.2.2
| .exit i => none
| .ret => fin PP false n0 [unk] r84.2.2
def T : Tab := ⟨fun i => if i = 5 then some [0, 1, 5, 6, 7, 17, 18, 19] else none, fun i => if i = 5 then some [5] else none, false, fun i => if i = 8 then some [0, 1, 5, 6, 7, 8, 9, 17, 18, 19] else if i = 13 then some [0, 1, 5, 6, 7, 9, 10, 11, 17, 18, 19] else if i = 16 then some [0, 1, 5, 6, 7, 10, 17, 18, 19] else if i = 17 then some [0, 1, 5, 6, 7, 17, 18, 19] else if i = 18 then some [5] else none, fun _ => false, false, false, fun _ => false⟩
end history_Ops
namespace twainref36_Ops
noncomputable def j1 (C : Am.Callee) (L : Loops) (n0 : Nat) (t0 t1 t5 t6 t7 t9 t10 t11 t39 : Value) (s : AS) : Option (AEx × List Value × AS) :=
bcase t39 (
some (AEx.exit 1, [t0, t1, t5, t6, t7, t9, t10, t11], s)) (
some (AEx.normal, [t0, t1, t5, t6, t7, t9, t10, t11], s))
noncomputable def j3 (C : Am.Callee) (L : Loops) (n0 : Nat) (t0 t1 t5 t8 t9 t10 t11 : Value) (s : AS) : Option (AEx × List Value × AS) :=
(aLoad true 19 s t8).bind fun x63 =>
(bsl PP y7 1 [0] [x63] s).bind fun r64 =>
y16 PP .append #[y7, y7] [t5, r64.1] r64.2 fun x65 s66 =>
some (AEx.normal, [t0, t1, x65, t9, t10, t11], s66)
noncomputable def j2 (C : Am.Callee) (L : Loops) (n0 : Nat) (t0 t1 t5 t6 t7 t9 t10 t11 : Value) (s : AS) : Option (AEx × List Value × AS) :=
(y3 PP y5 t7 3).bind fun x25 =>
(y3 PP q30 x25 0).bind fun x26 =>
(aLoad false 1 s x26).bind fun x27 =>
(aBin PP .eql t_int (.tmp 42) (.const (.int .i64 1)) x27 (.int .i64 1)).bind fun x28 =>
(C y80 [t0, t6] s.H).bind fun r29 =>
if ((((aLoad false 1 (AS.mk r29.2.1 (y8 s.esc r29.2.2)) x26).bind fun x67 =>
some (veq x67 x27)) == some true) && true) = true then
(q89 PP y2 [(0, x28), (2, t6), (3, r29.1)]).bind fun x30 =>
(aBox y2 ((zeroP PP y2).getD unk) (AS.mk r29.2.1 (y8 s.esc r29.2.2))).bind fun r31 =>
(q43 19 r31.2 r31.1 x30).bind fun s32 =>
((y3 PP y2 r31.1 0).bind fun x33 =>
(aLoad false 1 s32 x33).bind fun x34 =>
bcase x34 (
(y3 PP y5 t7 3).bind fun x35 =>
(y3 PP q30 x35 2).bind fun x36 =>
(aLoad false 1 s32 x36).bind fun x37 =>
(y3 PP y5 t7 3).bind fun x38 =>
(y3 PP q30 x38 1).bind fun x39 =>
(y3 PP y15 x39 0).bind fun x40 =>
(aLoad false 1 s32 x40).bind fun x41 =>
(aBin PP .sub t_int (.tmp 69) (.tmp 73) t1 x41).bind fun x42 =>
(C y85 [x37, x42] s32.H).bind fun r43 =>
(y3 PP y2 r31.1 1).bind fun x44 =>
(q43 16 (AS.mk r43.2.1 (y8 s32.esc r43.2.2)) x44 r43.1).bind fun s45 =>
some (AEx.normal, [t0, t1, t5, r31.1, t9, t10, t11], s45)) (
(y3 PP y2 r31.1 3).bind fun x46 =>
(aLoad false 1 s32 x46).bind fun x47 =>
(aBin PP .lss t_int (.tmp 79) (.const (.int .i64 0)) x47 (.int .i64 0)).bind fun x48 =>
bcase x48 (
some (AEx.exit 1, [t0, t1, t5, r31.1, t9, t10, t11], s32)) (
(y3 PP y2 r31.1 3).bind fun x49 =>
(aLoad false 1 s32 x49).bind fun x50 =>
(q15 PP q13 t0 x50).bind fun x51 =>
(y3 PP y5 x51 4).bind fun x52 =>
(aLoad false 1 s32 x52).bind fun x53 =>
(y3 PP y5 t7 3).bind fun x54 =>
(y3 PP q30 x54 1).bind fun x55 =>
(y3 PP y15 x55 0).bind fun x56 =>
(aLoad false 1 s32 x56).bind fun x57 =>
(aBin PP .sub t_int (.tmp 55) (.tmp 59) t1 x57).bind fun x58 =>
(C y85 [x53, x58] s32.H).bind fun r59 =>
(y3 PP y2 r31.1 1).bind fun x60 =>
(q43 16 (AS.mk r59.2.1 (y8 s32.esc r59.2.2)) x60 r59.1).bind fun s61 =>
some (AEx.normal, [t0, t1, t5, r31.1, t9, t10, t11], s61)))).bind fun r62 =>
match r62.1 with
| .normal => j3 C L n0 ((r62.2.1.getD 0 unk)) ((r62.2.1.getD 1 unk)) ((r62.2.1.getD 2 unk)) ((r62.2.1.getD 3 unk)) ((r62.2.1.getD 4 unk)) ((r62.2.1.getD 5 unk)) ((r62.2.1.getD 6 unk)) r62.2.2
| .exit i => if i = 1 then some (AEx.normal, [(r62.2.1.getD 0 unk), (r62.2.1.getD 1 unk), (r62.2.1.getD 2 unk), (r62.2.1.getD 4 unk), (r62.2.1.getD 5 unk), (r62.2.1.getD 6 unk)], r62.2.2) else some (AEx.exit i, [(r62.2.1.getD 0 unk), (r62.2.1.getD 1 unk), (r62.2.1.getD 2 unk), (r62.2.1.getD 4 unk), (r62.2.1.getD 5 unk), (r62.2.1.getD 6 unk)], r62.2.2)
| .ret => some (AEx.ret, [(r62.2.1.getD 0 unk), (r62.2.1.getD 1 unk), (r62.2.1.getD 2 unk), (r62.2.1.getD 4 unk), (r62.2.1.getD 5 unk), (r62.2.1.getD 6 unk)], r62.2.2)
else none
noncomputable def j4 (C : Am.Callee) (L : Loops) (n0 : Nat) (t0 t1 t5 t9 t10 t11 : Value) (s : AS) : Option ((List Value × AS) ⊕ (AEx × List Value × AS)) :=
(aBin PP .add t_int (.tmp 11) (.const (.int .i64 1)) t11 (.int .i64 1)).bind fun x69 =>
some (.inl ([t0, t1, t5, t9, t10, x69], s))
noncomputable def loop3 (C : Am.Callee) (L : Loops) (n0 : Nat) (t0 t1 t5 t9 t10 t11 : Value) (s : AS) : Option ((List Value × AS) ⊕ (AEx × List Value × AS)) :=
(aBin PP .lss t_int (.tmp 11) (.tmp 10) t11 t10).bind fun x2 =>
bcase x2 (
((q15 PP q13 t9 t11).bind fun x3 =>
(aLoad true 8 s x3).bind fun x4 =>
(aBox y5 ((zeroP PP y5).getD unk) s).bind fun r5 =>
(q43 8 r5.2 r5.1 x4).bind fun s6 =>
((y3 PP y5 r5.1 0).bind fun x7 =>
(aLoad false 1 s6 x7).bind fun x8 =>
(aBin PP .neq t_int (.tmp 17) (.const (.int .i64 0)) x8 (.int .i64 0)).bind fun x9 =>
bcase x9 (
j1 C L n0 t0 t1 t5 t11 r5.1 t9 t10 t11 (.bool true) s6) (
(y3 PP y5 r5.1 3).bind fun x10 =>
(y3 PP q30 x10 0).bind fun x11 =>
(aLoad false 1 s6 x11).bind fun x12 =>
(aBin PP .lss t_int (.tmp 22) (.const (.int .i64 0)) x12 (.int .i64 0)).bind fun x13 =>
bcase x13 (
j1 C L n0 t0 t1 t5 t11 r5.1 t9 t10 t11 (.bool true) s6) (
(y3 PP y5 r5.1 3).bind fun x14 =>
(y3 PP q30 x14 0).bind fun x15 =>
(aLoad false 1 s6 x15).bind fun x16 =>
(aBin PP .gtr t_int (.tmp 28) (.const (.int .i64 1)) x16 (.int .i64 1)).bind fun x17 =>
bcase x17 (
j1 C L n0 t0 t1 t5 t11 r5.1 t9 t10 t11 (.bool true) s6) (
(y3 PP y5 r5.1 3).bind fun x18 =>
(y3 PP q30 x18 1).bind fun x19 =>
(aLoad true 2 s6 x19).bind fun x20 =>
(q89 PP y15 [(0, t1), (1, .int .i64 1)]).bind fun x21 =>
(C q98 [x20, x21] s6.H).bind fun r22 =>
(aUn PP .not r22.1).bind fun x23 =>
j1 C L n0 t0 t1 t5 t11 r5.1 t9 t10 t11 x23 (AS.mk r22.2.1 (y8 s6.esc r22.2.2)))))).bind fun r24 =>
match r24.1 with
| .normal => j2 C L n0 ((r24.2.1.getD 0 unk)) ((r24.2.1.getD 1 unk)) ((r24.2.1.getD 2 unk)) ((r24.2.1.getD 3 unk)) ((r24.2.1.getD 4 unk)) ((r24.2.1.getD 5 unk)) ((r24.2.1.getD 6 unk)) ((r24.2.1.getD 7 unk)) r24.2.2
| .exit i => if i = 1 then some (AEx.normal, [(r24.2.1.getD 0 unk), (r24.2.1.getD 1 unk), (r24.2.1.getD 2 unk), (r24.2.1.getD 5 unk), (r24.2.1.getD 6 unk), (r24.2.1.getD 7 unk)], r24.2.2) else some (AEx.exit i, [(r24.2.1.getD 0 unk), (r24.2.1.getD 1 unk), (r24.2.1.getD 2 unk), (r24.2.1.getD 5 unk), (r24.2.1.getD 6 unk), (r24.2.1.getD 7 unk)], r24.2.2)
| .ret => some (AEx.ret, [(r24.2.1.getD 0 unk), (r24.2.1.getD 1 unk), (r24.2.1.getD 2 unk), (r24.2.1.getD 5 unk), (r24.2.1.getD 6 unk), (r24.2.1.getD 7 unk)], r24.2.2)).bind fun r68 =>
match r68.1 with
| .normal => j4 C L n0 ((r68.2.1.getD 0 unk)) ((r68.2.1.getD 1 unk)) ((r68.2.1.getD 2 unk)) ((r68.2.1.getD 3 unk)) ((r68.2.1.getD 4 unk)) ((r68.2.1.getD 5 unk)) r68.2.2
| .exit i => some (.inr (.exit i, [(r68.2.1.getD 2 unk)], r68.2.2))
| .ret => some (.inr (.ret, [(r68.2.1.getD 2 unk)], r68.2.2))) (
some (.inr (.exit 0, [t5], s)))
noncomputable def loop3s (C : Am.Callee) (L : Loops) (n0 : Nat) : List Value × AS → Option ((List Value × AS) ⊕ (AEx × List Value × AS)) := fun s => loop3 C L n0 (s.1.getD 0 unk) (s.1.getD 1 unk) (s.1.getD 2 unk) (s.1.getD 3 unk) (s.1.getD 4 unk) (s.1.getD 5 unk) s.2
noncomputable def j6 (C : Am.Callee) (L : Loops) (n0 : Nat) (t5 : Value) (s : AS) : Option (Value × List Blk × Option Nat) :=
fin PP false n0 [t5] s
noncomputable def sh (C : Am.Callee) (L : Loops) (n0 : Nat) (t0 t1 : Value) (s : AS) : Option (Value × List Blk × Option Nat) :=
((aLen PP q13 t0 s).bind fun x1 =>
(L n0 (loop3s C L n0) ([t0, t1, .slice none 0 0, t0, x1, .int .i64 0], s)).bind fun r70 =>
match r70.1 with
| .normal => some (AEx.normal, [(r70.2.1.getD 0 unk)], r70.2.2)
| .exit i => if i = 0 then some (AEx.normal, [(r70.2.1.getD 0 unk)], r70.2.2) else some (AEx.exit i, [(r70.2.1.getD 0 unk)], r70.2.2)
| .ret => some (AEx.ret, [(r70.2.1.getD 0 unk)], r70.2.2)).bind fun r71 =>
match r71.1 with
| .normal => j6 C L n0 ((r71.2.1.getD 0 unk)) r71.2.2
| .exit i => none
| .ret => fin PP false n0 [unk] r71.2.2
def T : Tab := ⟨fun i => if i = 3 then some [0, 1, 5, 9, 10, 11] else none, fun i => if i = 3 then some [5] else none, false, fun i => if i = 6 then some [0, 1, 5, 6, 7, 9, 10, 11] else if i = 11 then some [0, 1, 5, 8, 9, 10, 11] else if i = 12 then some [0, 1, 5, 9, 10, 11] else if i = 13 then some [5] else none, fun _ => false, false, false, fun _ => false⟩
end twainref36_Ops
namespace twainref01_Ints
noncomputable def loop4 (C : Am.Callee) (L : Loops) (n0 : Nat) (t0 t1 t12 t13 : Value) (s : AS) : Option ((List Value × AS) ⊕ (AEx × List Value × AS)) :=
(aBin PP .lss t_int (.tmp 13) (.tmp 12) t13 t12).bind fun x5 =>
bcase x5 (
(q15 PP y28 t0 t13).bind fun x6 =>
(aLoad false 1 s x6).bind fun x7 =>
(q15 PP y28 t1 t13).bind fun x8 =>
(aLoad false 1 s x8).bind fun x9 =>
(aBin PP .neq t_int (.tmp 19) (.tmp 23) x7 x9).bind fun x10 =>
bcase x10 (
some (.inr (.ret, [.bool false], s))) (
(aBin PP .add t_int (.tmp 13) (.const (.int .i64 1)) t13 (.int .i64 1)).bind fun x11 =>
some (.inl ([t0, t1, t12, x11], s)))) (
some (.inr (.exit 0, [unk], s)))
noncomputable def loop4s (C : Am.Callee) (L : Loops) (n0 : Nat) : List Value × AS → Option ((List Value × AS) ⊕ (AEx × List Value × AS)) := fun s => loop4 C L n0 (s.1.getD 0 unk) (s.1.getD 1 unk) (s.1.getD 2 unk) (s.1.getD 3 unk) s.2
noncomputable def j2 (C : Am.Callee) (L : Loops) (n0 : Nat) (s : AS) : Option (Value × List Blk × Option Nat) :=
fin PP false n0 [.bool true] s
noncomputable def sh (C : Am.Callee) (L : Loops) (n0 : Nat) (t0 t1 : Value) (s : AS) : Option (Value × List Blk × Option Nat) :=
(aLen PP y28 t0 s).bind fun x1 =>
(aLen PP y28 t1 s).bind fun x2 =>
(aBin PP .neq t_int (.tmp 7) (.tmp 9) x1 x2).bind fun x3 =>
bcase x3 (
fin PP false n0 [.bool false] s) (
((aLen PP y28 t0 s).bind fun x4 =>
(L n0 (loop4s C L n0) ([t0, t1, x4, .int .i64 0], s)).bind fun r12 =>
match r12.1 with
| .normal => some (AEx.normal, [(r12.2.1.getD 0 unk)], r12.2.2)
| .exit i => if i = 0 then some (AEx.normal, [(r12.2.1.getD 0 unk)], r12.2.2) else some (AEx.exit i, [(r12.2.1.getD 0 unk)], r12.2.2)
| .ret => some (AEx.ret, [(r12.2.1.getD 0 unk)], r12.2.2)).bind fun r13 =>
match r13.1 with
| .normal => j2 C L n0  r13.2.2
| .exit i => none
| .ret => fin PP false n0 [(r13.2.1.getD 0 unk)] r13.2.2)
def T : Tab := ⟨fun i => if i = 4 then some [0, 1, 12, 13] else none, fun i => if i = 4 then some [4] else none, false, fun i => if i = 9 then some [4] else none, fun _ => false, false, false, fun _ => false⟩
end twainref01_Ints
namespace history_Open
noncomputable def j1 (C : Am.Callee) (L : Loops) (n0 : Nat) (t3 t4 t5 t9 t10 t11 t24 : Value) (s : AS) : Option (AEx × List Value × AS) :=
bcase t24 (
(bsl PP y28 1 [0] [t5] s).bind fun r17 =>
y16 PP .append #[y28, y28] [t3, r17.1] r17.2 fun x18 s19 =>
some (AEx.normal, [x18, t4, t9, t10, t11], s19)) (
some (AEx.normal, [t3, t4, t9, t10, t11], s))
noncomputable def j2 (C : Am.Callee) (L : Loops) (n0 : Nat) (t3 t4 t9 t10 t11 : Value) (s : AS) : Option ((List Value × AS) ⊕ (AEx × List Value × AS)) :=
(aBin PP .add t_int (.tmp 11) (.const (.int .i64 1)) t11 (.int .i64 1)).bind fun x21 =>
some (.inl ([t3, t4, t9, t10, x21], s))
noncomputable def loop4 (C : Am.Callee) (L : Loops) (n0 : Nat) (t3 t4 t9 t10 t11 : Value) (s : AS) : Option ((List Value × AS) ⊕ (AEx × List Value × AS)) :=
(aBin PP .lss t_int (.tmp 11) (.tmp 10) t11 t10).bind fun x5 =>
bcase x5 (
((q15 PP q25 t9 t11).bind fun x6 =>
(aLoad true 8 s x6).bind fun x7 =>
(aBox q10 ((zeroP PP q10).getD unk) s).bind fun r8 =>
(q43 8 r8.2 r8.1 x7).bind fun s9 =>
((y3 PP q10 r8.1 0).bind fun x10 =>
(aLoad false 1 s9 x10).bind fun x11 =>
(aBin PP .eql t_int (.tmp 17) (.const (.int .i64 0)) x11 (.int .i64 0)).bind fun x12 =>
bcase x12 (
(aLoad true 3 s9 t4).bind fun x13 =>
(C q91 [x13, t11] s9.H).bind fun r14 =>
(aBin PP .eql t_int (.tmp 22) (.const (.int .i64 (-1))) r14.1 (.int .i64 (-1))).bind fun x15 =>
some (AEx.normal, [t3, t4, t11, t9, t10, t11, x15], AS.mk r14.2.1 (y8 s9.esc r14.2.2))) (
some (AEx.normal, [t3, t4, t11, t9, t10, t11, .bool false], s9))).bind fun r16 =>
match r16.1 with
| .normal => j1 C L n0 ((r16.2.1.getD 0 unk)) ((r16.2.1.getD 1 unk)) ((r16.2.1.getD 2 unk)) ((r16.2.1.getD 3 unk)) ((r16.2.1.getD 4 unk)) ((r16.2.1.getD 5 unk)) ((r16.2.1.getD 6 unk)) r16.2.2
| .exit i => if i = 1 then some (AEx.normal, [(r16.2.1.getD 0 unk), (r16.2.1.getD 1 unk), (r16.2.1.getD 3 unk), (r16.2.1.getD 4 unk), (r16.2.1.getD 5 unk)], r16.2.2) else some (AEx.exit i, [(r16.2.1.getD 0 unk), (r16.2.1.getD 1 unk), (r16.2.1.getD 3 unk), (r16.2.1.getD 4 unk), (r16.2.1.getD 5 unk)], r16.2.2)
| .ret => some (AEx.ret, [(r16.2.1.getD 0 unk), (r16.2.1.getD 1 unk), (r16.2.1.getD 3 unk), (r16.2.1.getD 4 unk), (r16.2.1.getD 5 unk)], r16.2.2)).bind fun r20 =>
match r20.1 with
| .normal => j2 C L n0 ((r20.2.1.getD 0 unk)) ((r20.2.1.getD 1 unk)) ((r20.2.1.getD 2 unk)) ((r20.2.1.getD 3 unk)) ((r20.2.1.getD 4 unk)) r20.2.2
| .exit i => some (.inr (.exit i, [(r20.2.1.getD 0 unk)], r20.2.2))
| .ret => some (.inr (.ret, [(r20.2.1.getD 0 unk)], r20.2.2))) (
some (.inr (.exit 0, [t3], s)))
noncomputable def loop4s (C : Am.Callee) (L : Loops) (n0 : Nat) : List Value × AS → Option ((List Value × AS) ⊕ (AEx × List Value × AS)) := fun s => loop4 C L n0 (s.1.getD 0 unk) (s.1.getD 1 unk) (s.1.getD 2 unk) (s.1.getD 3 unk) (s.1.getD 4 unk) s.2
noncomputable def j4 (C : Am.Callee) (L : Loops) (n0 : Nat) (t3 : Value) (s : AS) : Option (Value × List Blk × Option Nat) :=
fin PP false n0 [t3] s
noncomputable def sh (C : Am.Callee) (L : Loops) (n0 : Nat) (t0 : Value) (s : AS) : Option (Value × List Blk × Option Nat) :=
(C y98 [t0] s.H).bind fun r1 =>
(aBox q11 ((zeroP PP q11).getD unk) (AS.mk r1.2.1 (y8 s.esc r1.2.2))).bind fun r2 =>
(q43 3 r2.2 r2.1 r1.1).bind fun s3 =>
((aLen PP q25 t0 s3).bind fun x4 =>
(L n0 (loop4s C L n0) ([.slice none 0 0, r2.1, t0, x4, .int .i64 0], s3)).bind fun r22 =>
match r22.1 with
| .normal => some (AEx.normal, [(r22.2.1.getD 0 unk)], r22.2.2)
| .exit i => if i = 0 then some (AEx.normal, [(r22.2.1.getD 0 unk)], r22.2.2) else some (AEx.exit i, [(r22.2.1.getD 0 unk)], r22.2.2)
| .ret => some (AEx.ret, [(r22.2.1.getD 0 unk)], r22.2.2)).bind fun r23 =>
match r23.1 with
| .normal => j4 C L n0 ((r23.2.1.getD 0 unk)) r23.2.2
| .exit i => none
| .ret => fin PP false n0 [unk] r23.2.2
def T : Tab := ⟨fun i => if i = 4 then some [3, 4, 9, 10, 11] else none, fun i => if i = 4 then some [3] else none, false, fun i => if i = 7 then some [3, 4, 5, 9, 10, 11, 24] else if i = 8 then some [3, 4, 9, 10, 11] else if i = 9 then some [3] else none, fun _ => false, false, false, fun _ => false⟩
end history_Open
namespace twainref36_Open
noncomputable def j1 (C : Am.Callee) (L : Loops) (n0 : Nat) (t0 t3 t4 t6 t7 t8 t21 : Value) (s : AS) : Option (AEx × List Value × AS) :=
bcase t21 (
(bsl PP y28 1 [0] [t4] s).bind fun r13 =>
y16 PP .append #[y28, y28] [t3, r13.1] r13.2 fun x14 s15 =>
some (AEx.normal, [t0, x14, t6, t7, t8], s15)) (
some (AEx.normal, [t0, t3, t6, t7, t8], s))
noncomputable def j2 (C : Am.Callee) (L : Loops) (n0 : Nat) (t0 t3 t6 t7 t8 : Value) (s : AS) : Option ((List Value × AS) ⊕ (AEx × List Value × AS)) :=
(aBin PP .add t_int (.tmp 8) (.const (.int .i64 1)) t8 (.int .i64 1)).bind fun x17 =>
some (.inl ([t0, t3, t6, t7, x17], s))
noncomputable def loop3 (C : Am.Callee) (L : Loops) (n0 : Nat) (t0 t3 t6 t7 t8 : Value) (s : AS) : Option ((List Value × AS) ⊕ (AEx × List Value × AS)) :=
(aBin PP .lss t_int (.tmp 8) (.tmp 7) t8 t7).bind fun x2 =>
bcase x2 (
((q15 PP q13 t6 t8).bind fun x3 =>
(aLoad true 8 s x3).bind fun x4 =>
(aBox y5 ((zeroP PP y5).getD unk) s).bind fun r5 =>
(q43 8 r5.2 r5.1 x4).bind fun s6 =>
((y3 PP y5 r5.1 0).bind fun x7 =>
(aLoad false 1 s6 x7).bind fun x8 =>
(aBin PP .eql t_int (.tmp 14) (.const (.int .i64 0)) x8 (.int .i64 0)).bind fun x9 =>
bcase x9 (
(C y80 [t0, t8] s6.H).bind fun r10 =>
(aBin PP .lss t_int (.tmp 19) (.const (.int .i64 0)) r10.1 (.int .i64 0)).bind fun x11 =>
some (AEx.normal, [t0, t3, t8, t6, t7, t8, x11], AS.mk r10.2.1 (y8 s6.esc r10.2.2))) (
some (AEx.normal, [t0, t3, t8, t6, t7, t8, .bool false], s6))).bind fun r12 =>
match r12.1 with
| .normal => j1 C L n0 ((r12.2.1.getD 0 unk)) ((r12.2.1.getD 1 unk)) ((r12.2.1.getD 2 unk)) ((r12.2.1.getD 3 unk)) ((r12.2.1.getD 4 unk)) ((r12.2.1.getD 5 unk)) ((r12.2.1.getD 6 unk)) r12.2.2
| .exit i => if i = 1 then some (AEx.normal, [(r12.2.1.getD 0 unk), (r12.2.1.getD 1 unk), (r12.2.1.getD 3 unk), (r12.2.1.getD 4 unk), (r12.2.1.getD 5 unk)], r12.2.2) else some (AEx.exit i, [(r12.2.1.getD 0 unk), (r12.2.1.getD 1 unk), (r12.2.1.getD 3 unk), (r12.2.1.getD 4 unk), (r12.2.1.getD 5 unk)], r12.2.2)
| .ret => some (AEx.ret, [(r12.2.1.getD 0 unk), (r12.2.1.getD 1 unk), (r12.2.1.getD 3 unk), (r12.2.1.getD 4 unk), (r12.2.1.getD 5 unk)], r12.2.2)).bind fun r16 =>
match r16.1 with
| .normal => j2 C L n0 ((r16.2.1.getD 0 unk)) ((r16.2.1.getD 1 unk)) ((r16.2.1.getD 2 unk)) ((r16.2.1.getD 3 unk)) ((r16.2.1.getD 4 unk)) r16.2.2
| .exit i => some (.inr (.exit i, [(r16.2.1.getD 1 unk)], r16.2.2))
| .ret => some (.inr (.ret, [(r16.2.1.getD 1 unk)], r16.2.2))) (
some (.inr (.exit 0, [t3], s)))
noncomputable def loop3s (C : Am.Callee) (L : Loops) (n0 : Nat) : List Value × AS → Option ((List Value × AS) ⊕ (AEx × List Value × AS)) := fun s => loop3 C L n0 (s.1.getD 0 unk) (s.1.getD 1 unk) (s.1.getD 2 unk) (s.1.getD 3 unk) (s.1.getD 4 unk) s.2
noncomputable def j4 (C : Am.Callee) (L : Loops) (n0 : Nat) (t3 : Value) (s : AS) : Option (Value × List Blk × Option Nat) :=
fin PP false n0 [t3] s
noncomputable def sh (C : Am.Callee) (L : Loops) (n0 : Nat) (t0 : Value) (s : AS) : Option (Value × List Blk × Option Nat) :=
((aLen PP q13 t0 s).bind fun x1 =>
(L n0 (loop3s C L n0) ([t0, .slice none 0 0, t0, x1, .int .i64 0], s)).bind fun r18 =>
match r18.1 with
| .normal => some (AEx.normal, [(r18.2.1.getD 0 unk)], r18.2.2)
| .exit i => if i = 0 then some (AEx.normal, [(r18.2.1.getD 0 unk)], r18.2.2) else some (AEx.exit i, [(r18.2.1.getD 0 unk)], r18.2.2)
| .ret => some (AEx.ret, [(r18.2.1.getD 0 unk)], r18.2.2)).bind fun r19 =>
match r19.1 with
| .normal => j4 C L n0 ((r19.2.1.getD 0 unk)) r19.2.2
| .exit i => none
| .ret => fin PP false n0 [unk] r19.2.2
def T : Tab := ⟨fun i => if i = 3 then some [0, 3, 6, 7, 8] else none, fun i => if i = 3 then some [3] else none, false, fun i => if i = 6 then some [0, 3, 4, 6, 7, 8, 21] else if i = 7 then some [0, 3, 6, 7, 8] else if i = 8 then some [3] else none, fun _ => false, false, false, fun _ => false⟩
end twainref36_Open
namespace history_Odd
noncomputable def sh (C : Am.Callee) (L : Loops) (n0 : Nat) (t0 : Value) (s : AS) : Option (Value × List Blk × Option Nat) :=
(C y98 [t0] s.H).bind fun r1 =>
(y12 PP (Instr.field q11 r1.1 2)).bind fun x2 =>
fin PP false n0 [x2] (AS.mk r1.2.1 (y8 s.esc r1.2.2))
def T : Tab := ⟨fun i => none, fun i => none, false, fun i => none, fun _ => false, false, false, fun _ => false⟩
end history_Odd
namespace twainref36_Odd
noncomputable def j3 (C : Am.Callee) (L : Loops) (n0 : Nat) (t0 t6 t7 t8 t36 : Value) (s : AS) : Option (AEx × List Value × AS) :=
bcase t36 (
some (AEx.ret, [t0, .bool true, t6, t7, t8], s)) (
some (AEx.normal, [t0, unk, t6, t7, t8], s))
noncomputable def j2 (C : Am.Callee) (L : Loops) (n0 : Nat) (t0 t3 t4 t6 t7 t8 : Value) (s : AS) : Option (AEx × List Value × AS) :=
(y3 PP y5 t4 0).bind fun x13 =>
(aLoad false 1 s x13).bind fun x14 =>
(aBin PP .neq t_int (.tmp 23) (.const (.int .i64 1)) x14 (.int .i64 1)).bind fun x15 =>
bcase x15 (
some (AEx.normal, [t0, unk, t6, t7, t8], s)) (
(C y83 [t0, t3] s.H).bind fun r16 =>
((aBin PP .lss t_int (.tmp 28) (.const (.int .i64 0)) r16.1 (.int .i64 0)).bind fun x17 =>
bcase x17 (
some (AEx.normal, [t0, t6, t7, t8, .bool true], AS.mk r16.2.1 (y8 s.esc r16.2.2))) (
(C y80 [t0, r16.1] (AS.mk r16.2.1 (y8 s.esc r16.2.2)).H).bind fun r18 =>
(aBin PP .neq t_int (.tmp 33) (.tmp 34) r18.1 t3).bind fun x19 =>
some (AEx.normal, [t0, t6, t7, t8, x19], AS.mk r18.2.1 (y8 (AS.mk r16.2.1 (y8 s.esc r16.2.2)).esc r18.2.2)))).bind fun r20 =>
match r20.1 with
| .normal => j3 C L n0 ((r20.2.1.getD 0 unk)) ((r20.2.1.getD 1 unk)) ((r20.2.1.getD 2 unk)) ((r20.2.1.getD 3 unk)) ((r20.2.1.getD 4 unk)) r20.2.2
| .exit i => if i = 1 then some (AEx.normal, [(r20.2.1.getD 0 unk), unk, (r20.2.1.getD 1 unk), (r20.2.1.getD 2 unk), (r20.2.1.getD 3 unk)], r20.2.2) else some (AEx.exit i, [(r20.2.1.getD 0 unk), unk, (r20.2.1.getD 1 unk), (r20.2.1.getD 2 unk), (r20.2.1.getD 3 unk)], r20.2.2)
| .ret => some (AEx.ret, [(r20.2.1.getD 0 unk), unk, (r20.2.1.getD 1 unk), (r20.2.1.getD 2 unk), (r20.2.1.getD 3 unk)], r20.2.2))
noncomputable def j1 (C : Am.Callee) (L : Loops) (n0 : Nat) (t0 t3 t4 t6 t7 t8 t21 : Value) (s : AS) : Option (AEx × List Value × AS) :=
bcase t21 (
some (AEx.ret, [t0, .bool true, t6, t7, t8], s)) (
j2 C L n0 t0 t3 t4 t6 t7 t8 s)
noncomputable def j4 (C : Am.Callee) (L : Loops) (n0 : Nat) (t0 t6 t7 t8 : Value) (s : AS) : Option ((List Value × AS) ⊕ (AEx × List Value × AS)) :=
(aBin PP .add t_int (.tmp 8) (.const (.int .i64 1)) t8 (.int .i64 1)).bind fun x22 =>
some (.inl ([t0, t6, t7, x22], s))
noncomputable def loop2 (C : Am.Callee) (L : Loops) (n0 : Nat) (t0 t6 t7 t8 : Value) (s : AS) : Option ((List Value × AS) ⊕ (AEx × List Value × AS)) :=
(aBin PP .lss t_int (.tmp 8) (.tmp 7) t8 t7).bind fun x2 =>
bcase x2 (
((q15 PP q13 t6 t8).bind fun x3 =>
(aLoad true 8 s x3).bind fun x4 =>
(aBox y5 ((zeroP PP y5).getD unk) s).bind fun r5 =>
(q43 8 r5.2 r5.1 x4).bind fun s6 =>
((y3 PP y5 r5.1 0).bind fun x7 =>
(aLoad false 1 s6 x7).bind fun x8 =>
(aBin PP .eql t_int (.tmp 14) (.const (.int .i64 0)) x8 (.int .i64 0)).bind fun x9 =>
bcase x9 (
(C y83 [t0, t8] s6.H).bind fun r10 =>
(aBin PP .geq t_int (.tmp 19) (.const (.int .i64 0)) r10.1 (.int .i64 0)).bind fun x11 =>
some (AEx.normal, [t0, t8, r5.1, t6, t7, t8, x11], AS.mk r10.2.1 (y8 s6.esc r10.2.2))) (
some (AEx.normal, [t0, t8, r5.1, t6, t7, t8, .bool false], s6))).bind fun r12 =>
match r12.1 with
| .normal => j1 C L n0 ((r12.2.1.getD 0 unk)) ((r12.2.1.getD 1 unk)) ((r12.2.1.getD 2 unk)) ((r12.2.1.getD 3 unk)) ((r12.2.1.getD 4 unk)) ((r12.2.1.getD 5 unk)) ((r12.2.1.getD 6 unk)) r12.2.2
| .exit i => if i = 1 then some (AEx.normal, [(r12.2.1.getD 0 unk), unk, (r12.2.1.getD 3 unk), (r12.2.1.getD 4 unk), (r12.2.1.getD 5 unk)], r12.2.2) else some (AEx.exit i, [(r12.2.1.getD 0 unk), unk, (r12.2.1.getD 3 unk), (r12.2.1.getD 4 unk), (r12.2.1.getD 5 unk)], r12.2.2)
| .ret => some (AEx.ret, [(r12.2.1.getD 0 unk), unk, (r12.2.1.getD 3 unk), (r12.2.1.getD 4 unk), (r12.2.1.getD 5 unk)], r12.2.2)).bind fun r21 =>
match r21.1 with
| .normal => j4 C L n0 ((r21.2.1.getD 0 unk)) ((r21.2.1.getD 2 unk)) ((r21.2.1.getD 3 unk)) ((r21.2.1.getD 4 unk)) r21.2.2
| .exit i => some (.inr (.exit i, [(r21.2.1.getD 1 unk)], r21.2.2))
| .ret => some (.inr (.ret, [(r21.2.1.getD 1 unk)], r21.2.2))) (
some (.inr (.exit 0, [unk], s)))
noncomputable def loop2s (C : Am.Callee) (L : Loops) (n0 : Nat) : List Value × AS → Option ((List Value × AS) ⊕ (AEx × List Value × AS)) := fun s => loop2 C L n0 (s.1.getD 0 unk) (s.1.getD 1 unk) (s.1.getD 2 unk) (s.1.getD 3 unk) s.2
noncomputable def j6 (C : Am.Callee) (L : Loops) (n0 : Nat) (s : AS) : Option (Value × List Blk × Option Nat) :=
fin PP false n0 [.bool false] s
noncomputable def sh (C : Am.Callee) (L : Loops) (n0 : Nat) (t0 : Value) (s : AS) : Option (Value × List Blk × Option Nat) :=
((aLen PP q13 t0 s).bind fun x1 =>
(L n0 (loop2s C L n0) ([t0, t0, x1, .int .i64 0], s)).bind fun r23 =>
match r23.1 with
| .normal => some (AEx.normal, [(r23.2.1.getD 0 unk)], r23.2.2)
| .exit i => if i = 0 then some (AEx.normal, [(r23.2.1.getD 0 unk)], r23.2.2) else some (AEx.exit i, [(r23.2.1.getD 0 unk)], r23.2.2)
| .ret => some (AEx.ret, [(r23.2.1.getD 0 unk)], r23.2.2)).bind fun r24 =>
match r24.1 with
| .normal => j6 C L n0  r24.2.2
| .exit i => none
| .ret => fin PP false n0 [(r24.2.1.getD 0 unk)] r24.2.2
def T : Tab := ⟨fun i => if i = 2 then some [0, 6, 7, 8] else none, fun i => if i = 2 then some [2] else none, false, fun i => if i = 5 then some [0, 3, 4, 6, 7, 8, 21] else if i = 9 then some [0, 6, 7, 8, 36] else if i = 10 then some [0, 2, 6, 7, 8] else if i = 11 then some [2] else none, fun _ => false, false, false, fun _ => false⟩
end twainref36_Odd
namespace twainref37_Fits
noncomputable def j1 (C : Am.Callee) (L : Loops) (n0 : Nat) (t0 t2 t7 t8 t9 t17 t18 t19 t38 : Value) (s : AS) : Option (AEx × List Value × AS) :=
bcase t38 (
some (AEx.ret, [t0, t2, .bool false, t7, t8, t9, t17, t18, t19], s)) (
some (AEx.normal, [t0, t2, unk, t7, t8, t9, t17, t18, t19], s))
noncomputable def j3 (C : Am.Callee) (L : Loops) (n0 : Nat) (t0 t2 t7 t8 t10 t17 t18 t19 t51 : Value) (s : AS) : Option (AEx × List Value × AS) :=
bcase t51 (
some (AEx.ret, [t0, t2, .bool false, t7, t8, t10, t17, t18, t19], s)) (
some (AEx.normal, [t0, t2, unk, t7, t8, t10, t17, t18, t19], s))
noncomputable def j7 (C : Am.Callee) (L : Loops) (n0 : Nat) (t0 t2 t7 t8 t10 t17 t18 t19 t56 t57 t58 t77 : Value) (s : AS) : Option (AEx × List Value × AS) :=
bcase t77 (
some (AEx.ret, [t0, t2, .bool false, t7, t8, t10, t17, t18, t19, t56, t57, t58], s)) (
some (AEx.normal, [t0, t2, unk, t7, t8, t10, t17, t18, t19, t56, t57, t58], s))
noncomputable def j8 (C : Am.Callee) (L : Loops) (n0 : Nat) (t0 t2 t7 t8 t10 t17 t18 t19 t56 t57 t58 : Value) (s : AS) : Option ((List Value × AS) ⊕ (AEx × List Value × AS)) :=
(aBin PP .add t_int (.tmp 58) (.const (.int .i64 1)) t58 (.int .i64 1)).bind fun x49 =>
some (.inl ([t0, t2, t7, t8, t10, t17, t18, t19, t56, t57, x49], s))
noncomputable def loop13 (C : Am.Callee) (L : Loops) (n0 : Nat) (t0 t2 t7 t8 t10 t17 t18 t19 t56 t57 t58 : Value) (s : AS) : Option ((List Value × AS) ⊕ (AEx × List Value × AS)) :=
(aBin PP .lss t_int (.tmp 58) (.tmp 57) t58 t57).bind fun x36 =>
bcase x36 (
((q15 PP y7 t56 t58).bind fun x37 =>
(aLoad true 19 s x37).bind fun x38 =>
(aBox y2 ((zeroP PP y2).getD unk) s).bind fun r39 =>
(q43 19 r39.2 r39.1 x38).bind fun s40 =>
(C q67 [t2, t58] s40.H).bind fun r41 =>
((aLoad true 19 (AS.mk r41.2.1 (y8 s40.esc r41.2.2)) r39.1).bind fun x42 =>
(aLoad true 19 (AS.mk r41.2.1 (y8 s40.esc r41.2.2)) t10).bind fun x43 =>
(C q92 [x42, x43] (AS.mk r41.2.1 (y8 s40.esc r41.2.2)).H).bind fun r44 =>
bcase r44.1 (
(aBin PP .lss t_int (.tmp 70) (.const (.int .i64 0)) r41.1 (.int .i64 0)).bind fun x45 =>
bcase x45 (
some (AEx.normal, [t0, t2, t7, t8, t10, t17, t18, t19, t56, t57, t58, .bool true], AS.mk r44.2.1 (y8 (AS.mk r41.2.1 (y8 s40.esc r41.2.2)).esc r44.2.2))) (
(aBin PP .gtr t_int (.tmp 73) (.tmp 74) r41.1 t8).bind fun x46 =>
some (AEx.normal, [t0, t2, t7, t8, t10, t17, t18, t19, t56, t57, t58, x46], AS.mk r44.2.1 (y8 (AS.mk r41.2.1 (y8 s40.esc r41.2.2)).esc r44.2.2)))) (
some (AEx.normal, [t0, t2, t7, t8, t10, t17, t18, t19, t56, t57, t58, .bool false], AS.mk r44.2.1 (y8 (AS.mk r41.2.1 (y8 s40.esc r41.2.2)).esc r44.2.2)))).bind fun r47 =>
match r47.1 with
| .normal => j7 C L n0 ((r47.2.1.getD 0 unk)) ((r47.2.1.getD 1 unk)) ((r47.2.1.getD 2 unk)) ((r47.2.1.getD 3 unk)) ((r47.2.1.getD 4 unk)) ((r47.2.1.getD 5 unk)) ((r47.2.1.getD 6 unk)) ((r47.2.1.getD 7 unk)) ((r47.2.1.getD 8 unk)) ((r47.2.1.getD 9 unk)) ((r47.2.1.getD 10 unk)) ((r47.2.1.getD 11 unk)) r47.2.2
| .exit i => if i = 3 then some (AEx.normal, [(r47.2.1.getD 0 unk), (r47.2.1.getD 1 unk), unk, (r47.2.1.getD 2 unk), (r47.2.1.getD 3 unk), (r47.2.1.getD 4 unk), (r47.2.1.getD 5 unk), (r47.2.1.getD 6 unk), (r47.2.1.getD 7 unk), (r47.2.1.getD 8 unk), (r47.2.1.getD 9 unk), (r47.2.1.getD 10 unk)], r47.2.2) else some (AEx.exit i, [(r47.2.1.getD 0 unk), (r47.2.1.getD 1 unk), unk, (r47.2.1.getD 2 unk), (r47.2.1.getD 3 unk), (r47.2.1.getD 4 unk), (r47.2.1.getD 5 unk), (r47.2.1.getD 6 unk), (r47.2.1.getD 7 unk), (r47.2.1.getD 8 unk), (r47.2.1.getD 9 unk), (r47.2.1.getD 10 unk)], r47.2.2)
| .ret => some (AEx.ret, [(r47.2.1.getD 0 unk), (r47.2.1.getD 1 unk), unk, (r47.2.1.getD 2 unk), (r47.2.1.getD 3 unk), (r47.2.1.getD 4 unk), (r47.2.1.getD 5 unk), (r47.2.1.getD 6 unk), (r47.2.1.getD 7 unk), (r47.2.1.getD 8 unk), (r47.2.1.getD 9 unk), (r47.2.1.getD 10 unk)], r47.2.2)).bind fun r48 =>
match r48.1 with
| .normal => j8 C L n0 ((r48.2.1.getD 0 unk)) ((r48.2.1.getD 1 unk)) ((r48.2.1.getD 3 unk)) ((r48.2.1.getD 4 unk)) ((r48.2.1.getD 5 unk)) ((r48.2.1.getD 6 unk)) ((r48.2.1.getD 7 unk)) ((r48.2.1.getD 8 unk)) ((r48.2.1.getD 9 unk)) ((r48.2.1.getD 10 unk)) ((r48.2.1.getD 11 unk)) r48.2.2
| .exit i => some (.inr (.exit i, [(r48.2.1.getD 0 unk), (r48.2.1.getD 1 unk), (r48.2.1.getD 2 unk), (r48.2.1.getD 3 unk), (r48.2.1.getD 6 unk), (r48.2.1.getD 7 unk), (r48.2.1.getD 8 unk)], r48.2.2))
| .ret => some (.inr (.ret, [(r48.2.1.getD 0 unk), (r48.2.1.getD 1 unk), (r48.2.1.getD 2 unk), (r48.2.1.getD 3 unk), (r48.2.1.getD 6 unk), (r48.2.1.getD 7 unk), (r48.2.1.getD 8 unk)], r48.2.2))) (
some (.inr (.exit 2, [t0, t2, unk, t7, t17, t18, t19], s)))
noncomputable def loop13s (C : Am.Callee) (L : Loops) (n0 : Nat) : List Value × AS → Option ((List Value × AS) ⊕ (AEx × List Value × AS)) := fun s => loop13 C L n0 (s.1.getD 0 unk) (s.1.getD 1 unk) (s.1.getD 2 unk) (s.1.getD 3 unk) (s.1.getD 4 unk) (s.1.getD 5 unk) (s.1.getD 6 unk) (s.1.getD 7 unk) (s.1.getD 8 unk) (s.1.getD 9 unk) (s.1.getD 10 unk) s.2
noncomputable def j5 (C : Am.Callee) (L : Loops) (n0 : Nat) (t0 t2 t7 t8 t10 t17 t18 t19 : Value) (s : AS) : Option (AEx × List Value × AS) :=
(aLen PP y7 t0 s).bind fun x35 =>
(L n0 (loop13s C L n0) ([t0, t2, t7, t8, t10, t17, t18, t19, t0, x35, .int .i64 0], s)).bind fun r50 =>
match r50.1 with
| .normal => some (AEx.normal, [(r50.2.1.getD 0 unk), (r50.2.1.getD 1 unk), (r50.2.1.getD 2 unk), (r50.2.1.getD 3 unk), (r50.2.1.getD 4 unk), (r50.2.1.getD 5 unk), (r50.2.1.getD 6 unk)], r50.2.2)
| .exit i => if i = 2 then some (AEx.normal, [(r50.2.1.getD 0 unk), (r50.2.1.getD 1 unk), (r50.2.1.getD 2 unk), (r50.2.1.getD 3 unk), (r50.2.1.getD 4 unk), (r50.2.1.getD 5 unk), (r50.2.1.getD 6 unk)], r50.2.2) else if i = 1 then some (AEx.normal, [(r50.2.1.getD 0 unk), (r50.2.1.getD 1 unk), (r50.2.1.getD 2 unk), (r50.2.1.getD 3 unk), (r50.2.1.getD 4 unk), (r50.2.1.getD 5 unk), (r50.2.1.getD 6 unk)], r50.2.2) else some (AEx.exit i, [(r50.2.1.getD 0 unk), (r50.2.1.getD 1 unk), (r50.2.1.getD 2 unk), (r50.2.1.getD 3 unk), (r50.2.1.getD 4 unk), (r50.2.1.getD 5 unk), (r50.2.1.getD 6 unk)], r50.2.2)
| .ret => some (AEx.ret, [(r50.2.1.getD 0 unk), (r50.2.1.getD 1 unk), (r50.2.1.getD 2 unk), (r50.2.1.getD 3 unk), (r50.2.1.getD 4 unk), (r50.2.1.getD 5 unk), (r50.2.1.getD 6 unk)], r50.2.2)
noncomputable def j4 (C : Am.Callee) (L : Loops) (n0 : Nat) (t0 t2 t7 t8 t10 t17 t18 t19 : Value) (s : AS) : Option (AEx × List Value × AS) :=
((y3 PP y2 t10 0).bind fun x29 =>
(aLoad false 1 s x29).bind fun x30 =>
bcase x30 (
(y3 PP y2 t10 1).bind fun x31 =>
(aLoad true 16 s x31).bind fun x32 =>
(q43 16 s t7 x32).bind fun s33 =>
some (AEx.normal, [t0, t2, t7, t8, t10, t17, t18, t19], s33)) (
some (AEx.normal, [t0, t2, t7, t8, t10, t17, t18, t19], s))).bind fun r34 =>
match r34.1 with
| .normal => j5 C L n0 ((r34.2.1.getD 0 unk)) ((r34.2.1.getD 1 unk)) ((r34.2.1.getD 2 unk)) ((r34.2.1.getD 3 unk)) ((r34.2.1.getD 4 unk)) ((r34.2.1.getD 5 unk)) ((r34.2.1.getD 6 unk)) ((r34.2.1.getD 7 unk)) r34.2.2
| .exit i => if i = 1 then some (AEx.normal, [(r34.2.1.getD 0 unk), (r34.2.1.getD 1 unk), unk, (r34.2.1.getD 2 unk), (r34.2.1.getD 5 unk), (r34.2.1.getD 6 unk), (r34.2.1.getD 7 unk)], r34.2.2) else some (AEx.exit i, [(r34.2.1.getD 0 unk), (r34.2.1.getD 1 unk), unk, (r34.2.1.getD 2 unk), (r34.2.1.getD 5 unk), (r34.2.1.getD 6 unk), (r34.2.1.getD 7 unk)], r34.2.2)
| .ret => some (AEx.ret, [(r34.2.1.getD 0 unk), (r34.2.1.getD 1 unk), unk, (r34.2.1.getD 2 unk), (r34.2.1.getD 5 unk), (r34.2.1.getD 6 unk), (r34.2.1.getD 7 unk)], r34.2.2)
noncomputable def j2 (C : Am.Callee) (L : Loops) (n0 : Nat) (t0 t2 t7 t8 t9 t17 t18 t19 : Value) (s : AS) : Option (AEx × List Value × AS) :=
(q15 PP y7 t0 t9).bind fun x16 =>
(aLoad true 19 s x16).bind fun x17 =>
(aBox y2 ((zeroP PP y2).getD unk) s).bind fun r18 =>
(q43 19 r18.2 r18.1 x17).bind fun s19 =>
(((y3 PP y2 r18.1 0).bind fun x20 =>
(aLoad false 1 s19 x20).bind fun x21 =>
(aUn PP .not x21).bind fun x22 =>
bcase x22 (
(y3 PP y2 r18.1 1).bind fun x23 =>
(aLoad true 16 s19 x23).bind fun x24 =>
(aLoad true 16 s19 t7).bind fun x25 =>
(aBin PP .neq y1 (.tmp 48) (.tmp 49) x24 x25).bind fun x26 =>
some (AEx.normal, [t0, t2, t7, t8, r18.1, t17, t18, t19, x26], s19)) (
some (AEx.normal, [t0, t2, t7, t8, r18.1, t17, t18, t19, .bool false], s19))).bind fun r27 =>
match r27.1 with
| .normal => j3 C L n0 ((r27.2.1.getD 0 unk)) ((r27.2.1.getD 1 unk)) ((r27.2.1.getD 2 unk)) ((r27.2.1.getD 3 unk)) ((r27.2.1.getD 4 unk)) ((r27.2.1.getD 5 unk)) ((r27.2.1.getD 6 unk)) ((r27.2.1.getD 7 unk)) ((r27.2.1.getD 8 unk)) r27.2.2
| .exit i => some (AEx.exit i, [(r27.2.1.getD 0 unk), (r27.2.1.getD 1 unk), unk, (r27.2.1.getD 2 unk), (r27.2.1.getD 3 unk), (r27.2.1.getD 4 unk), (r27.2.1.getD 5 unk), (r27.2.1.getD 6 unk), (r27.2.1.getD 7 unk)], r27.2.2)
| .ret => some (AEx.ret, [(r27.2.1.getD 0 unk), (r27.2.1.getD 1 unk), unk, (r27.2.1.getD 2 unk), (r27.2.1.getD 3 unk), (r27.2.1.getD 4 unk), (r27.2.1.getD 5 unk), (r27.2.1.getD 6 unk), (r27.2.1.getD 7 unk)], r27.2.2)).bind fun r28 =>
match r28.1 with
| .normal => j4 C L n0 ((r28.2.1.getD 0 unk)) ((r28.2.1.getD 1 unk)) ((r28.2.1.getD 3 unk)) ((r28.2.1.getD 4 unk)) ((r28.2.1.getD 5 unk)) ((r28.2.1.getD 6 unk)) ((r28.2.1.getD 7 unk)) ((r28.2.1.getD 8 unk)) r28.2.2
| .exit i => if i = 1 then some (AEx.normal, [(r28.2.1.getD 0 unk), (r28.2.1.getD 1 unk), (r28.2.1.getD 2 unk), (r28.2.1.getD 3 unk), (r28.2.1.getD 6 unk), (r28.2.1.getD 7 unk), (r28.2.1.getD 8 unk)], r28.2.2) else some (AEx.exit i, [(r28.2.1.getD 0 unk), (r28.2.1.getD 1 unk), (r28.2.1.getD 2 unk), (r28.2.1.getD 3 unk), (r28.2.1.getD 6 unk), (r28.2.1.getD 7 unk), (r28.2.1.getD 8 unk)], r28.2.2)
| .ret => some (AEx.ret, [(r28.2.1.getD 0 unk), (r28.2.1.getD 1 unk), (r28.2.1.getD 2 unk), (r28.2.1.getD 3 unk), (r28.2.1.getD 6 unk), (r28.2.1.getD 7 unk), (r28.2.1.getD 8 unk)], r28.2.2)
noncomputable def j10 (C : Am.Callee) (L : Loops) (n0 : Nat) (t0 t2 t7 t17 t18 t19 : Value) (s : AS) : Option ((List Value × AS) ⊕ (AEx × List Value × AS)) :=
(aBin PP .add t_int (.tmp 19) (.const (.int .i64 1)) t19 (.int .i64 1)).bind fun x52 =>
some (.inl ([t0, t2, t7, t17, t18, x52], s))
noncomputable def loop3 (C : Am.Callee) (L : Loops) (n0 : Nat) (t0 t2 t7 t17 t18 t19 : Value) (s : AS) : Option ((List Value × AS) ⊕ (AEx × List Value × AS)) :=
(aBin PP .lss t_int (.tmp 19) (.tmp 18) t19 t18).bind fun x6 =>
bcase x6 (
((q15 PP y28 t17 t19).bind fun x7 =>
(aLoad false 1 s x7).bind fun x8 =>
(((aBin PP .lss t_int (.tmp 24) (.const (.int .i64 0)) x8 (.int .i64 0)).bind fun x9 =>
bcase x9 (
some (AEx.normal, [t0, t2, t7, t19, x8, t17, t18, t19, .bool true], s)) (
(aLen PP y7 t0 s).bind fun x10 =>
(aBin PP .geq t_int (.tmp 27) (.tmp 29) x8 x10).bind fun x11 =>
bcase x11 (
some (AEx.normal, [t0, t2, t7, t19, x8, t17, t18, t19, .bool true], s)) (
(C q67 [t2, x8] s.H).bind fun r12 =>
(aBin PP .neq t_int (.tmp 35) (.tmp 36) r12.1 t19).bind fun x13 =>
some (AEx.normal, [t0, t2, t7, t19, x8, t17, t18, t19, x13], AS.mk r12.2.1 (y8 s.esc r12.2.2))))).bind fun r14 =>
match r14.1 with
| .normal => j1 C L n0 ((r14.2.1.getD 0 unk)) ((r14.2.1.getD 1 unk)) ((r14.2.1.getD 2 unk)) ((r14.2.1.getD 3 unk)) ((r14.2.1.getD 4 unk)) ((r14.2.1.getD 5 unk)) ((r14.2.1.getD 6 unk)) ((r14.2.1.getD 7 unk)) ((r14.2.1.getD 8 unk)) r14.2.2
| .exit i => some (AEx.exit i, [(r14.2.1.getD 0 unk), (r14.2.1.getD 1 unk), unk, (r14.2.1.getD 2 unk), (r14.2.1.getD 3 unk), (r14.2.1.getD 4 unk), (r14.2.1.getD 5 unk), (r14.2.1.getD 6 unk), (r14.2.1.getD 7 unk)], r14.2.2)
| .ret => some (AEx.ret, [(r14.2.1.getD 0 unk), (r14.2.1.getD 1 unk), unk, (r14.2.1.getD 2 unk), (r14.2.1.getD 3 unk), (r14.2.1.getD 4 unk), (r14.2.1.getD 5 unk), (r14.2.1.getD 6 unk), (r14.2.1.getD 7 unk)], r14.2.2)).bind fun r15 =>
match r15.1 with
| .normal => j2 C L n0 ((r15.2.1.getD 0 unk)) ((r15.2.1.getD 1 unk)) ((r15.2.1.getD 3 unk)) ((r15.2.1.getD 4 unk)) ((r15.2.1.getD 5 unk)) ((r15.2.1.getD 6 unk)) ((r15.2.1.getD 7 unk)) ((r15.2.1.getD 8 unk)) r15.2.2
| .exit i => if i = 1 then some (AEx.normal, [(r15.2.1.getD 0 unk), (r15.2.1.getD 1 unk), (r15.2.1.getD 2 unk), (r15.2.1.getD 3 unk), (r15.2.1.getD 6 unk), (r15.2.1.getD 7 unk), (r15.2.1.getD 8 unk)], r15.2.2) else some (AEx.exit i, [(r15.2.1.getD 0 unk), (r15.2.1.getD 1 unk), (r15.2.1.getD 2 unk), (r15.2.1.getD 3 unk), (r15.2.1.getD 6 unk), (r15.2.1.getD 7 unk), (r15.2.1.getD 8 unk)], r15.2.2)
| .ret => some (AEx.ret, [(r15.2.1.getD 0 unk), (r15.2.1.getD 1 unk), (r15.2.1.getD 2 unk), (r15.2.1.getD 3 unk), (r15.2.1.getD 6 unk), (r15.2.1.getD 7 unk), (r15.2.1.getD 8 unk)], r15.2.2)).bind fun r51 =>
match r51.1 with
| .normal => j10 C L n0 ((r51.2.1.getD 0 unk)) ((r51.2.1.getD 1 unk)) ((r51.2.1.getD 3 unk)) ((r51.2.1.getD 4 unk)) ((r51.2.1.getD 5 unk)) ((r51.2.1.getD 6 unk)) r51.2.2
| .exit i => some (.inr (.exit i, [(r51.2.1.getD 0 unk), (r51.2.1.getD 1 unk), (r51.2.1.getD 2 unk)], r51.2.2))
| .ret => some (.inr (.ret, [(r51.2.1.getD 0 unk), (r51.2.1.getD 1 unk), (r51.2.1.getD 2 unk)], r51.2.2))) (
some (.inr (.exit 0, [t0, t2, unk], s)))
noncomputable def loop3s (C : Am.Callee) (L : Loops) (n0 : Nat) : List Value × AS → Option ((List Value × AS) ⊕ (AEx × List Value × AS)) := fun s => loop3 C L n0 (s.1.getD 0 unk) (s.1.getD 1 unk) (s.1.getD 2 unk) (s.1.getD 3 unk) (s.1.getD 4 unk) (s.1.getD 5 unk) s.2
noncomputable def j14 (C : Am.Callee) (L : Loops) (n0 : Nat) (t2 t80 t81 t82 t94 : Value) (s : AS) : Option (AEx × List Value × AS) :=
bcase t94 (
some (AEx.ret, [t2, .bool false, t80, t81, t82], s)) (
some (AEx.normal, [t2, unk, t80, t81, t82], s))
noncomputable def j15 (C : Am.Callee) (L : Loops) (n0 : Nat) (t2 t80 t81 t82 : Value) (s : AS) : Option ((List Value × AS) ⊕ (AEx × List Value × AS)) :=
(aBin PP .add t_int (.tmp 82) (.const (.int .i64 1)) t82 (.int .i64 1)).bind fun x67 =>
some (.inl ([t2, t80, t81, x67], s))
noncomputable def loop21 (C : Am.Callee) (L : Loops) (n0 : Nat) (t2 t80 t81 t82 : Value) (s : AS) : Option ((List Value × AS) ⊕ (AEx × List Value × AS)) :=
(aBin PP .lss t_int (.tmp 82) (.tmp 81) t82 t81).bind fun x56 =>
bcase x56 (
((q15 PP y7 t80 t82).bind fun x57 =>
(aLoad true 19 s x57).bind fun x58 =>
(aBox y2 ((zeroP PP y2).getD unk) s).bind fun r59 =>
(q43 19 r59.2 r59.1 x58).bind fun s60 =>
((aLoad true 19 s60 r59.1).bind fun x61 =>
(C q102 [x61] s60.H).bind fun r62 =>
bcase r62.1 (
(C q67 [t2, t82] (AS.mk r62.2.1 (y8 s60.esc r62.2.2)).H).bind fun r63 =>
(aBin PP .lss t_int (.tmp 92) (.const (.int .i64 0)) r63.1 (.int .i64 0)).bind fun x64 =>
some (AEx.normal, [t2, t80, t81, t82, x64], AS.mk r63.2.1 (y8 (AS.mk r62.2.1 (y8 s60.esc r62.2.2)).esc r63.2.2))) (
some (AEx.normal, [t2, t80, t81, t82, .bool false], AS.mk r62.2.1 (y8 s60.esc r62.2.2)))).bind fun r65 =>
match r65.1 with
| .normal => j14 C L n0 ((r65.2.1.getD 0 unk)) ((r65.2.1.getD 1 unk)) ((r65.2.1.getD 2 unk)) ((r65.2.1.getD 3 unk)) ((r65.2.1.getD 4 unk)) r65.2.2
| .exit i => if i = 5 then some (AEx.normal, [(r65.2.1.getD 0 unk), unk, (r65.2.1.getD 1 unk), (r65.2.1.getD 2 unk), (r65.2.1.getD 3 unk)], r65.2.2) else some (AEx.exit i, [(r65.2.1.getD 0 unk), unk, (r65.2.1.getD 1 unk), (r65.2.1.getD 2 unk), (r65.2.1.getD 3 unk)], r65.2.2)
| .ret => some (AEx.ret, [(r65.2.1.getD 0 unk), unk, (r65.2.1.getD 1 unk), (r65.2.1.getD 2 unk), (r65.2.1.getD 3 unk)], r65.2.2)).bind fun r66 =>
match r66.1 with
| .normal => j15 C L n0 ((r66.2.1.getD 0 unk)) ((r66.2.1.getD 2 unk)) ((r66.2.1.getD 3 unk)) ((r66.2.1.getD 4 unk)) r66.2.2
| .exit i => some (.inr (.exit i, [(r66.2.1.getD 1 unk)], r66.2.2))
| .ret => some (.inr (.ret, [(r66.2.1.getD 1 unk)], r66.2.2))) (
some (.inr (.exit 4, [unk], s)))
noncomputable def loop21s (C : Am.Callee) (L : Loops) (n0 : Nat) : List Value × AS → Option ((List Value × AS) ⊕ (AEx × List Value × AS)) := fun s => loop21 C L n0 (s.1.getD 0 unk) (s.1.getD 1 unk) (s.1.getD 2 unk) (s.1.getD 3 unk) s.2
noncomputable def j17 (C : Am.Callee) (L : Loops) (n0 : Nat) (s : AS) : Option (Value × List Blk × Option Nat) :=
fin PP false n0 [.bool true] s
noncomputable def j12 (C : Am.Callee) (L : Loops) (n0 : Nat) (t0 t2 : Value) (s : AS) : Option (Value × List Blk × Option Nat) :=
((aLen PP y7 t0 s).bind fun x55 =>
(L n0 (loop21s C L n0) ([t2, t0, x55, .int .i64 0], s)).bind fun r68 =>
match r68.1 with
| .normal => some (AEx.normal, [(r68.2.1.getD 0 unk)], r68.2.2)
| .exit i => if i = 4 then some (AEx.normal, [(r68.2.1.getD 0 unk)], r68.2.2) else some (AEx.exit i, [(r68.2.1.getD 0 unk)], r68.2.2)
| .ret => some (AEx.ret, [(r68.2.1.getD 0 unk)], r68.2.2)).bind fun r69 =>
match r69.1 with
| .normal => j17 C L n0  r69.2.2
| .exit i => none
| .ret => fin PP false n0 [(r69.2.1.getD 0 unk)] r69.2.2
noncomputable def sh (C : Am.Callee) (L : Loops) (n0 : Nat) (t0 t1 t2 : Value) (s : AS) : Option (Value × List Blk × Option Nat) :=
(aBox y1 t1 s).bind fun r1 =>
(aLoad true 16 r1.2 r1.1).bind fun x2 =>
(aBox y1 ((zeroP PP y1).getD unk) r1.2).bind fun r3 =>
(q43 16 r3.2 r3.1 x2).bind fun s4 =>
((aLen PP y28 t2 s4).bind fun x5 =>
(L n0 (loop3s C L n0) ([t0, t2, r3.1, t2, x5, .int .i64 0], s4)).bind fun r53 =>
match r53.1 with
| .normal => some (AEx.normal, [(r53.2.1.getD 0 unk), (r53.2.1.getD 1 unk), (r53.2.1.getD 2 unk)], r53.2.2)
| .exit i => if i = 0 then some (AEx.normal, [(r53.2.1.getD 0 unk), (r53.2.1.getD 1 unk), (r53.2.1.getD 2 unk)], r53.2.2) else some (AEx.exit i, [(r53.2.1.getD 0 unk), (r53.2.1.getD 1 unk), (r53.2.1.getD 2 unk)], r53.2.2)
| .ret => some (AEx.ret, [(r53.2.1.getD 0 unk), (r53.2.1.getD 1 unk), (r53.2.1.getD 2 unk)], r53.2.2)).bind fun r54 =>
match r54.1 with
| .normal => j12 C L n0 ((r54.2.1.getD 0 unk)) ((r54.2.1.getD 1 unk)) r54.2.2
| .exit i => none
| .ret => fin PP false n0 [(r54.2.1.getD 2 unk)] r54.2.2
def T : Tab := ⟨fun i => if i = 3 then some [0, 2, 7, 17, 18, 19] else if i = 13 then some [0, 2, 7, 8, 10, 17, 18, 19, 56, 57, 58] else if i = 21 then some [2, 80, 81, 82] else none, fun i => if i = 3 then some [0, 2, 6] else if i = 13 then some [0, 2, 6, 7, 17, 18, 19] else if i = 21 then some [6] else none, false, fun i => if i = 6 then some [0, 2, 7, 8, 9, 17, 18, 19, 38] else if i = 7 then some [0, 2, 6, 7, 8, 9, 17, 18, 19] else if i = 9 then some [0, 2, 7, 8, 10, 17, 18, 19, 51] else if i = 10 then some [0, 2, 6, 7, 8, 10, 17, 18, 19] else if i = 12 then some [0, 2, 7, 8, 10, 17, 18, 19] else if i = 17 then some [0, 2, 7, 8, 10, 17, 18, 19, 56, 57, 58, 77] else if i = 18 then some [0, 2, 6, 7, 8, 10, 17, 18, 19, 56, 57, 58] else if i = 19 then some [0, 2, 6, 7, 17, 18, 19] else if i = 20 then some [0, 2, 6] else if i = 24 then some [2, 80, 81, 82, 94] else if i = 25 then some [2, 6, 80, 81, 82] else if i = 26 then some [6] else none, fun _ => false, false, false, fun _ => false⟩
end twainref37_Fits
namespace register_Right
noncomputable def sh (C : Am.Callee) (L : Loops) (n0 : Nat) (t0 t1 : Value) (s : AS) : Option (Value × List Blk × Option Nat) :=
(aBox y1 t1 s).bind fun r1 =>
(aLen PP y9 t0 r1.2).bind fun x2 =>
(aBin PP .gtr t_int (.tmp 9) (.const (.int .i64 60)) x2 (.int .i64 60)).bind fun x3 =>
bcase x3 (
fin PP false n0 [.bool false, .int .i64 11] r1.2) (
(aLoad true 16 r1.2 r1.1).bind fun x4 =>
(C q113 [t0, x4] r1.2.H).bind fun r5 =>
(y12 PP (Instr.extract r5.1 0)).bind fun x6 =>
(y12 PP (Instr.extract r5.1 1)).bind fun x7 =>
fin PP false n0 [x7, .int .i64 0] (AS.mk r5.2.1 (y8 r1.2.esc r5.2.2)))
def T : Tab := ⟨fun i => none, fun i => none, false, fun i => none, fun _ => false, false, true, fun _ => false⟩
end register_Right
namespace register_Order
noncomputable def sh (C : Am.Callee) (L : Loops) (n0 : Nat) (t0 t1 : Value) (s : AS) : Option (Value × List Blk × Option Nat) :=
(aBox y1 t1 s).bind fun r1 =>
(aLen PP y9 t0 r1.2).bind fun x2 =>
(aBin PP .gtr t_int (.tmp 7) (.const (.int .i64 60)) x2 (.int .i64 60)).bind fun x3 =>
bcase x3 (
fin PP false n0 [.slice none 0 0, .bool false] r1.2) (
(aLoad true 16 r1.2 r1.1).bind fun x4 =>
(C q125 [t0] r1.2.H).bind fun r5 =>
if ((((aLoad true 16 (AS.mk r5.2.1 (y8 r1.2.esc r5.2.2)) r1.1).bind fun x9 =>
some (veq x9 x4)) == some true) && true) = true then
(C y84 [r5.1, x4] (AS.mk r5.2.1 (y8 r1.2.esc r5.2.2)).H).bind fun r6 =>
(y12 PP (Instr.extract r6.1 0)).bind fun x7 =>
(y12 PP (Instr.extract r6.1 1)).bind fun x8 =>
fin PP false n0 [x7, x8] (AS.mk r6.2.1 (y8 (AS.mk r5.2.1 (y8 r1.2.esc r5.2.2)).esc r6.2.2))
else none)
def T : Tab := ⟨fun i => none, fun i => none, false, fun i => none, fun _ => false, false, false, fun _ => false⟩
end register_Order
namespace twainlaw49_lives
noncomputable def sh (C : Am.Callee) (L : Loops) (n0 : Nat) (s : AS) : Option (Value × List Blk × Option Nat) :=
(q89 PP y1 []).bind fun x1 =>
(C q116 [.slice none 0 0, .int .i64 3, x1] s.H).bind fun r2 =>
(y12 PP (Instr.extract r2.1 0)).bind fun x3 =>
(y12 PP (Instr.extract r2.1 1)).bind fun x4 =>
(q89 PP y1 [(0, .int .u8 1)]).bind fun x5 =>
(C q116 [.slice none 0 0, .int .i64 3, x5] (AS.mk r2.2.1 (y8 s.esc r2.2.2)).H).bind fun r6 =>
(y12 PP (Instr.extract r6.1 0)).bind fun x7 =>
(y12 PP (Instr.extract r6.1 1)).bind fun x8 =>
bcase x3 (
(aBin PP .eql y162 (.tmp 17) (.const (.int .i64 0)) x4 (.int .i64 0)).bind fun x9 =>
bcase x9 (
(aUn PP .not x7).bind fun x10 =>
bcase x10 (
(aBin PP .eql y162 (.tmp 25) (.const (.int .i64 0)) x8 (.int .i64 0)).bind fun x11 =>
bcase x11 (
(C q127 [.slice none 0 0, .int .i64 3] (AS.mk r6.2.1 (y8 (AS.mk r2.2.1 (y8 s.esc r2.2.2)).esc r6.2.2)).H).bind fun r12 =>
(aLen PP y13 r12.1 (AS.mk r12.2.1 (y8 (AS.mk r6.2.1 (y8 (AS.mk r2.2.1 (y8 s.esc r2.2.2)).esc r6.2.2)).esc r12.2.2))).bind fun x13 =>
(aBin PP .eql t_int (.tmp 30) (.const (.int .i64 1)) x13 (.int .i64 1)).bind fun x14 =>
bcase x14 (
(y184 PP y48 (.int .i64 32) (.int .i64 32) (AS.mk r12.2.1 (y8 (AS.mk r6.2.1 (y8 (AS.mk r2.2.1 (y8 s.esc r2.2.2)).esc r6.2.2)).esc r12.2.2))).bind fun r15 =>
(C y140 [.slice none 0 0, r15.1] r15.2.H).bind fun r16 =>
fin PP false n0 [r16.1] (AS.mk r16.2.1 (y8 r15.2.esc r16.2.2))) (
fin PP false n0 [.bool false] (AS.mk r12.2.1 (y8 (AS.mk r6.2.1 (y8 (AS.mk r2.2.1 (y8 s.esc r2.2.2)).esc r6.2.2)).esc r12.2.2)))) (
fin PP false n0 [.bool false] (AS.mk r6.2.1 (y8 (AS.mk r2.2.1 (y8 s.esc r2.2.2)).esc r6.2.2)))) (
fin PP false n0 [.bool false] (AS.mk r6.2.1 (y8 (AS.mk r2.2.1 (y8 s.esc r2.2.2)).esc r6.2.2)))) (
fin PP false n0 [.bool false] (AS.mk r6.2.1 (y8 (AS.mk r2.2.1 (y8 s.esc r2.2.2)).esc r6.2.2)))) (
fin PP false n0 [.bool false] (AS.mk r6.2.1 (y8 (AS.mk r2.2.1 (y8 s.esc r2.2.2)).esc r6.2.2)))
def T : Tab := ⟨fun i => none, fun i => none, false, fun i => none, fun _ => false, true, false, fun _ => false⟩
end twainlaw49_lives
namespace ghost_Holds
noncomputable def sh (C : Am.Callee) (L : Loops) (n0 : Nat) (t0 t1 t2 : Value) (s : AS) : Option (Value × List Blk × Option Nat) :=
(aBox y1 t2 s).bind fun r1 =>
(C q124 [t0, t1] r1.2.H).bind fun r2 =>
(aLen PP y9 r2.1 (AS.mk r2.2.1 (y8 r1.2.esc r2.2.2))).bind fun x3 =>
(aBin PP .gtr t_int (.tmp 13) (.const (.int .i64 59)) x3 (.int .i64 59)).bind fun x4 =>
bcase x4 (
fin PP false n0 [.bool false, .int .i64 11] (AS.mk r2.2.1 (y8 r1.2.esc r2.2.2))) (
(aLoad true 16 (AS.mk r2.2.1 (y8 r1.2.esc r2.2.2)) r1.1).bind fun x5 =>
(C y124 [r2.1, x5] (AS.mk r2.2.1 (y8 r1.2.esc r2.2.2)).H).bind fun r6 =>
fin PP false n0 [r6.1, .int .i64 0] (AS.mk r6.2.1 (y8 (AS.mk r2.2.1 (y8 r1.2.esc r2.2.2)).esc r6.2.2)))
def T : Tab := ⟨fun i => none, fun i => none, false, fun i => none, fun _ => false, false, false, fun _ => false⟩
end ghost_Holds
namespace twainref49_Holds
noncomputable def sh (C : Am.Callee) (L : Loops) (n0 : Nat) (t0 t1 t2 : Value) (s : AS) : Option (Value × List Blk × Option Nat) :=
(aBox y1 t2 s).bind fun r1 =>
(C y110 [t0, t1] r1.2.H).bind fun r2 =>
(aLen PP y7 r2.1 (AS.mk r2.2.1 (y8 r1.2.esc r2.2.2))).bind fun x3 =>
(aBin PP .gtr t_int (.tmp 17) (.const (.int .i64 59)) x3 (.int .i64 59)).bind fun x4 =>
bcase x4 (
fin PP false n0 [.bool false, .int .i64 11, .bool true] (AS.mk r2.2.1 (y8 r1.2.esc r2.2.2))) (
(aLoad true 16 (AS.mk r2.2.1 (y8 r1.2.esc r2.2.2)) r1.1).bind fun x5 =>
(C q119 [r2.1, x5] (AS.mk r2.2.1 (y8 r1.2.esc r2.2.2)).H).bind fun r6 =>
(q89 PP y1 []).bind fun x7 =>
(C y114 [r6.1, x7] (AS.mk r6.2.1 (y8 (AS.mk r2.2.1 (y8 r1.2.esc r2.2.2)).esc r6.2.2)).H).bind fun r8 =>
(y12 PP (Instr.extract r8.1 0)).bind fun x9 =>
(y12 PP (Instr.extract r8.1 1)).bind fun x10 =>
(y12 PP (Instr.extract r8.1 2)).bind fun x11 =>
fin PP false n0 [x10, .int .i64 0, x11] (AS.mk r8.2.1 (y8 (AS.mk r6.2.1 (y8 (AS.mk r2.2.1 (y8 r1.2.esc r2.2.2)).esc r6.2.2)).esc r8.2.2)))
def T : Tab := ⟨fun i => none, fun i => none, false, fun i => none, fun _ => false, false, false, fun _ => false⟩
end twainref49_Holds
namespace ghost_Values
noncomputable def j1 (C : Am.Callee) (L : Loops) (n0 : Nat) (t5 t6 t7 t9 t24 t25 t26 t38 : Value) (s : AS) : Option (AEx × List Value × AS) :=
bcase t38 (
(y3 PP y4 t9 1).bind fun x21 =>
(aLoad true 16 s x21).bind fun x22 =>
(y75 PP q60 t6 x22 (.bool true) s).bind fun s23 =>
(y3 PP y4 t9 1).bind fun x24 =>
(aLoad true 16 s23 x24).bind fun x25 =>
(bsl PP y13 1 [0] [x25] s23).bind fun r26 =>
y16 PP .append #[y13, y13] [t7, r26.1] r26.2 fun x27 s28 =>
some (AEx.normal, [t5, t6, x27, t24, t25, t26], s28)) (
some (AEx.normal, [t5, t6, t7, t24, t25, t26], s))
noncomputable def j2 (C : Am.Callee) (L : Loops) (n0 : Nat) (t5 t6 t7 t24 t25 t26 : Value) (s : AS) : Option ((List Value × AS) ⊕ (AEx × List Value × AS)) :=
(aBin PP .add t_int (.tmp 26) (.const (.int .i64 1)) t26 (.int .i64 1)).bind fun x30 =>
some (.inl ([t5, t6, t7, t24, t25, x30], s))
noncomputable def loop7 (C : Am.Callee) (L : Loops) (n0 : Nat) (t5 t6 t7 t24 t25 t26 : Value) (s : AS) : Option ((List Value × AS) ⊕ (AEx × List Value × AS)) :=
(aBin PP .lss t_int (.tmp 26) (.tmp 25) t26 t25).bind fun x9 =>
bcase x9 (
((q15 PP y9 t24 t26).bind fun x10 =>
(aLoad true 19 s x10).bind fun x11 =>
(aBox y4 ((zeroP PP y4).getD unk) s).bind fun r12 =>
(q43 19 r12.2 r12.1 x11).bind fun s13 =>
((y3 PP y4 r12.1 0).bind fun x14 =>
(aLoad false 1 s13 x14).bind fun x15 =>
bcase x15 (
(y3 PP y4 r12.1 1).bind fun x16 =>
(aLoad true 16 s13 x16).bind fun x17 =>
(q147 PP q60 t6 x17 false s13).bind fun x18 =>
(aUn PP .not x18).bind fun x19 =>
some (AEx.normal, [t5, t6, t7, r12.1, t24, t25, t26, x19], s13)) (
some (AEx.normal, [t5, t6, t7, r12.1, t24, t25, t26, .bool false], s13))).bind fun r20 =>
match r20.1 with
| .normal => j1 C L n0 ((r20.2.1.getD 0 unk)) ((r20.2.1.getD 1 unk)) ((r20.2.1.getD 2 unk)) ((r20.2.1.getD 3 unk)) ((r20.2.1.getD 4 unk)) ((r20.2.1.getD 5 unk)) ((r20.2.1.getD 6 unk)) ((r20.2.1.getD 7 unk)) r20.2.2
| .exit i => if i = 1 then some (AEx.normal, [(r20.2.1.getD 0 unk), (r20.2.1.getD 1 unk), (r20.2.1.getD 2 unk), (r20.2.1.getD 4 unk), (r20.2.1.getD 5 unk), (r20.2.1.getD 6 unk)], r20.2.2) else some (AEx.exit i, [(r20.2.1.getD 0 unk), (r20.2.1.getD 1 unk), (r20.2.1.getD 2 unk), (r20.2.1.getD 4 unk), (r20.2.1.getD 5 unk), (r20.2.1.getD 6 unk)], r20.2.2)
| .ret => some (AEx.ret, [(r20.2.1.getD 0 unk), (r20.2.1.getD 1 unk), (r20.2.1.getD 2 unk), (r20.2.1.getD 4 unk), (r20.2.1.getD 5 unk), (r20.2.1.getD 6 unk)], r20.2.2)).bind fun r29 =>
match r29.1 with
| .normal => j2 C L n0 ((r29.2.1.getD 0 unk)) ((r29.2.1.getD 1 unk)) ((r29.2.1.getD 2 unk)) ((r29.2.1.getD 3 unk)) ((r29.2.1.getD 4 unk)) ((r29.2.1.getD 5 unk)) r29.2.2
| .exit i => some (.inr (.exit i, [(r29.2.1.getD 0 unk), (r29.2.1.getD 2 unk)], r29.2.2))
| .ret => some (.inr (.ret, [(r29.2.1.getD 0 unk), (r29.2.1.getD 2 unk)], r29.2.2))) (
some (.inr (.exit 0, [t5, t7], s)))
noncomputable def loop7s (C : Am.Callee) (L : Loops) (n0 : Nat) : List Value × AS → Option ((List Value × AS) ⊕ (AEx × List Value × AS)) := fun s => loop7 C L n0 (s.1.getD 0 unk) (s.1.getD 1 unk) (s.1.getD 2 unk) (s.1.getD 3 unk) (s.1.getD 4 unk) (s.1.getD 5 unk) s.2
noncomputable def j6 (C : Am.Callee) (L : Loops) (n0 : Nat) (t5 t10 t48 t49 t50 : Value) (s : AS) : Option ((List Value × AS) ⊕ (AEx × List Value × AS)) :=
(aBin PP .add t_int (.tmp 50) (.const (.int .i64 1)) t50 (.int .i64 1)).bind fun x46 =>
some (.inl ([t5, t10, t48, t49, x46], s))
noncomputable def loop15 (C : Am.Callee) (L : Loops) (n0 : Nat) (t5 t10 t48 t49 t50 : Value) (s : AS) : Option ((List Value × AS) ⊕ (AEx × List Value × AS)) :=
(aBin PP .lss t_int (.tmp 50) (.tmp 49) t50 t49).bind fun x34 =>
bcase x34 (
((q15 PP y13 t48 t50).bind fun x35 =>
(aLoad true 16 s x35).bind fun x36 =>
(aBox y1 ((zeroP PP y1).getD unk) s).bind fun r37 =>
(q43 16 r37.2 r37.1 x36).bind fun s38 =>
(aLoad true 16 s38 r37.1).bind fun x39 =>
(C y124 [t5, x39] s38.H).bind fun r40 =>
bcase r40.1 (
(aLoad true 16 (AS.mk r40.2.1 (y8 s38.esc r40.2.2)) r37.1).bind fun x41 =>
(bsl PP y13 1 [0] [x41] (AS.mk r40.2.1 (y8 s38.esc r40.2.2))).bind fun r42 =>
y16 PP .append #[y13, y13] [t10, r42.1] r42.2 fun x43 s44 =>
some (AEx.normal, [t5, x43, t48, t49, t50], s44)) (
some (AEx.normal, [t5, t10, t48, t49, t50], AS.mk r40.2.1 (y8 s38.esc r40.2.2)))).bind fun r45 =>
match r45.1 with
| .normal => j6 C L n0 ((r45.2.1.getD 0 unk)) ((r45.2.1.getD 1 unk)) ((r45.2.1.getD 2 unk)) ((r45.2.1.getD 3 unk)) ((r45.2.1.getD 4 unk)) r45.2.2
| .exit i => some (.inr (.exit i, [(r45.2.1.getD 1 unk)], r45.2.2))
| .ret => some (.inr (.ret, [(r45.2.1.getD 1 unk)], r45.2.2))) (
some (.inr (.exit 2, [t10], s)))
noncomputable def loop15s (C : Am.Callee) (L : Loops) (n0 : Nat) : List Value × AS → Option ((List Value × AS) ⊕ (AEx × List Value × AS)) := fun s => loop15 C L n0 (s.1.getD 0 unk) (s.1.getD 1 unk) (s.1.getD 2 unk) (s.1.getD 3 unk) (s.1.getD 4 unk) s.2
noncomputable def j8 (C : Am.Callee) (L : Loops) (n0 : Nat) (t10 : Value) (s : AS) : Option (Value × List Blk × Option Nat) :=
fin PP false n0 [t10] s
noncomputable def j4 (C : Am.Callee) (L : Loops) (n0 : Nat) (t5 t7 : Value) (s : AS) : Option (Value × List Blk × Option Nat) :=
((aLen PP y13 t7 s).bind fun x33 =>
(L n0 (loop15s C L n0) ([t5, .slice none 0 0, t7, x33, .int .i64 0], s)).bind fun r47 =>
match r47.1 with
| .normal => some (AEx.normal, [(r47.2.1.getD 0 unk)], r47.2.2)
| .exit i => if i = 2 then some (AEx.normal, [(r47.2.1.getD 0 unk)], r47.2.2) else some (AEx.exit i, [(r47.2.1.getD 0 unk)], r47.2.2)
| .ret => some (AEx.ret, [(r47.2.1.getD 0 unk)], r47.2.2)).bind fun r48 =>
match r48.1 with
| .normal => j8 C L n0 ((r48.2.1.getD 0 unk)) r48.2.2
| .exit i => none
| .ret => fin PP false n0 [unk] r48.2.2
noncomputable def sh (C : Am.Callee) (L : Loops) (n0 : Nat) (t0 t1 : Value) (s : AS) : Option (Value × List Blk × Option Nat) :=
(C q124 [t0, t1] s.H).bind fun r1 =>
(aLen PP y9 r1.1 (AS.mk r1.2.1 (y8 s.esc r1.2.2))).bind fun x2 =>
(aBin PP .gtr t_int (.tmp 17) (.const (.int .i64 59)) x2 (.int .i64 59)).bind fun x3 =>
bcase x3 (
fin PP false n0 [.slice none 0 0] (AS.mk r1.2.1 (y8 s.esc r1.2.2))) (
(q89 PP y1 []).bind fun x4 =>
(y75 PP q60 (.map (some (AS.mk r1.2.1 (y8 s.esc r1.2.2)).H.length)) x4 (.bool true) (q79 (AS.mk r1.2.1 (y8 s.esc r1.2.2)) (.map [] 0))).bind fun s5 =>
(q89 PP y1 []).bind fun x6 =>
(bsl PP y13 1 [0] [x6] s5).bind fun r7 =>
((aLen PP y9 r1.1 r7.2).bind fun x8 =>
(L n0 (loop7s C L n0) ([r1.1, .map (some (AS.mk r1.2.1 (y8 s.esc r1.2.2)).H.length), r7.1, r1.1, x8, .int .i64 0], r7.2)).bind fun r31 =>
match r31.1 with
| .normal => some (AEx.normal, [(r31.2.1.getD 0 unk), (r31.2.1.getD 1 unk)], r31.2.2)
| .exit i => if i = 0 then some (AEx.normal, [(r31.2.1.getD 0 unk), (r31.2.1.getD 1 unk)], r31.2.2) else some (AEx.exit i, [(r31.2.1.getD 0 unk), (r31.2.1.getD 1 unk)], r31.2.2)
| .ret => some (AEx.ret, [(r31.2.1.getD 0 unk), (r31.2.1.getD 1 unk)], r31.2.2)).bind fun r32 =>
match r32.1 with
| .normal => j4 C L n0 (((jFrz PP n0 r32.2.1 r32.2.2 true).1.getD 0 unk)) (((jFrz PP n0 r32.2.1 r32.2.2 true).1.getD 1 unk)) ((jFrz PP n0 r32.2.1 r32.2.2 true).2)
| .exit i => none
| .ret => fin PP false n0 [unk] r32.2.2)
def T : Tab := ⟨fun i => if i = 7 then some [5, 6, 7, 24, 25, 26] else if i = 15 then some [5, 10, 48, 49, 50] else none, fun i => if i = 7 then some [5, 7] else if i = 15 then some [10] else none, false, fun i => if i = 10 then some [5, 6, 7, 9, 24, 25, 26, 38] else if i = 12 then some [5, 6, 7, 24, 25, 26] else if i = 13 then some [5, 7] else if i = 19 then some [5, 10, 48, 49, 50] else if i = 20 then some [10] else none, fun i => i == 13, false, false, fun _ => false⟩
end ghost_Values
namespace twainref49_Values
noncomputable def j2 (C : Am.Callee) (L : Loops) (n0 : Nat) (t0 t1 t7 t9 t10 t28 t29 t30 t37 t38 t39 : Value) (s : AS) : Option ((List Value × AS) ⊕ (AEx × List Value × AS)) :=
(aBin PP .add t_int (.tmp 39) (.const (.int .i64 1)) t39 (.int .i64 1)).bind fun x26 =>
some (.inl ([t0, t1, t7, t9, t10, t28, t29, t30, t37, t38, x26], s))
noncomputable def loop10 (C : Am.Callee) (L : Loops) (n0 : Nat) (t0 t1 t7 t9 t10 t28 t29 t30 t37 t38 t39 : Value) (s : AS) : Option ((List Value × AS) ⊕ (AEx × List Value × AS)) :=
(aBin PP .lss t_int (.tmp 39) (.tmp 38) t39 t38).bind fun x16 =>
bcase x16 (
((q15 PP y13 t37 t39).bind fun x17 =>
(aLoad true 16 s x17).bind fun x18 =>
(aBox y1 ((zeroP PP y1).getD unk) s).bind fun r19 =>
(q43 16 r19.2 r19.1 x18).bind fun s20 =>
bcase t10 (
some (AEx.normal, [t0, t1, t7, t9, .bool true, t28, t29, t30, t37, t38, t39], s20)) (
(aLoad true 16 s20 r19.1).bind fun x21 =>
(y3 PP y2 t9 1).bind fun x22 =>
(aLoad true 16 s20 x22).bind fun x23 =>
(aBin PP .eql y1 (.tmp 45) (.tmp 47) x21 x23).bind fun x24 =>
some (AEx.normal, [t0, t1, t7, t9, x24, t28, t29, t30, t37, t38, t39], s20))).bind fun r25 =>
match r25.1 with
| .normal => j2 C L n0 ((r25.2.1.getD 0 unk)) ((r25.2.1.getD 1 unk)) ((r25.2.1.getD 2 unk)) ((r25.2.1.getD 3 unk)) ((r25.2.1.getD 4 unk)) ((r25.2.1.getD 5 unk)) ((r25.2.1.getD 6 unk)) ((r25.2.1.getD 7 unk)) ((r25.2.1.getD 8 unk)) ((r25.2.1.getD 9 unk)) ((r25.2.1.getD 10 unk)) r25.2.2
| .exit i => some (.inr (.exit i, [(r25.2.1.getD 0 unk), (r25.2.1.getD 1 unk), (r25.2.1.getD 2 unk), (r25.2.1.getD 3 unk), (r25.2.1.getD 4 unk), (r25.2.1.getD 5 unk), (r25.2.1.getD 6 unk), (r25.2.1.getD 7 unk)], r25.2.2))
| .ret => some (.inr (.ret, [(r25.2.1.getD 0 unk), (r25.2.1.getD 1 unk), (r25.2.1.getD 2 unk), (r25.2.1.getD 3 unk), (r25.2.1.getD 4 unk), (r25.2.1.getD 5 unk), (r25.2.1.getD 6 unk), (r25.2.1.getD 7 unk)], r25.2.2))) (
some (.inr (.exit 2, [t0, t1, t7, t9, t10, t28, t29, t30], s)))
noncomputable def loop10s (C : Am.Callee) (L : Loops) (n0 : Nat) : List Value × AS → Option ((List Value × AS) ⊕ (AEx × List Value × AS)) := fun s => loop10 C L n0 (s.1.getD 0 unk) (s.1.getD 1 unk) (s.1.getD 2 unk) (s.1.getD 3 unk) (s.1.getD 4 unk) (s.1.getD 5 unk) (s.1.getD 6 unk) (s.1.getD 7 unk) (s.1.getD 8 unk) (s.1.getD 9 unk) (s.1.getD 10 unk) s.2
noncomputable def j4 (C : Am.Callee) (L : Loops) (n0 : Nat) (t0 t1 t7 t9 t10 t28 t29 t30 : Value) (s : AS) : Option (AEx × List Value × AS) :=
(aUn PP .not t10).bind fun x29 =>
bcase x29 (
(y3 PP y2 t9 1).bind fun x30 =>
(aLoad true 16 s x30).bind fun x31 =>
(bsl PP y13 1 [0] [x31] s).bind fun r32 =>
y16 PP .append #[y13, y13] [t7, r32.1] r32.2 fun x33 s34 =>
some (AEx.normal, [t0, t1, x33, t28, t29, t30], s34)) (
some (AEx.normal, [t0, t1, t7, t28, t29, t30], s))
noncomputable def j5 (C : Am.Callee) (L : Loops) (n0 : Nat) (t0 t1 t7 t28 t29 t30 : Value) (s : AS) : Option ((List Value × AS) ⊕ (AEx × List Value × AS)) :=
(aBin PP .add t_int (.tmp 30) (.const (.int .i64 1)) t30 (.int .i64 1)).bind fun x36 =>
some (.inl ([t0, t1, t7, t28, t29, x36], s))
noncomputable def loop6 (C : Am.Callee) (L : Loops) (n0 : Nat) (t0 t1 t7 t28 t29 t30 : Value) (s : AS) : Option ((List Value × AS) ⊕ (AEx × List Value × AS)) :=
(aBin PP .lss t_int (.tmp 30) (.tmp 29) t30 t29).bind fun x7 =>
bcase x7 (
((q15 PP y7 t28 t30).bind fun x8 =>
(aLoad true 19 s x8).bind fun x9 =>
(aBox y2 ((zeroP PP y2).getD unk) s).bind fun r10 =>
(q43 19 r10.2 r10.1 x9).bind fun s11 =>
(y3 PP y2 r10.1 0).bind fun x12 =>
(aLoad false 1 s11 x12).bind fun x13 =>
(aUn PP .not x13).bind fun x14 =>
((aLen PP y13 t7 s11).bind fun x15 =>
(L n0 (loop10s C L n0) ([t0, t1, t7, r10.1, x14, t28, t29, t30, t7, x15, .int .i64 0], s11)).bind fun r27 =>
match r27.1 with
| .normal => some (AEx.normal, [(r27.2.1.getD 0 unk), (r27.2.1.getD 1 unk), (r27.2.1.getD 2 unk), (r27.2.1.getD 3 unk), (r27.2.1.getD 4 unk), (r27.2.1.getD 5 unk), (r27.2.1.getD 6 unk), (r27.2.1.getD 7 unk)], r27.2.2)
| .exit i => if i = 2 then some (AEx.normal, [(r27.2.1.getD 0 unk), (r27.2.1.getD 1 unk), (r27.2.1.getD 2 unk), (r27.2.1.getD 3 unk), (r27.2.1.getD 4 unk), (r27.2.1.getD 5 unk), (r27.2.1.getD 6 unk), (r27.2.1.getD 7 unk)], r27.2.2) else some (AEx.exit i, [(r27.2.1.getD 0 unk), (r27.2.1.getD 1 unk), (r27.2.1.getD 2 unk), (r27.2.1.getD 3 unk), (r27.2.1.getD 4 unk), (r27.2.1.getD 5 unk), (r27.2.1.getD 6 unk), (r27.2.1.getD 7 unk)], r27.2.2)
| .ret => some (AEx.ret, [(r27.2.1.getD 0 unk), (r27.2.1.getD 1 unk), (r27.2.1.getD 2 unk), (r27.2.1.getD 3 unk), (r27.2.1.getD 4 unk), (r27.2.1.getD 5 unk), (r27.2.1.getD 6 unk), (r27.2.1.getD 7 unk)], r27.2.2)).bind fun r28 =>
match r28.1 with
| .normal => j4 C L n0 ((r28.2.1.getD 0 unk)) ((r28.2.1.getD 1 unk)) ((r28.2.1.getD 2 unk)) ((r28.2.1.getD 3 unk)) ((r28.2.1.getD 4 unk)) ((r28.2.1.getD 5 unk)) ((r28.2.1.getD 6 unk)) ((r28.2.1.getD 7 unk)) r28.2.2
| .exit i => if i = 1 then some (AEx.normal, [(r28.2.1.getD 0 unk), (r28.2.1.getD 1 unk), (r28.2.1.getD 2 unk), (r28.2.1.getD 5 unk), (r28.2.1.getD 6 unk), (r28.2.1.getD 7 unk)], r28.2.2) else some (AEx.exit i, [(r28.2.1.getD 0 unk), (r28.2.1.getD 1 unk), (r28.2.1.getD 2 unk), (r28.2.1.getD 5 unk), (r28.2.1.getD 6 unk), (r28.2.1.getD 7 unk)], r28.2.2)
| .ret => some (AEx.ret, [(r28.2.1.getD 0 unk), (r28.2.1.getD 1 unk), (r28.2.1.getD 2 unk), (r28.2.1.getD 5 unk), (r28.2.1.getD 6 unk), (r28.2.1.getD 7 unk)], r28.2.2)).bind fun r35 =>
match r35.1 with
| .normal => j5 C L n0 ((r35.2.1.getD 0 unk)) ((r35.2.1.getD 1 unk)) ((r35.2.1.getD 2 unk)) ((r35.2.1.getD 3 unk)) ((r35.2.1.getD 4 unk)) ((r35.2.1.getD 5 unk)) r35.2.2
| .exit i => some (.inr (.exit i, [(r35.2.1.getD 0 unk), (r35.2.1.getD 1 unk), (r35.2.1.getD 2 unk)], r35.2.2))
| .ret => some (.inr (.ret, [(r35.2.1.getD 0 unk), (r35.2.1.getD 1 unk), (r35.2.1.getD 2 unk)], r35.2.2))) (
some (.inr (.exit 0, [t0, t1, t7], s)))
noncomputable def loop6s (C : Am.Callee) (L : Loops) (n0 : Nat) : List Value × AS → Option ((List Value × AS) ⊕ (AEx × List Value × AS)) := fun s => loop6 C L n0 (s.1.getD 0 unk) (s.1.getD 1 unk) (s.1.getD 2 unk) (s.1.getD 3 unk) (s.1.getD 4 unk) (s.1.getD 5 unk) s.2
noncomputable def j9 (C : Am.Callee) (L : Loops) (n0 : Nat) (t0 t1 t13 t14 t16 t17 t59 t60 t61 : Value) (s : AS) : Option (AEx × List Value × AS) :=
bcase t17 (
(aLoad true 16 s t16).bind fun x51 =>
(bsl PP y13 1 [0] [x51] s).bind fun r52 =>
y16 PP .append #[y13, y13] [t13, r52.1] r52.2 fun x53 s54 =>
some (AEx.normal, [t0, t1, x53, t14, t59, t60, t61], s54)) (
some (AEx.normal, [t0, t1, t13, t14, t59, t60, t61], s))
noncomputable def j10 (C : Am.Callee) (L : Loops) (n0 : Nat) (t0 t1 t13 t14 t59 t60 t61 : Value) (s : AS) : Option ((List Value × AS) ⊕ (AEx × List Value × AS)) :=
(aBin PP .add t_int (.tmp 61) (.const (.int .i64 1)) t61 (.int .i64 1)).bind fun x56 =>
some (.inl ([t0, t1, t13, t14, t59, t60, x56], s))
noncomputable def loop20 (C : Am.Callee) (L : Loops) (n0 : Nat) (t0 t1 t13 t14 t59 t60 t61 : Value) (s : AS) : Option ((List Value × AS) ⊕ (AEx × List Value × AS)) :=
(aBin PP .lss t_int (.tmp 61) (.tmp 60) t61 t60).bind fun x40 =>
bcase x40 (
((q15 PP y13 t59 t61).bind fun x41 =>
(aLoad true 16 s x41).bind fun x42 =>
(aBox y1 ((zeroP PP y1).getD unk) s).bind fun r43 =>
(q43 16 r43.2 r43.1 x42).bind fun s44 =>
(aLoad true 16 s44 r43.1).bind fun x45 =>
(C q76 [t0, t1, x45] s44.H).bind fun r46 =>
(y12 PP (Instr.extract r46.1 0)).bind fun x47 =>
(y12 PP (Instr.extract r46.1 1)).bind fun x48 =>
(y12 PP (Instr.extract r46.1 2)).bind fun x49 =>
(bcase t14 (
some (AEx.normal, [t0, t1, t13, x49, r43.1, x47, t59, t60, t61], AS.mk r46.2.1 (y8 s44.esc r46.2.2))) (
some (AEx.normal, [t0, t1, t13, .bool false, r43.1, x47, t59, t60, t61], AS.mk r46.2.1 (y8 s44.esc r46.2.2)))).bind fun r50 =>
match r50.1 with
| .normal => j9 C L n0 ((r50.2.1.getD 0 unk)) ((r50.2.1.getD 1 unk)) ((r50.2.1.getD 2 unk)) ((r50.2.1.getD 3 unk)) ((r50.2.1.getD 4 unk)) ((r50.2.1.getD 5 unk)) ((r50.2.1.getD 6 unk)) ((r50.2.1.getD 7 unk)) ((r50.2.1.getD 8 unk)) r50.2.2
| .exit i => if i = 5 then some (AEx.normal, [(r50.2.1.getD 0 unk), (r50.2.1.getD 1 unk), (r50.2.1.getD 2 unk), (r50.2.1.getD 3 unk), (r50.2.1.getD 6 unk), (r50.2.1.getD 7 unk), (r50.2.1.getD 8 unk)], r50.2.2) else some (AEx.exit i, [(r50.2.1.getD 0 unk), (r50.2.1.getD 1 unk), (r50.2.1.getD 2 unk), (r50.2.1.getD 3 unk), (r50.2.1.getD 6 unk), (r50.2.1.getD 7 unk), (r50.2.1.getD 8 unk)], r50.2.2)
| .ret => some (AEx.ret, [(r50.2.1.getD 0 unk), (r50.2.1.getD 1 unk), (r50.2.1.getD 2 unk), (r50.2.1.getD 3 unk), (r50.2.1.getD 6 unk), (r50.2.1.getD 7 unk), (r50.2.1.getD 8 unk)], r50.2.2)).bind fun r55 =>
match r55.1 with
| .normal => j10 C L n0 ((r55.2.1.getD 0 unk)) ((r55.2.1.getD 1 unk)) ((r55.2.1.getD 2 unk)) ((r55.2.1.getD 3 unk)) ((r55.2.1.getD 4 unk)) ((r55.2.1.getD 5 unk)) ((r55.2.1.getD 6 unk)) r55.2.2
| .exit i => some (.inr (.exit i, [(r55.2.1.getD 2 unk), (r55.2.1.getD 3 unk)], r55.2.2))
| .ret => some (.inr (.ret, [(r55.2.1.getD 2 unk), (r55.2.1.getD 3 unk)], r55.2.2))) (
some (.inr (.exit 4, [t13, t14], s)))
noncomputable def loop20s (C : Am.Callee) (L : Loops) (n0 : Nat) : List Value × AS → Option ((List Value × AS) ⊕ (AEx × List Value × AS)) := fun s => loop20 C L n0 (s.1.getD 0 unk) (s.1.getD 1 unk) (s.1.getD 2 unk) (s.1.getD 3 unk) (s.1.getD 4 unk) (s.1.getD 5 unk) (s.1.getD 6 unk) s.2
noncomputable def j12 (C : Am.Callee) (L : Loops) (n0 : Nat) (t13 t14 : Value) (s : AS) : Option (Value × List Blk × Option Nat) :=
fin PP false n0 [t13, t14] s
noncomputable def j7 (C : Am.Callee) (L : Loops) (n0 : Nat) (t0 t1 t7 : Value) (s : AS) : Option (Value × List Blk × Option Nat) :=
((aLen PP y13 t7 s).bind fun x39 =>
(L n0 (loop20s C L n0) ([t0, t1, .slice none 0 0, .bool true, t7, x39, .int .i64 0], s)).bind fun r57 =>
match r57.1 with
| .normal => some (AEx.normal, [(r57.2.1.getD 0 unk), (r57.2.1.getD 1 unk)], r57.2.2)
| .exit i => if i = 4 then some (AEx.normal, [(r57.2.1.getD 0 unk), (r57.2.1.getD 1 unk)], r57.2.2) else some (AEx.exit i, [(r57.2.1.getD 0 unk), (r57.2.1.getD 1 unk)], r57.2.2)
| .ret => some (AEx.ret, [(r57.2.1.getD 0 unk), (r57.2.1.getD 1 unk)], r57.2.2)).bind fun r58 =>
match r58.1 with
| .normal => j12 C L n0 ((r58.2.1.getD 0 unk)) ((r58.2.1.getD 1 unk)) r58.2.2
| .exit i => none
| .ret => fin PP false n0 [unk, unk] r58.2.2
noncomputable def sh (C : Am.Callee) (L : Loops) (n0 : Nat) (t0 t1 : Value) (s : AS) : Option (Value × List Blk × Option Nat) :=
(C y110 [t0, t1] s.H).bind fun r1 =>
(aLen PP y7 r1.1 (AS.mk r1.2.1 (y8 s.esc r1.2.2))).bind fun x2 =>
(aBin PP .gtr t_int (.tmp 24) (.const (.int .i64 59)) x2 (.int .i64 59)).bind fun x3 =>
bcase x3 (
fin PP false n0 [.slice none 0 0, .bool true] (AS.mk r1.2.1 (y8 s.esc r1.2.2))) (
(q89 PP y1 []).bind fun x4 =>
(bsl PP y13 1 [0] [x4] (AS.mk r1.2.1 (y8 s.esc r1.2.2))).bind fun r5 =>
((aLen PP y7 r1.1 r5.2).bind fun x6 =>
(L n0 (loop6s C L n0) ([t0, t1, r5.1, r1.1, x6, .int .i64 0], r5.2)).bind fun r37 =>
match r37.1 with
| .normal => some (AEx.normal, [(r37.2.1.getD 0 unk), (r37.2.1.getD 1 unk), (r37.2.1.getD 2 unk)], r37.2.2)
| .exit i => if i = 0 then some (AEx.normal, [(r37.2.1.getD 0 unk), (r37.2.1.getD 1 unk), (r37.2.1.getD 2 unk)], r37.2.2) else some (AEx.exit i, [(r37.2.1.getD 0 unk), (r37.2.1.getD 1 unk), (r37.2.1.getD 2 unk)], r37.2.2)
| .ret => some (AEx.ret, [(r37.2.1.getD 0 unk), (r37.2.1.getD 1 unk), (r37.2.1.getD 2 unk)], r37.2.2)).bind fun r38 =>
match r38.1 with
| .normal => j7 C L n0 (((jFrz PP n0 r38.2.1 r38.2.2 true).1.getD 0 unk)) (((jFrz PP n0 r38.2.1 r38.2.2 true).1.getD 1 unk)) (((jFrz PP n0 r38.2.1 r38.2.2 true).1.getD 2 unk)) ((jFrz PP n0 r38.2.1 r38.2.2 true).2)
| .exit i => none
| .ret => fin PP false n0 [unk, unk] r38.2.2)
def T : Tab := ⟨fun i => if i = 6 then some [0, 1, 7, 28, 29, 30] else if i = 10 then some [0, 1, 7, 9, 10, 28, 29, 30, 37, 38, 39] else if i = 20 then some [0, 1, 13, 14, 59, 60, 61] else none, fun i => if i = 6 then some [0, 1, 7] else if i = 10 then some [0, 1, 7, 9, 10, 28, 29, 30] else if i = 20 then some [13, 14] else none, false, fun i => if i = 13 then some [0, 1, 7, 9, 10, 28, 29, 30, 37, 38, 39] else if i = 14 then some [0, 1, 7, 9, 10, 28, 29, 30] else if i = 16 then some [0, 1, 7, 28, 29, 30] else if i = 17 then some [0, 1, 7] else if i = 24 then some [0, 1, 13, 14, 16, 17, 59, 60, 61] else if i = 26 then some [0, 1, 13, 14, 59, 60, 61] else if i = 27 then some [13, 14] else none, fun i => i == 17, false, false, fun _ => false⟩
end twainref49_Values
namespace twainlaw49_alike
noncomputable def loop4 (C : Am.Callee) (L : Loops) (n0 : Nat) (t0 t1 t12 t13 : Value) (s : AS) : Option ((List Value × AS) ⊕ (AEx × List Value × AS)) :=
(aBin PP .lss t_int (.tmp 13) (.tmp 12) t13 t12).bind fun x5 =>
bcase x5 (
(q15 PP y13 t0 t13).bind fun x6 =>
(aLoad true 16 s x6).bind fun x7 =>
(q15 PP y13 t1 t13).bind fun x8 =>
(aLoad true 16 s x8).bind fun x9 =>
(aBin PP .neq y1 (.tmp 19) (.tmp 23) x7 x9).bind fun x10 =>
bcase x10 (
some (.inr (.ret, [.bool false], s))) (
(aBin PP .add t_int (.tmp 13) (.const (.int .i64 1)) t13 (.int .i64 1)).bind fun x11 =>
some (.inl ([t0, t1, t12, x11], s)))) (
some (.inr (.exit 0, [unk], s)))
noncomputable def loop4s (C : Am.Callee) (L : Loops) (n0 : Nat) : List Value × AS → Option ((List Value × AS) ⊕ (AEx × List Value × AS)) := fun s => loop4 C L n0 (s.1.getD 0 unk) (s.1.getD 1 unk) (s.1.getD 2 unk) (s.1.getD 3 unk) s.2
noncomputable def j2 (C : Am.Callee) (L : Loops) (n0 : Nat) (s : AS) : Option (Value × List Blk × Option Nat) :=
fin PP false n0 [.bool true] s
noncomputable def sh (C : Am.Callee) (L : Loops) (n0 : Nat) (t0 t1 : Value) (s : AS) : Option (Value × List Blk × Option Nat) :=
(aLen PP y13 t0 s).bind fun x1 =>
(aLen PP y13 t1 s).bind fun x2 =>
(aBin PP .neq t_int (.tmp 7) (.tmp 9) x1 x2).bind fun x3 =>
bcase x3 (
fin PP false n0 [.bool false] s) (
((aLen PP y13 t0 s).bind fun x4 =>
(L n0 (loop4s C L n0) ([t0, t1, x4, .int .i64 0], s)).bind fun r12 =>
match r12.1 with
| .normal => some (AEx.normal, [(r12.2.1.getD 0 unk)], r12.2.2)
| .exit i => if i = 0 then some (AEx.normal, [(r12.2.1.getD 0 unk)], r12.2.2) else some (AEx.exit i, [(r12.2.1.getD 0 unk)], r12.2.2)
| .ret => some (AEx.ret, [(r12.2.1.getD 0 unk)], r12.2.2)).bind fun r13 =>
match r13.1 with
| .normal => j2 C L n0  r13.2.2
| .exit i => none
| .ret => fin PP false n0 [(r13.2.1.getD 0 unk)] r13.2.2)
def T : Tab := ⟨fun i => if i = 4 then some [0, 1, 12, 13] else none, fun i => if i = 4 then some [4] else none, false, fun i => if i = 9 then some [4] else none, fun _ => false, false, false, fun _ => false⟩
end twainlaw49_alike
namespace twainref49_Image
noncomputable def j0 (C : Am.Callee) (L : Loops) (n0 : Nat) (t0 t1 t21 : Value) (s : AS) : Option (AEx × List Value × AS) :=
bcase t21 (
some (AEx.ret, [t0, t1, .bool false, .bool true], s)) (
some (AEx.normal, [t0, t1, unk, unk], s))
noncomputable def loop9 (C : Am.Callee) (L : Loops) (n0 : Nat) (t0 t1 t6 t7 t8 t29 : Value) (s : AS) : Option ((List Value × AS) ⊕ (AEx × List Value × AS)) :=
(aBin PP .lss t_int (.tmp 29) (.const (.int .i64 16)) t29 (.int .i64 16)).bind fun x12 =>
bcase x12 (
(aBin PP .mul t_int (.const (.int .i64 16)) (.tmp 34) (.int .i64 16) t7).bind fun x13 =>
(aBin PP .add t_int (.tmp 35) (.tmp 36) x13 t29).bind fun x14 =>
(q15 PP y48 t1 x14).bind fun x15 =>
(aLoad false 1 s x15).bind fun x16 =>
(q15 PP y1 t8 t29).bind fun x17 =>
(q43 1 s x17 x16).bind fun s18 =>
(aBin PP .add t_int (.tmp 29) (.const (.int .i64 1)) t29 (.int .i64 1)).bind fun x19 =>
some (.inl ([t0, t1, t6, t7, t8, x19], s18))) (
some (.inr (.exit 2, [t0, t1, t6, t7, t8], s)))
noncomputable def loop9s (C : Am.Callee) (L : Loops) (n0 : Nat) : List Value × AS → Option ((List Value × AS) ⊕ (AEx × List Value × AS)) := fun s => loop9 C L n0 (s.1.getD 0 unk) (s.1.getD 1 unk) (s.1.getD 2 unk) (s.1.getD 3 unk) (s.1.getD 4 unk) (s.1.getD 5 unk) s.2
noncomputable def j7 (C : Am.Callee) (L : Loops) (n0 : Nat) (t0 t1 t6 t7 t12 : Value) (s : AS) : Option (AEx × List Value × AS) :=
bcase t6 (
some (AEx.normal, [t0, t1, unk, unk, t12, t7], s)) (
some (AEx.normal, [t0, t1, unk, unk, .bool false, t7], s))
noncomputable def j6 (C : Am.Callee) (L : Loops) (n0 : Nat) (t0 t1 t6 t7 t12 t58 : Value) (s : AS) : Option (AEx × List Value × AS) :=
bcase t58 (
some (AEx.ret, [t0, t1, .bool false, .bool true, t6, t7], s)) (
j7 C L n0 t0 t1 t6 t7 t12 s)
noncomputable def j5 (C : Am.Callee) (L : Loops) (n0 : Nat) (t0 t1 t6 t7 t8 : Value) (s : AS) : Option (AEx × List Value × AS) :=
(aLoad true 16 s t8).bind fun x22 =>
(C q76 [t0, t7, x22] s.H).bind fun r23 =>
(y12 PP (Instr.extract r23.1 0)).bind fun x24 =>
(y12 PP (Instr.extract r23.1 1)).bind fun x25 =>
(y12 PP (Instr.extract r23.1 2)).bind fun x26 =>
((aBin PP .eql t_int (.tmp 50) (.const (.int .i64 0)) x25 (.int .i64 0)).bind fun x27 =>
bcase x27 (
bcase x26 (
(aUn PP .not x24).bind fun x28 =>
some (AEx.normal, [t0, t1, t6, t7, x26, x28], AS.mk r23.2.1 (y8 s.esc r23.2.2))) (
some (AEx.normal, [t0, t1, t6, t7, x26, .bool false], AS.mk r23.2.1 (y8 s.esc r23.2.2)))) (
some (AEx.normal, [t0, t1, t6, t7, x26, .bool false], AS.mk r23.2.1 (y8 s.esc r23.2.2)))).bind fun r29 =>
match r29.1 with
| .normal => j6 C L n0 ((r29.2.1.getD 0 unk)) ((r29.2.1.getD 1 unk)) ((r29.2.1.getD 2 unk)) ((r29.2.1.getD 3 unk)) ((r29.2.1.getD 4 unk)) ((r29.2.1.getD 5 unk)) r29.2.2
| .exit i => if i = 1 then some (AEx.normal, [(r29.2.1.getD 0 unk), (r29.2.1.getD 1 unk), unk, unk, (r29.2.1.getD 2 unk), (r29.2.1.getD 3 unk)], r29.2.2) else some (AEx.exit i, [(r29.2.1.getD 0 unk), (r29.2.1.getD 1 unk), unk, unk, (r29.2.1.getD 2 unk), (r29.2.1.getD 3 unk)], r29.2.2)
| .ret => some (AEx.ret, [(r29.2.1.getD 0 unk), (r29.2.1.getD 1 unk), unk, unk, (r29.2.1.getD 2 unk), (r29.2.1.getD 3 unk)], r29.2.2)
noncomputable def j8 (C : Am.Callee) (L : Loops) (n0 : Nat) (t0 t1 t6 t7 : Value) (s : AS) : Option ((List Value × AS) ⊕ (AEx × List Value × AS)) :=
(aBin PP .add t_int (.tmp 27) (.const (.int .i64 1)) t7 (.int .i64 1)).bind fun x31 =>
some (.inl ([t0, t1, t6, x31], s))
noncomputable def loop5 (C : Am.Callee) (L : Loops) (n0 : Nat) (t0 t1 t6 t7 : Value) (s : AS) : Option ((List Value × AS) ⊕ (AEx × List Value × AS)) :=
(aBin PP .mul t_int (.const (.int .i64 16)) (.tmp 22) (.int .i64 16) t7).bind fun x8 =>
(aLen PP y48 t1 s).bind fun x9 =>
(aBin PP .lss t_int (.tmp 23) (.tmp 25) x8 x9).bind fun x10 =>
bcase x10 (
((aBox y1 ((zeroP PP y1).getD unk) s).bind fun r11 =>
((L n0 (loop9s C L n0) ([t0, t1, t6, t7, r11.1, .int .i64 0], r11.2)).bind fun r20 =>
match r20.1 with
| .normal => some (AEx.normal, [(r20.2.1.getD 0 unk), (r20.2.1.getD 1 unk), (r20.2.1.getD 2 unk), (r20.2.1.getD 3 unk), (r20.2.1.getD 4 unk)], r20.2.2)
| .exit i => if i = 2 then some (AEx.normal, [(r20.2.1.getD 0 unk), (r20.2.1.getD 1 unk), (r20.2.1.getD 2 unk), (r20.2.1.getD 3 unk), (r20.2.1.getD 4 unk)], r20.2.2) else some (AEx.exit i, [(r20.2.1.getD 0 unk), (r20.2.1.getD 1 unk), (r20.2.1.getD 2 unk), (r20.2.1.getD 3 unk), (r20.2.1.getD 4 unk)], r20.2.2)
| .ret => some (AEx.ret, [(r20.2.1.getD 0 unk), (r20.2.1.getD 1 unk), (r20.2.1.getD 2 unk), (r20.2.1.getD 3 unk), (r20.2.1.getD 4 unk)], r20.2.2)).bind fun r21 =>
match r21.1 with
| .normal => j5 C L n0 ((r21.2.1.getD 0 unk)) ((r21.2.1.getD 1 unk)) ((r21.2.1.getD 2 unk)) ((r21.2.1.getD 3 unk)) ((r21.2.1.getD 4 unk)) r21.2.2
| .exit i => if i = 1 then some (AEx.normal, [(r21.2.1.getD 0 unk), (r21.2.1.getD 1 unk), unk, unk, (r21.2.1.getD 2 unk), (r21.2.1.getD 3 unk)], r21.2.2) else some (AEx.exit i, [(r21.2.1.getD 0 unk), (r21.2.1.getD 1 unk), unk, unk, (r21.2.1.getD 2 unk), (r21.2.1.getD 3 unk)], r21.2.2)
| .ret => some (AEx.ret, [(r21.2.1.getD 0 unk), (r21.2.1.getD 1 unk), unk, unk, (r21.2.1.getD 2 unk), (r21.2.1.getD 3 unk)], r21.2.2)).bind fun r30 =>
match r30.1 with
| .normal => j8 C L n0 ((r30.2.1.getD 0 unk)) ((r30.2.1.getD 1 unk)) ((r30.2.1.getD 4 unk)) ((r30.2.1.getD 5 unk)) r30.2.2
| .exit i => some (.inr (.exit i, [(r30.2.1.getD 2 unk), (r30.2.1.getD 3 unk), (r30.2.1.getD 4 unk)], r30.2.2))
| .ret => some (.inr (.ret, [(r30.2.1.getD 2 unk), (r30.2.1.getD 3 unk), (r30.2.1.getD 4 unk)], r30.2.2))) (
some (.inr (.exit 0, [unk, unk, t6], s)))
noncomputable def loop5s (C : Am.Callee) (L : Loops) (n0 : Nat) : List Value × AS → Option ((List Value × AS) ⊕ (AEx × List Value × AS)) := fun s => loop5 C L n0 (s.1.getD 0 unk) (s.1.getD 1 unk) (s.1.getD 2 unk) (s.1.getD 3 unk) s.2
noncomputable def j10 (C : Am.Callee) (L : Loops) (n0 : Nat) (t6 : Value) (s : AS) : Option (Value × List Blk × Option Nat) :=
fin PP false n0 [.bool true, t6] s
noncomputable def j1 (C : Am.Callee) (L : Loops) (n0 : Nat) (t0 t1 : Value) (s : AS) : Option (Value × List Blk × Option Nat) :=
((L n0 (loop5s C L n0) ([t0, t1, .bool true, .int .i64 0], s)).bind fun r32 =>
match r32.1 with
| .normal => some (AEx.normal, [(r32.2.1.getD 0 unk), (r32.2.1.getD 1 unk), (r32.2.1.getD 2 unk)], r32.2.2)
| .exit i => if i = 0 then some (AEx.normal, [(r32.2.1.getD 0 unk), (r32.2.1.getD 1 unk), (r32.2.1.getD 2 unk)], r32.2.2) else some (AEx.exit i, [(r32.2.1.getD 0 unk), (r32.2.1.getD 1 unk), (r32.2.1.getD 2 unk)], r32.2.2)
| .ret => some (AEx.ret, [(r32.2.1.getD 0 unk), (r32.2.1.getD 1 unk), (r32.2.1.getD 2 unk)], r32.2.2)).bind fun r33 =>
match r33.1 with
| .normal => j10 C L n0 ((r33.2.1.getD 2 unk)) r33.2.2
| .exit i => none
| .ret => fin PP false n0 [(r33.2.1.getD 0 unk), (r33.2.1.getD 1 unk)] r33.2.2
noncomputable def sh (C : Am.Callee) (L : Loops) (n0 : Nat) (t0 t1 : Value) (s : AS) : Option (Value × List Blk × Option Nat) :=
(((aLen PP y48 t1 s).bind fun x1 =>
(aBin PP .rem t_int (.tmp 14) (.const (.int .i64 16)) x1 (.int .i64 16)).bind fun x2 =>
(aBin PP .neq t_int (.tmp 15) (.const (.int .i64 0)) x2 (.int .i64 0)).bind fun x3 =>
bcase x3 (
some (AEx.normal, [t0, t1, .bool true], s)) (
(aLen PP y48 t1 s).bind fun x4 =>
(aBin PP .gtr t_int (.tmp 19) (.const (.int .i64 4096)) x4 (.int .i64 4096)).bind fun x5 =>
some (AEx.normal, [t0, t1, x5], s))).bind fun r6 =>
match r6.1 with
| .normal => j0 C L n0 ((r6.2.1.getD 0 unk)) ((r6.2.1.getD 1 unk)) ((r6.2.1.getD 2 unk)) r6.2.2
| .exit i => some (AEx.exit i, [(r6.2.1.getD 0 unk), (r6.2.1.getD 1 unk), unk, unk], r6.2.2)
| .ret => some (AEx.ret, [(r6.2.1.getD 0 unk), (r6.2.1.getD 1 unk), unk, unk], r6.2.2)).bind fun r7 =>
match r7.1 with
| .normal => j1 C L n0 ((r7.2.1.getD 0 unk)) ((r7.2.1.getD 1 unk)) r7.2.2
| .exit i => none
| .ret => fin PP false n0 [(r7.2.1.getD 2 unk), (r7.2.1.getD 3 unk)] r7.2.2
def T : Tab := ⟨fun i => if i = 5 then some [0, 1, 6, 7] else if i = 9 then some [0, 1, 6, 7, 8, 29] else none, fun i => if i = 5 then some [4, 5, 6] else if i = 9 then some [0, 1, 6, 7, 8] else none, false, fun i => if i = 2 then some [0, 1, 21] else if i = 3 then some [0, 1, 4, 5] else if i = 6 then some [0, 1, 4, 5, 6, 7] else if i = 13 then some [0, 1, 6, 7, 8] else if i = 15 then some [0, 1, 6, 7, 12, 58] else if i = 17 then some [4, 5, 6] else none, fun _ => false, false, false, fun _ => false⟩
end twainref49_Image
namespace ghost_Image
noncomputable def j0 (C : Am.Callee) (L : Loops) (n0 : Nat) (t0 t1 t17 : Value) (s : AS) : Option (AEx × List Value × AS) :=
bcase t17 (
some (AEx.ret, [t0, t1, .bool false], s)) (
some (AEx.normal, [t0, t1, unk], s))
noncomputable def j3 (C : Am.Callee) (L : Loops) (n0 : Nat) (t0 t1 t20 t21 t42 : Value) (s : AS) : Option (AEx × List Value × AS) :=
bcase t42 (
some (AEx.ret, [t0, t1, .bool false, t20, t21], s)) (
some (AEx.normal, [t0, t1, unk, t20, t21], s))
noncomputable def j4 (C : Am.Callee) (L : Loops) (n0 : Nat) (t0 t1 t20 t21 : Value) (s : AS) : Option ((List Value × AS) ⊕ (AEx × List Value × AS)) :=
(aBin PP .add t_int (.tmp 21) (.const (.int .i64 1)) t21 (.int .i64 1)).bind fun x25 =>
some (.inl ([t0, t1, t20, x25], s))
noncomputable def loop4 (C : Am.Callee) (L : Loops) (n0 : Nat) (t0 t1 t20 t21 : Value) (s : AS) : Option ((List Value × AS) ⊕ (AEx × List Value × AS)) :=
(aBin PP .lss t_int (.tmp 21) (.tmp 20) t21 t20).bind fun x10 =>
bcase x10 (
((aBin PP .mul t_int (.tmp 25) (.const (.int .i64 16)) t21 (.int .i64 16)).bind fun x11 =>
(q196 PP y48 t1 (some x11) none none s).bind fun x12 =>
(aArr PP y1 x12).bind fun x13 =>
(aLoad true 16 s x13).bind fun x14 =>
(aBox y1 ((zeroP PP y1).getD unk) s).bind fun r15 =>
(q43 16 r15.2 r15.1 x14).bind fun s16 =>
(aLoad true 16 s16 r15.1).bind fun x17 =>
(C q116 [t0, t21, x17] s16.H).bind fun r18 =>
(y12 PP (Instr.extract r18.1 0)).bind fun x19 =>
(y12 PP (Instr.extract r18.1 1)).bind fun x20 =>
((aBin PP .eql y162 (.tmp 37) (.const (.int .i64 0)) x20 (.int .i64 0)).bind fun x21 =>
bcase x21 (
(aUn PP .not x19).bind fun x22 =>
some (AEx.normal, [t0, t1, t20, t21, x22], AS.mk r18.2.1 (y8 s16.esc r18.2.2))) (
some (AEx.normal, [t0, t1, t20, t21, .bool false], AS.mk r18.2.1 (y8 s16.esc r18.2.2)))).bind fun r23 =>
match r23.1 with
| .normal => j3 C L n0 ((r23.2.1.getD 0 unk)) ((r23.2.1.getD 1 unk)) ((r23.2.1.getD 2 unk)) ((r23.2.1.getD 3 unk)) ((r23.2.1.getD 4 unk)) r23.2.2
| .exit i => if i = 1 then some (AEx.normal, [(r23.2.1.getD 0 unk), (r23.2.1.getD 1 unk), unk, (r23.2.1.getD 2 unk), (r23.2.1.getD 3 unk)], r23.2.2) else some (AEx.exit i, [(r23.2.1.getD 0 unk), (r23.2.1.getD 1 unk), unk, (r23.2.1.getD 2 unk), (r23.2.1.getD 3 unk)], r23.2.2)
| .ret => some (AEx.ret, [(r23.2.1.getD 0 unk), (r23.2.1.getD 1 unk), unk, (r23.2.1.getD 2 unk), (r23.2.1.getD 3 unk)], r23.2.2)).bind fun r24 =>
match r24.1 with
| .normal => j4 C L n0 ((r24.2.1.getD 0 unk)) ((r24.2.1.getD 1 unk)) ((r24.2.1.getD 3 unk)) ((r24.2.1.getD 4 unk)) r24.2.2
| .exit i => some (.inr (.exit i, [(r24.2.1.getD 2 unk)], r24.2.2))
| .ret => some (.inr (.ret, [(r24.2.1.getD 2 unk)], r24.2.2))) (
some (.inr (.exit 0, [unk], s)))
noncomputable def loop4s (C : Am.Callee) (L : Loops) (n0 : Nat) : List Value × AS → Option ((List Value × AS) ⊕ (AEx × List Value × AS)) := fun s => loop4 C L n0 (s.1.getD 0 unk) (s.1.getD 1 unk) (s.1.getD 2 unk) (s.1.getD 3 unk) s.2
noncomputable def j6 (C : Am.Callee) (L : Loops) (n0 : Nat) (s : AS) : Option (Value × List Blk × Option Nat) :=
fin PP false n0 [.bool true] s
noncomputable def j1 (C : Am.Callee) (L : Loops) (n0 : Nat) (t0 t1 : Value) (s : AS) : Option (Value × List Blk × Option Nat) :=
((aLen PP y48 t1 s).bind fun x8 =>
(aBin PP .quo t_int (.tmp 19) (.const (.int .i64 16)) x8 (.int .i64 16)).bind fun x9 =>
(L n0 (loop4s C L n0) ([t0, t1, x9, .int .i64 0], s)).bind fun r26 =>
match r26.1 with
| .normal => some (AEx.normal, [(r26.2.1.getD 0 unk)], r26.2.2)
| .exit i => if i = 0 then some (AEx.normal, [(r26.2.1.getD 0 unk)], r26.2.2) else some (AEx.exit i, [(r26.2.1.getD 0 unk)], r26.2.2)
| .ret => some (AEx.ret, [(r26.2.1.getD 0 unk)], r26.2.2)).bind fun r27 =>
match r27.1 with
| .normal => j6 C L n0  r27.2.2
| .exit i => none
| .ret => fin PP false n0 [(r27.2.1.getD 0 unk)] r27.2.2
noncomputable def sh (C : Am.Callee) (L : Loops) (n0 : Nat) (t0 t1 : Value) (s : AS) : Option (Value × List Blk × Option Nat) :=
(((aLen PP y48 t1 s).bind fun x1 =>
(aBin PP .rem t_int (.tmp 10) (.const (.int .i64 16)) x1 (.int .i64 16)).bind fun x2 =>
(aBin PP .neq t_int (.tmp 11) (.const (.int .i64 0)) x2 (.int .i64 0)).bind fun x3 =>
bcase x3 (
some (AEx.normal, [t0, t1, .bool true], s)) (
(aLen PP y48 t1 s).bind fun x4 =>
(aBin PP .gtr t_int (.tmp 15) (.const (.int .i64 4096)) x4 (.int .i64 4096)).bind fun x5 =>
some (AEx.normal, [t0, t1, x5], s))).bind fun r6 =>
match r6.1 with
| .normal => j0 C L n0 ((r6.2.1.getD 0 unk)) ((r6.2.1.getD 1 unk)) ((r6.2.1.getD 2 unk)) r6.2.2
| .exit i => some (AEx.exit i, [(r6.2.1.getD 0 unk), (r6.2.1.getD 1 unk), unk], r6.2.2)
| .ret => some (AEx.ret, [(r6.2.1.getD 0 unk), (r6.2.1.getD 1 unk), unk], r6.2.2)).bind fun r7 =>
match r7.1 with
| .normal => j1 C L n0 ((r7.2.1.getD 0 unk)) ((r7.2.1.getD 1 unk)) r7.2.2
| .exit i => none
| .ret => fin PP false n0 [(r7.2.1.getD 2 unk)] r7.2.2
def T : Tab := ⟨fun i => if i = 4 then some [0, 1, 20, 21] else none, fun i => if i = 4 then some [4] else none, false, fun i => if i = 2 then some [0, 1, 17] else if i = 3 then some [0, 1, 4] else if i = 9 then some [0, 1, 20, 21, 42] else if i = 10 then some [0, 1, 4, 20, 21] else if i = 11 then some [4] else none, fun _ => false, false, false, fun _ => false⟩
end ghost_Image
namespace ghost_Order
noncomputable def loop7 (C : Am.Callee) (L : Loops) (n0 : Nat) (t6 t9 t23 t24 t25 : Value) (s : AS) : Option ((List Value × AS) ⊕ (AEx × List Value × AS)) :=
(aBin PP .lss t_int (.tmp 25) (.tmp 24) t25 t24).bind fun x8 =>
bcase x8 (
(q15 PP y28 t23 t25).bind fun x9 =>
(aLoad false 1 s x9).bind fun x10 =>
(q15 PP y9 t6 x10).bind fun x11 =>
(y3 PP y4 x11 2).bind fun x12 =>
(aLoad false 1 s x12).bind fun x13 =>
(bsl PP y28 1 [0] [x13] s).bind fun r14 =>
y16 PP .append #[y28, y28] [t9, r14.1] r14.2 fun x15 s16 =>
(aBin PP .add t_int (.tmp 25) (.const (.int .i64 1)) t25 (.int .i64 1)).bind fun x17 =>
some (.inl ([t6, x15, t23, t24, x17], s16))) (
some (.inr (.exit 0, [t9], s)))
noncomputable def loop7s (C : Am.Callee) (L : Loops) (n0 : Nat) : List Value × AS → Option ((List Value × AS) ⊕ (AEx × List Value × AS)) := fun s => loop7 C L n0 (s.1.getD 0 unk) (s.1.getD 1 unk) (s.1.getD 2 unk) (s.1.getD 3 unk) (s.1.getD 4 unk) s.2
noncomputable def j2 (C : Am.Callee) (L : Loops) (n0 : Nat) (t9 : Value) (s : AS) : Option (Value × List Blk × Option Nat) :=
fin PP false n0 [t9, .bool true] s
noncomputable def sh (C : Am.Callee) (L : Loops) (n0 : Nat) (t0 t1 : Value) (s : AS) : Option (Value × List Blk × Option Nat) :=
(C q124 [t0, t1] s.H).bind fun r1 =>
(q89 PP y1 []).bind fun x2 =>
(C q113 [r1.1, x2] (AS.mk r1.2.1 (y8 s.esc r1.2.2)).H).bind fun r3 =>
(y12 PP (Instr.extract r3.1 0)).bind fun x4 =>
(y12 PP (Instr.extract r3.1 1)).bind fun x5 =>
(aUn PP .not x5).bind fun x6 =>
bcase x6 (
fin PP false n0 [.slice none 0 0, .bool false] (AS.mk r3.2.1 (y8 (AS.mk r1.2.1 (y8 s.esc r1.2.2)).esc r3.2.2))) (
((aLen PP y28 x4 (AS.mk r3.2.1 (y8 (AS.mk r1.2.1 (y8 s.esc r1.2.2)).esc r3.2.2))).bind fun x7 =>
(L n0 (loop7s C L n0) ([r1.1, .slice none 0 0, x4, x7, .int .i64 0], AS.mk r3.2.1 (y8 (AS.mk r1.2.1 (y8 s.esc r1.2.2)).esc r3.2.2))).bind fun r18 =>
match r18.1 with
| .normal => some (AEx.normal, [(r18.2.1.getD 0 unk)], r18.2.2)
| .exit i => if i = 0 then some (AEx.normal, [(r18.2.1.getD 0 unk)], r18.2.2) else some (AEx.exit i, [(r18.2.1.getD 0 unk)], r18.2.2)
| .ret => some (AEx.ret, [(r18.2.1.getD 0 unk)], r18.2.2)).bind fun r19 =>
match r19.1 with
| .normal => j2 C L n0 ((r19.2.1.getD 0 unk)) r19.2.2
| .exit i => none
| .ret => fin PP false n0 [unk, unk] r19.2.2)
def T : Tab := ⟨fun i => if i = 7 then some [6, 9, 23, 24, 25] else none, fun i => if i = 7 then some [9] else none, false, fun i => if i = 11 then some [9] else none, fun _ => false, false, false, fun _ => false⟩
end ghost_Order
namespace twainref37_Order
noncomputable def sh (C : Am.Callee) (L : Loops) (n0 : Nat) (t0 t1 : Value) (s : AS) : Option (Value × List Blk × Option Nat) :=
(aBox y1 t1 s).bind fun r1 =>
(aBox t_int ((zeroP PP t_int).getD unk) r1.2).bind fun r2 =>
(q43 1 r2.2 r2.1 (.int .i64 20000)).bind fun s3 =>
(aLoad true 16 s3 r1.1).bind fun x4 =>
(C q77 [t0, .slice none 0 0, x4, r2.1] s3.H).bind fun r5 =>
(y12 PP (Instr.extract r5.1 0)).bind fun x6 =>
(y12 PP (Instr.extract r5.1 1)).bind fun x7 =>
bcase x7 (
fin PP false n0 [x6, x7, .bool true] (AS.mk r5.2.1 (y8 s3.esc r5.2.2))) (
(aLoad false 1 (AS.mk r5.2.1 (y8 s3.esc r5.2.2)) r2.1).bind fun x8 =>
(aBin PP .gtr t_int (.tmp 20) (.const (.int .i64 0)) x8 (.int .i64 0)).bind fun x9 =>
fin PP false n0 [x6, x7, x9] (AS.mk r5.2.1 (y8 s3.esc r5.2.2)))
def T : Tab := ⟨fun i => none, fun i => none, false, fun i => none, fun _ => false, false, false, fun _ => false⟩
end twainref37_Order
namespace history_paired
noncomputable def j1 (C : Am.Callee) (L : Loops) (n0 : Nat) (t2 t3 t4 t5 t7 t13 t14 t15 : Value) (s : AS) : Option (AEx × List Value × AS) :=
(aUn PP .not t7).bind fun x28 =>
bcase x28 (
(y3 PP q11 t3 0).bind fun x29 =>
(aLoad false 1 s x29).bind fun x30 =>
(aLoad true 8 s t5).bind fun x31 =>
(C y152 [x31] s.H).bind fun r32 =>
if ((((aLoad false 1 (AS.mk r32.2.1 (y8 s.esc r32.2.2)) x29).bind fun x34 =>
some (veq x34 x30)) == some true) && true) = true then
(y75 PP q48 x30 r32.1 t4 (AS.mk r32.2.1 (y8 s.esc r32.2.2))).bind fun s33 =>
some (AEx.normal, [t2, t3, t13, t14, t15], s33)
else none) (
some (AEx.normal, [t2, t3, t13, t14, t15], s))
noncomputable def j3 (C : Am.Callee) (L : Loops) (n0 : Nat) (t2 t3 t4 t6 t13 t14 t15 t68 : Value) (s : AS) : Option (AEx × List Value × AS) :=
bcase t68 (
(y3 PP q11 t3 1).bind fun x53 =>
(aLoad false 1 s x53).bind fun x54 =>
(y75 PP q93 x54 t6 t4 s).bind fun s55 =>
some (AEx.normal, [t2, t3, t13, t14, t15], s55)) (
some (AEx.normal, [t2, t3, t13, t14, t15], s))
noncomputable def j2 (C : Am.Callee) (L : Loops) (n0 : Nat) (t2 t3 t4 t6 t7 t9 t13 t14 t15 : Value) (s : AS) : Option (AEx × List Value × AS) :=
(bcase t7 (
(aUn PP .not t9).bind fun x51 =>
some (AEx.normal, [t2, t3, t4, t6, t13, t14, t15, x51], s)) (
some (AEx.normal, [t2, t3, t4, t6, t13, t14, t15, .bool false], s))).bind fun r52 =>
match r52.1 with
| .normal => j3 C L n0 ((r52.2.1.getD 0 unk)) ((r52.2.1.getD 1 unk)) ((r52.2.1.getD 2 unk)) ((r52.2.1.getD 3 unk)) ((r52.2.1.getD 4 unk)) ((r52.2.1.getD 5 unk)) ((r52.2.1.getD 6 unk)) ((r52.2.1.getD 7 unk)) r52.2.2
| .exit i => if i = 2 then some (AEx.normal, [(r52.2.1.getD 0 unk), (r52.2.1.getD 1 unk), (r52.2.1.getD 4 unk), (r52.2.1.getD 5 unk), (r52.2.1.getD 6 unk)], r52.2.2) else if i = 1 then some (AEx.normal, [(r52.2.1.getD 0 unk), (r52.2.1.getD 1 unk), (r52.2.1.getD 4 unk), (r52.2.1.getD 5 unk), (r52.2.1.getD 6 unk)], r52.2.2) else some (AEx.exit i, [(r52.2.1.getD 0 unk), (r52.2.1.getD 1 unk), (r52.2.1.getD 4 unk), (r52.2.1.getD 5 unk), (r52.2.1.getD 6 unk)], r52.2.2)
| .ret => some (AEx.ret, [(r52.2.1.getD 0 unk), (r52.2.1.getD 1 unk), (r52.2.1.getD 4 unk), (r52.2.1.getD 5 unk), (r52.2.1.getD 6 unk)], r52.2.2)
noncomputable def j4 (C : Am.Callee) (L : Loops) (n0 : Nat) (t2 t3 t13 t14 t15 : Value) (s : AS) : Option ((List Value × AS) ⊕ (AEx × List Value × AS)) :=
(aBin PP .add t_int (.tmp 15) (.const (.int .i64 1)) t15 (.int .i64 1)).bind fun x58 =>
some (.inl ([t2, t3, t13, t14, x58], s))
noncomputable def loop3 (C : Am.Callee) (L : Loops) (n0 : Nat) (t2 t3 t13 t14 t15 : Value) (s : AS) : Option ((List Value × AS) ⊕ (AEx × List Value × AS)) :=
(aBin PP .lss t_int (.tmp 15) (.tmp 14) t15 t14).bind fun x6 =>
bcase x6 (
((q15 PP q25 t13 t15).bind fun x7 =>
(aLoad true 8 s x7).bind fun x8 =>
(aBox q10 ((zeroP PP q10).getD unk) s).bind fun r9 =>
(q43 8 r9.2 r9.1 x8).bind fun s10 =>
(y3 PP q11 t3 0).bind fun x11 =>
(aLoad false 1 s10 x11).bind fun x12 =>
(aLoad true 8 s10 r9.1).bind fun x13 =>
(C y152 [x13] s10.H).bind fun r14 =>
if ((((aLoad false 1 (AS.mk r14.2.1 (y8 s10.esc r14.2.2)) x11).bind fun x56 =>
some (veq x56 x12)) == some true) && true) = true then
(q147 PP q48 x12 r14.1 true (AS.mk r14.2.1 (y8 s10.esc r14.2.2))).bind fun x15 =>
(y12 PP (Instr.extract x15 0)).bind fun x16 =>
(y12 PP (Instr.extract x15 1)).bind fun x17 =>
(y3 PP q10 r9.1 0).bind fun x18 =>
(aLoad false 1 (AS.mk r14.2.1 (y8 s10.esc r14.2.2)) x18).bind fun x19 =>
(aBin PP .eql t_int (.tmp 29) (.const (.int .i64 0)) x19 (.int .i64 0)).bind fun x20 =>
bcase x20 (
((y3 PP q11 t3 2).bind fun x21 =>
(aLoad false 1 (AS.mk r14.2.1 (y8 s10.esc r14.2.2)) x21).bind fun x22 =>
bcase x22 (
(y3 PP q11 t3 2).bind fun x23 =>
(q43 1 (AS.mk r14.2.1 (y8 s10.esc r14.2.2)) x23 (.bool true)).bind fun s24 =>
some (AEx.normal, [t2, t3, t15, r9.1, x17, t13, t14, t15], s24)) (
(y3 PP q11 t3 2).bind fun x25 =>
(q43 1 (AS.mk r14.2.1 (y8 s10.esc r14.2.2)) x25 x17).bind fun s26 =>
some (AEx.normal, [t2, t3, t15, r9.1, x17, t13, t14, t15], s26))).bind fun r27 =>
match r27.1 with
| .normal => j1 C L n0 ((r27.2.1.getD 0 unk)) ((r27.2.1.getD 1 unk)) ((r27.2.1.getD 2 unk)) ((r27.2.1.getD 3 unk)) ((r27.2.1.getD 4 unk)) ((r27.2.1.getD 5 unk)) ((r27.2.1.getD 6 unk)) ((r27.2.1.getD 7 unk)) r27.2.2
| .exit i => if i = 2 then some (AEx.normal, [(r27.2.1.getD 0 unk), (r27.2.1.getD 1 unk), (r27.2.1.getD 5 unk), (r27.2.1.getD 6 unk), (r27.2.1.getD 7 unk)], r27.2.2) else if i = 1 then some (AEx.normal, [(r27.2.1.getD 0 unk), (r27.2.1.getD 1 unk), (r27.2.1.getD 5 unk), (r27.2.1.getD 6 unk), (r27.2.1.getD 7 unk)], r27.2.2) else some (AEx.exit i, [(r27.2.1.getD 0 unk), (r27.2.1.getD 1 unk), (r27.2.1.getD 5 unk), (r27.2.1.getD 6 unk), (r27.2.1.getD 7 unk)], r27.2.2)
| .ret => some (AEx.ret, [(r27.2.1.getD 0 unk), (r27.2.1.getD 1 unk), (r27.2.1.getD 5 unk), (r27.2.1.getD 6 unk), (r27.2.1.getD 7 unk)], r27.2.2)) (
(aBin PP .eql t_int (.tmp 29) (.const (.int .i64 1)) x19 (.int .i64 1)).bind fun x35 =>
bcase x35 (
(y3 PP q11 t3 1).bind fun x36 =>
(aLoad false 1 (AS.mk r14.2.1 (y8 s10.esc r14.2.2)) x36).bind fun x37 =>
(q147 PP q93 x37 x16 true (AS.mk r14.2.1 (y8 s10.esc r14.2.2))).bind fun x38 =>
(y12 PP (Instr.extract x38 0)).bind fun x39 =>
(y12 PP (Instr.extract x38 1)).bind fun x40 =>
((y3 PP q11 t3 2).bind fun x41 =>
(aLoad false 1 (AS.mk r14.2.1 (y8 s10.esc r14.2.2)) x41).bind fun x42 =>
bcase x42 (
(y3 PP q11 t3 2).bind fun x43 =>
(q43 1 (AS.mk r14.2.1 (y8 s10.esc r14.2.2)) x43 (.bool true)).bind fun s44 =>
some (AEx.normal, [t2, t3, t15, x16, x17, x40, t13, t14, t15], s44)) (
(aUn PP .not x17).bind fun x45 =>
bcase x45 (
(y3 PP q11 t3 2).bind fun x46 =>
(q43 1 (AS.mk r14.2.1 (y8 s10.esc r14.2.2)) x46 (.bool true)).bind fun s47 =>
some (AEx.normal, [t2, t3, t15, x16, x17, x40, t13, t14, t15], s47)) (
(y3 PP q11 t3 2).bind fun x48 =>
(q43 1 (AS.mk r14.2.1 (y8 s10.esc r14.2.2)) x48 x40).bind fun s49 =>
some (AEx.normal, [t2, t3, t15, x16, x17, x40, t13, t14, t15], s49)))).bind fun r50 =>
match r50.1 with
| .normal => j2 C L n0 ((r50.2.1.getD 0 unk)) ((r50.2.1.getD 1 unk)) ((r50.2.1.getD 2 unk)) ((r50.2.1.getD 3 unk)) ((r50.2.1.getD 4 unk)) ((r50.2.1.getD 5 unk)) ((r50.2.1.getD 6 unk)) ((r50.2.1.getD 7 unk)) ((r50.2.1.getD 8 unk)) r50.2.2
| .exit i => if i = 2 then some (AEx.normal, [(r50.2.1.getD 0 unk), (r50.2.1.getD 1 unk), (r50.2.1.getD 6 unk), (r50.2.1.getD 7 unk), (r50.2.1.getD 8 unk)], r50.2.2) else if i = 1 then some (AEx.normal, [(r50.2.1.getD 0 unk), (r50.2.1.getD 1 unk), (r50.2.1.getD 6 unk), (r50.2.1.getD 7 unk), (r50.2.1.getD 8 unk)], r50.2.2) else some (AEx.exit i, [(r50.2.1.getD 0 unk), (r50.2.1.getD 1 unk), (r50.2.1.getD 6 unk), (r50.2.1.getD 7 unk), (r50.2.1.getD 8 unk)], r50.2.2)
| .ret => some (AEx.ret, [(r50.2.1.getD 0 unk), (r50.2.1.getD 1 unk), (r50.2.1.getD 6 unk), (r50.2.1.getD 7 unk), (r50.2.1.getD 8 unk)], r50.2.2)) (
some (AEx.normal, [t2, t3, t13, t14, t15], AS.mk r14.2.1 (y8 s10.esc r14.2.2))))
else none).bind fun r57 =>
match r57.1 with
| .normal => j4 C L n0 ((r57.2.1.getD 0 unk)) ((r57.2.1.getD 1 unk)) ((r57.2.1.getD 2 unk)) ((r57.2.1.getD 3 unk)) ((r57.2.1.getD 4 unk)) r57.2.2
| .exit i => some (.inr (.exit i, [(r57.2.1.getD 0 unk), (r57.2.1.getD 1 unk)], r57.2.2))
| .ret => some (.inr (.ret, [(r57.2.1.getD 0 unk), (r57.2.1.getD 1 unk)], r57.2.2))) (
some (.inr (.exit 0, [t2, t3], s)))
noncomputable def loop3s (C : Am.Callee) (L : Loops) (n0 : Nat) : List Value × AS → Option ((List Value × AS) ⊕ (AEx × List Value × AS)) := fun s => loop3 C L n0 (s.1.getD 0 unk) (s.1.getD 1 unk) (s.1.getD 2 unk) (s.1.getD 3 unk) (s.1.getD 4 unk) s.2
noncomputable def j6 (C : Am.Callee) (L : Loops) (n0 : Nat) (t2 t3 : Value) (s : AS) : Option (Value × List Blk × Option Nat) :=
(aLoad true 3 s t3).bind fun x61 =>
(q43 3 s t2 x61).bind fun s62 =>
((aLoad true 3 s62 t2).bind fun x64 => (some []).bind fun y65 => some (x64 :: y65)).bind fun z63 => fin PP false n0 z63 s62
noncomputable def sh (C : Am.Callee) (L : Loops) (n0 : Nat) (t0 : Value) (s : AS) : Option (Value × List Blk × Option Nat) :=
(aBox q11 ((zeroP PP q11).getD unk) s).bind fun r1 =>
(q89 PP q11 [(0, .map (some r1.2.H.length)), (1, .map (some (q79 r1.2 (.map [] 0)).H.length))]).bind fun x2 =>
(aBox q11 ((zeroP PP q11).getD unk) (q79 (q79 r1.2 (.map [] 0)) (.map [] 0))).bind fun r3 =>
(q43 3 r3.2 r3.1 x2).bind fun s4 =>
((aLen PP q25 t0 s4).bind fun x5 =>
(L n0 (loop3s C L n0) ([r1.1, r3.1, t0, x5, .int .i64 0], s4)).bind fun r59 =>
match r59.1 with
| .normal => some (AEx.normal, [(r59.2.1.getD 0 unk), (r59.2.1.getD 1 unk)], r59.2.2)
| .exit i => if i = 0 then some (AEx.normal, [(r59.2.1.getD 0 unk), (r59.2.1.getD 1 unk)], r59.2.2) else some (AEx.exit i, [(r59.2.1.getD 0 unk), (r59.2.1.getD 1 unk)], r59.2.2)
| .ret => some (AEx.ret, [(r59.2.1.getD 0 unk), (r59.2.1.getD 1 unk)], r59.2.2)).bind fun r60 =>
match r60.1 with
| .normal => j6 C L n0 ((r60.2.1.getD 0 unk)) ((r60.2.1.getD 1 unk)) r60.2.2
| .exit i => none
| .ret => ((aLoad true 3 r60.2.2 ((r60.2.1.getD 0 unk))).bind fun x67 => (some []).bind fun y68 => some (x67 :: y68)).bind fun z66 => fin PP false n0 z66 r60.2.2
def T : Tab := ⟨fun i => if i = 3 then some [2, 3, 13, 14, 15] else none, fun i => if i = 3 then some [2, 3] else none, false, fun i => if i = 9 then some [2, 3, 4, 5, 7, 13, 14, 15] else if i = 14 then some [2, 3, 4, 6, 7, 9, 13, 14, 15] else if i = 15 then some [2, 3, 4, 6, 13, 14, 15, 68] else if i = 16 then some [2, 3, 13, 14, 15] else if i = 17 then some [2, 3] else none, fun _ => false, false, false, fun _ => false⟩
end history_paired
namespace span_Overlap
noncomputable def sh (C : Am.Callee) (L : Loops) (n0 : Nat) (t0 t1 : Value) (s : AS) : Option (Value × List Blk × Option Nat) :=
(aBox y15 t0 s).bind fun r1 =>
(aBox y15 t1 r1.2).bind fun r2 =>
(aLoad true 2 r2.2 r1.1).bind fun x3 =>
(aLoad true 2 r2.2 r2.1).bind fun x4 =>
(C y188 [x3, x4] r2.2.H).bind fun r5 =>
(y12 PP (Instr.extract r5.1 0)).bind fun x6 =>
(y12 PP (Instr.extract r5.1 1)).bind fun x7 =>
(aBox y15 ((zeroP PP y15).getD unk) (AS.mk r5.2.1 (y8 r2.2.esc r5.2.2))).bind fun r8 =>
(q43 2 r8.2 r8.1 x6).bind fun s9 =>
fin PP false n0 [x7] s9
def T : Tab := ⟨fun i => none, fun i => none, false, fun i => none, fun _ => false, false, false, fun _ => false⟩
end span_Overlap
namespace history_pairs_to
noncomputable def sh (C : Am.Callee) (L : Loops) (n0 : Nat) (t0 t1 : Value) (s : AS) : Option (Value × List Blk × Option Nat) :=
(aBox q11 t0 s).bind fun r1 =>
(y3 PP q11 r1.1 1).bind fun x2 =>
(aLoad false 1 r1.2 x2).bind fun x3 =>
(q147 PP q93 x3 t1 true r1.2).bind fun x4 =>
(y12 PP (Instr.extract x4 0)).bind fun x5 =>
(y12 PP (Instr.extract x4 1)).bind fun x6 =>
bcase x6 (
fin PP false n0 [x5] r1.2) (
fin PP false n0 [.int .i64 (-1)] r1.2)
def T : Tab := ⟨fun i => none, fun i => none, false, fun i => none, fun _ => false, false, false, fun _ => false⟩
end history_pairs_to
namespace history_cut
noncomputable def j0 (C : Am.Callee) (L : Loops) (n0 : Nat) (t0 t4 t5 t6 t17 : Value) (s : AS) : Option (AEx × List Value × AS) :=
bcase t17 (
(q196 PP y1 t5 none none none s).bind fun x9 =>
(q196 PP y48 t0 (some t6) none none s).bind fun x10 =>
y16 PP .copy #[y48, y48] [x9, x10] s fun x11 s12 =>
some (AEx.normal, [t4, t5], s12)) (
some (AEx.normal, [t4, t5], s))
noncomputable def j1 (C : Am.Callee) (L : Loops) (n0 : Nat) (t4 t5 : Value) (s : AS) : Option (Value × List Blk × Option Nat) :=
(aLoad true 16 s t5).bind fun x14 =>
(q43 16 s t4 x14).bind fun s15 =>
((aLoad true 16 s15 t4).bind fun x17 => (some []).bind fun y18 => some (x17 :: y18)).bind fun z16 => fin PP false n0 z16 s15
noncomputable def sh (C : Am.Callee) (L : Loops) (n0 : Nat) (t0 t1 : Value) (s : AS) : Option (Value × List Blk × Option Nat) :=
(aBox y1 ((zeroP PP y1).getD unk) s).bind fun r1 =>
(aBox y1 ((zeroP PP y1).getD unk) r1.2).bind fun r2 =>
((aBin PP .mul t_int (.tmp 7) (.const (.int .i64 16)) t1 (.int .i64 16)).bind fun x3 =>
((aBin PP .geq t_int (.tmp 9) (.const (.int .i64 0)) x3 (.int .i64 0)).bind fun x4 =>
bcase x4 (
(aBin PP .add t_int (.tmp 12) (.const (.int .i64 16)) x3 (.int .i64 16)).bind fun x5 =>
(aLen PP y48 t0 r2.2).bind fun x6 =>
(aBin PP .leq t_int (.tmp 13) (.tmp 15) x5 x6).bind fun x7 =>
some (AEx.normal, [t0, r1.1, r2.1, x3, x7], r2.2)) (
some (AEx.normal, [t0, r1.1, r2.1, x3, .bool false], r2.2))).bind fun r8 =>
match r8.1 with
| .normal => j0 C L n0 ((r8.2.1.getD 0 unk)) ((r8.2.1.getD 1 unk)) ((r8.2.1.getD 2 unk)) ((r8.2.1.getD 3 unk)) ((r8.2.1.getD 4 unk)) r8.2.2
| .exit i => some (AEx.exit i, [(r8.2.1.getD 1 unk), (r8.2.1.getD 2 unk)], r8.2.2)
| .ret => some (AEx.ret, [(r8.2.1.getD 1 unk), (r8.2.1.getD 2 unk)], r8.2.2)).bind fun r13 =>
match r13.1 with
| .normal => j1 C L n0 ((r13.2.1.getD 0 unk)) ((r13.2.1.getD 1 unk)) r13.2.2
| .exit i => none
| .ret => ((aLoad true 16 r13.2.2 ((r13.2.1.getD 0 unk))).bind fun x20 => (some []).bind fun y21 => some (x20 :: y21)).bind fun z19 => fin PP false n0 z19 r13.2.2
def T : Tab := ⟨fun i => none, fun i => none, false, fun i => if i = 4 then some [0, 4, 5, 6, 17] else if i = 5 then some [4, 5] else none, fun _ => false, false, false, fun _ => false⟩
end history_cut
namespace twainref04_Overlap
noncomputable def sh (C : Am.Callee) (L : Loops) (n0 : Nat) (t0 t1 : Value) (s : AS) : Option (Value × List Blk × Option Nat) :=
(aBox y15 t0 s).bind fun r1 =>
(aBox y15 t1 r1.2).bind fun r2 =>
(aLoad true 2 r2.2 r1.1).bind fun x3 =>
(aLoad true 2 r2.2 r2.1).bind fun x4 =>
(C y119 [x3, x4] r2.2.H).bind fun r5 =>
(y12 PP (Instr.extract r5.1 0)).bind fun x6 =>
(y12 PP (Instr.extract r5.1 1)).bind fun x7 =>
(aBox y15 ((zeroP PP y15).getD unk) (AS.mk r5.2.1 (y8 r2.2.esc r5.2.2))).bind fun r8 =>
(q43 2 r8.2 r8.1 x6).bind fun s9 =>
fin PP false n0 [x7] s9
def T : Tab := ⟨fun i => none, fun i => none, false, fun i => none, fun _ => false, false, false, fun _ => false⟩
end twainref04_Overlap
namespace twainref36_ended
noncomputable def j1 (C : Am.Callee) (L : Loops) (n0 : Nat) (t0 t1 t5 t26 : Value) (s : AS) : Option (AEx × List Value × AS) :=
bcase t26 (
some (AEx.ret, [t0, t1, t5, t5], s)) (
some (AEx.normal, [t0, t1, unk, t5], s))
noncomputable def j2 (C : Am.Callee) (L : Loops) (n0 : Nat) (t0 t1 t5 : Value) (s : AS) : Option ((List Value × AS) ⊕ (AEx × List Value × AS)) :=
(aBin PP .add t_int (.tmp 12) (.const (.int .i64 1)) t5 (.int .i64 1)).bind fun x12 =>
some (.inl ([t0, t1, x12], s))
noncomputable def loop2 (C : Am.Callee) (L : Loops) (n0 : Nat) (t0 t1 t5 : Value) (s : AS) : Option ((List Value × AS) ⊕ (AEx × List Value × AS)) :=
(aLen PP q13 t0 s).bind fun x2 =>
(aBin PP .lss t_int (.tmp 8) (.tmp 10) t5 x2).bind fun x3 =>
bcase x3 (
(((q15 PP q13 t0 t5).bind fun x4 =>
(y3 PP y5 x4 0).bind fun x5 =>
(aLoad false 1 s x5).bind fun x6 =>
(aBin PP .eql t_int (.tmp 18) (.const (.int .i64 1)) x6 (.int .i64 1)).bind fun x7 =>
bcase x7 (
(C y83 [t0, t5] s.H).bind fun r8 =>
(aBin PP .eql t_int (.tmp 23) (.tmp 24) r8.1 t1).bind fun x9 =>
some (AEx.normal, [t0, t1, t5, x9], AS.mk r8.2.1 (y8 s.esc r8.2.2))) (
some (AEx.normal, [t0, t1, t5, .bool false], s))).bind fun r10 =>
match r10.1 with
| .normal => j1 C L n0 ((r10.2.1.getD 0 unk)) ((r10.2.1.getD 1 unk)) ((r10.2.1.getD 2 unk)) ((r10.2.1.getD 3 unk)) r10.2.2
| .exit i => if i = 1 then some (AEx.normal, [(r10.2.1.getD 0 unk), (r10.2.1.getD 1 unk), unk, (r10.2.1.getD 2 unk)], r10.2.2) else some (AEx.exit i, [(r10.2.1.getD 0 unk), (r10.2.1.getD 1 unk), unk, (r10.2.1.getD 2 unk)], r10.2.2)
| .ret => some (AEx.ret, [(r10.2.1.getD 0 unk), (r10.2.1.getD 1 unk), unk, (r10.2.1.getD 2 unk)], r10.2.2)).bind fun r11 =>
match r11.1 with
| .normal => j2 C L n0 ((r11.2.1.getD 0 unk)) ((r11.2.1.getD 1 unk)) ((r11.2.1.getD 3 unk)) r11.2.2
| .exit i => some (.inr (.exit i, [(r11.2.1.getD 2 unk)], r11.2.2))
| .ret => some (.inr (.ret, [(r11.2.1.getD 2 unk)], r11.2.2))) (
some (.inr (.exit 0, [unk], s)))
noncomputable def loop2s (C : Am.Callee) (L : Loops) (n0 : Nat) : List Value × AS → Option ((List Value × AS) ⊕ (AEx × List Value × AS)) := fun s => loop2 C L n0 (s.1.getD 0 unk) (s.1.getD 1 unk) (s.1.getD 2 unk) s.2
noncomputable def j4 (C : Am.Callee) (L : Loops) (n0 : Nat) (s : AS) : Option (Value × List Blk × Option Nat) :=
fin PP false n0 [.int .i64 (-1)] s
noncomputable def sh (C : Am.Callee) (L : Loops) (n0 : Nat) (t0 t1 : Value) (s : AS) : Option (Value × List Blk × Option Nat) :=
((aBin PP .add t_int (.tmp 6) (.const (.int .i64 1)) t1 (.int .i64 1)).bind fun x1 =>
(L n0 (loop2s C L n0) ([t0, t1, x1], s)).bind fun r13 =>
match r13.1 with
| .normal => some (AEx.normal, [(r13.2.1.getD 0 unk)], r13.2.2)
| .exit i => if i = 0 then some (AEx.normal, [(r13.2.1.getD 0 unk)], r13.2.2) else some (AEx.exit i, [(r13.2.1.getD 0 unk)], r13.2.2)
| .ret => some (AEx.ret, [(r13.2.1.getD 0 unk)], r13.2.2)).bind fun r14 =>
match r14.1 with
| .normal => j4 C L n0  r14.2.2
| .exit i => none
| .ret => fin PP false n0 [(r14.2.1.getD 0 unk)] r14.2.2
def T : Tab := ⟨fun i => if i = 2 then some [0, 1, 5] else none, fun i => if i = 2 then some [4] else none, false, fun i => if i = 3 then some [0, 1, 4, 5] else if i = 5 then some [0, 1, 5, 26] else if i = 6 then some [4] else none, fun _ => false, false, false, fun _ => false⟩
end twainref36_ended
namespace twainref36_sector
noncomputable def j0 (C : Am.Callee) (L : Loops) (n0 : Nat) (t0 t1 t4 t5 t16 : Value) (s : AS) : Option (AEx × List Value × AS) :=
bcase t16 (
(aLoad true 16 s t5).bind fun x9 =>
(q43 16 s t4 x9).bind fun s10 =>
some (AEx.ret, [t0, t1, t4, t5], s10)) (
some (AEx.normal, [t0, t1, t4, t5], s))
noncomputable def loop5 (C : Am.Callee) (L : Loops) (n0 : Nat) (t0 t1 t4 t5 t18 : Value) (s : AS) : Option ((List Value × AS) ⊕ (AEx × List Value × AS)) :=
(aBin PP .lss t_int (.tmp 18) (.const (.int .i64 16)) t18 (.int .i64 16)).bind fun x12 =>
bcase x12 (
(aBin PP .mul t_int (.const (.int .i64 16)) (.tmp 23) (.int .i64 16) t1).bind fun x13 =>
(aBin PP .add t_int (.tmp 24) (.tmp 25) x13 t18).bind fun x14 =>
(q15 PP y48 t0 x14).bind fun x15 =>
(aLoad false 1 s x15).bind fun x16 =>
(q15 PP y1 t5 t18).bind fun x17 =>
(q43 1 s x17 x16).bind fun s18 =>
(aBin PP .add t_int (.tmp 18) (.const (.int .i64 1)) t18 (.int .i64 1)).bind fun x19 =>
some (.inl ([t0, t1, t4, t5, x19], s18))) (
some (.inr (.exit 0, [t4, t5], s)))
noncomputable def loop5s (C : Am.Callee) (L : Loops) (n0 : Nat) : List Value × AS → Option ((List Value × AS) ⊕ (AEx × List Value × AS)) := fun s => loop5 C L n0 (s.1.getD 0 unk) (s.1.getD 1 unk) (s.1.getD 2 unk) (s.1.getD 3 unk) (s.1.getD 4 unk) s.2
noncomputable def j4 (C : Am.Callee) (L : Loops) (n0 : Nat) (t4 t5 : Value) (s : AS) : Option (Value × List Blk × Option Nat) :=
(aLoad true 16 s t5).bind fun x22 =>
(q43 16 s t4 x22).bind fun s23 =>
((aLoad true 16 s23 t4).bind fun x25 => (some []).bind fun y26 => some (x25 :: y26)).bind fun z24 => fin PP false n0 z24 s23
noncomputable def j1 (C : Am.Callee) (L : Loops) (n0 : Nat) (t0 t1 t4 t5 : Value) (s : AS) : Option (Value × List Blk × Option Nat) :=
((L n0 (loop5s C L n0) ([t0, t1, t4, t5, .int .i64 0], s)).bind fun r20 =>
match r20.1 with
| .normal => some (AEx.normal, [(r20.2.1.getD 0 unk), (r20.2.1.getD 1 unk)], r20.2.2)
| .exit i => if i = 0 then some (AEx.normal, [(r20.2.1.getD 0 unk), (r20.2.1.getD 1 unk)], r20.2.2) else some (AEx.exit i, [(r20.2.1.getD 0 unk), (r20.2.1.getD 1 unk)], r20.2.2)
| .ret => some (AEx.ret, [(r20.2.1.getD 0 unk), (r20.2.1.getD 1 unk)], r20.2.2)).bind fun r21 =>
match r21.1 with
| .normal => j4 C L n0 ((r21.2.1.getD 0 unk)) ((r21.2.1.getD 1 unk)) r21.2.2
| .exit i => none
| .ret => ((aLoad true 16 r21.2.2 ((r21.2.1.getD 0 unk))).bind fun x28 => (some []).bind fun y29 => some (x28 :: y29)).bind fun z27 => fin PP false n0 z27 r21.2.2
noncomputable def sh (C : Am.Callee) (L : Loops) (n0 : Nat) (t0 t1 : Value) (s : AS) : Option (Value × List Blk × Option Nat) :=
(aBox y1 ((zeroP PP y1).getD unk) s).bind fun r1 =>
(aBox y1 ((zeroP PP y1).getD unk) r1.2).bind fun r2 =>
(((aBin PP .lss t_int (.tmp 7) (.const (.int .i64 0)) t1 (.int .i64 0)).bind fun x3 =>
bcase x3 (
some (AEx.normal, [t0, t1, r1.1, r2.1, .bool true], r2.2)) (
(aLen PP y48 t0 r2.2).bind fun x4 =>
(aBin PP .add t_int (.tmp 12) (.const (.int .i64 1)) t1 (.int .i64 1)).bind fun x5 =>
(aBin PP .mul t_int (.const (.int .i64 16)) (.tmp 13) (.int .i64 16) x5).bind fun x6 =>
(aBin PP .lss t_int (.tmp 11) (.tmp 14) x4 x6).bind fun x7 =>
some (AEx.normal, [t0, t1, r1.1, r2.1, x7], r2.2))).bind fun r8 =>
match r8.1 with
| .normal => j0 C L n0 ((r8.2.1.getD 0 unk)) ((r8.2.1.getD 1 unk)) ((r8.2.1.getD 2 unk)) ((r8.2.1.getD 3 unk)) ((r8.2.1.getD 4 unk)) r8.2.2
| .exit i => some (AEx.exit i, [(r8.2.1.getD 0 unk), (r8.2.1.getD 1 unk), (r8.2.1.getD 2 unk), (r8.2.1.getD 3 unk)], r8.2.2)
| .ret => some (AEx.ret, [(r8.2.1.getD 0 unk), (r8.2.1.getD 1 unk), (r8.2.1.getD 2 unk), (r8.2.1.getD 3 unk)], r8.2.2)).bind fun r11 =>
match r11.1 with
| .normal => j1 C L n0 ((r11.2.1.getD 0 unk)) ((r11.2.1.getD 1 unk)) ((r11.2.1.getD 2 unk)) ((r11.2.1.getD 3 unk)) r11.2.2
| .exit i => none
| .ret => ((aLoad true 16 r11.2.2 ((r11.2.1.getD 2 unk))).bind fun x31 => (some []).bind fun y32 => some (x31 :: y32)).bind fun z30 => fin PP false n0 z30 r11.2.2
def T : Tab := ⟨fun i => if i = 5 then some [0, 1, 4, 5, 18] else none, fun i => if i = 5 then some [4, 5] else none, false, fun i => if i = 3 then some [0, 1, 4, 5, 16] else if i = 4 then some [0, 1, 4, 5] else if i = 9 then some [4, 5] else none, fun _ => false, false, false, fun _ => false⟩
end twainref36_sector
namespace twainref36_asked
noncomputable def j1 (C : Am.Callee) (L : Loops) (n0 : Nat) (t0 t1 t5 t42 : Value) (s : AS) : Option (AEx × List Value × AS) :=
bcase t42 (
some (AEx.ret, [t0, t1, t5, t5], s)) (
some (AEx.normal, [t0, t1, unk, t5], s))
noncomputable def j2 (C : Am.Callee) (L : Loops) (n0 : Nat) (t0 t1 t5 : Value) (s : AS) : Option ((List Value × AS) ⊕ (AEx × List Value × AS)) :=
(aBin PP .add t_int (.tmp 9) (.const (.int .i64 1)) t5 (.int .i64 1)).bind fun x22 =>
some (.inl ([t0, t1, x22], s))
noncomputable def loop2 (C : Am.Callee) (L : Loops) (n0 : Nat) (t0 t1 t5 : Value) (s : AS) : Option ((List Value × AS) ⊕ (AEx × List Value × AS)) :=
(aBin PP .lss t_int (.tmp 6) (.tmp 7) t5 t1).bind fun x1 =>
bcase x1 (
(((q15 PP q13 t0 t5).bind fun x2 =>
(y3 PP y5 x2 0).bind fun x3 =>
(aLoad false 1 s x3).bind fun x4 =>
(aBin PP .eql t_int (.tmp 15) (.const (.int .i64 0)) x4 (.int .i64 0)).bind fun x5 =>
bcase x5 (
(q15 PP q13 t0 t5).bind fun x6 =>
(y3 PP y5 x6 1).bind fun x7 =>
(aLoad false 1 s x7).bind fun x8 =>
(q15 PP q13 t0 t1).bind fun x9 =>
(y3 PP y5 x9 1).bind fun x10 =>
(aLoad false 1 s x10).bind fun x11 =>
(aBin PP .eql t_int (.tmp 22) (.tmp 27) x8 x11).bind fun x12 =>
bcase x12 (
(q15 PP q13 t0 t5).bind fun x13 =>
(y3 PP y5 x13 2).bind fun x14 =>
(aLoad false 1 s x14).bind fun x15 =>
(q15 PP q13 t0 t1).bind fun x16 =>
(y3 PP y5 x16 2).bind fun x17 =>
(aLoad false 1 s x17).bind fun x18 =>
(aBin PP .eql t_int (.tmp 35) (.tmp 40) x15 x18).bind fun x19 =>
some (AEx.normal, [t0, t1, t5, x19], s)) (
some (AEx.normal, [t0, t1, t5, .bool false], s))) (
some (AEx.normal, [t0, t1, t5, .bool false], s))).bind fun r20 =>
match r20.1 with
| .normal => j1 C L n0 ((r20.2.1.getD 0 unk)) ((r20.2.1.getD 1 unk)) ((r20.2.1.getD 2 unk)) ((r20.2.1.getD 3 unk)) r20.2.2
| .exit i => if i = 1 then some (AEx.normal, [(r20.2.1.getD 0 unk), (r20.2.1.getD 1 unk), unk, (r20.2.1.getD 2 unk)], r20.2.2) else some (AEx.exit i, [(r20.2.1.getD 0 unk), (r20.2.1.getD 1 unk), unk, (r20.2.1.getD 2 unk)], r20.2.2)
| .ret => some (AEx.ret, [(r20.2.1.getD 0 unk), (r20.2.1.getD 1 unk), unk, (r20.2.1.getD 2 unk)], r20.2.2)).bind fun r21 =>
match r21.1 with
| .normal => j2 C L n0 ((r21.2.1.getD 0 unk)) ((r21.2.1.getD 1 unk)) ((r21.2.1.getD 3 unk)) r21.2.2
| .exit i => some (.inr (.exit i, [(r21.2.1.getD 2 unk)], r21.2.2))
| .ret => some (.inr (.ret, [(r21.2.1.getD 2 unk)], r21.2.2))) (
some (.inr (.exit 0, [unk], s)))
noncomputable def loop2s (C : Am.Callee) (L : Loops) (n0 : Nat) : List Value × AS → Option ((List Value × AS) ⊕ (AEx × List Value × AS)) := fun s => loop2 C L n0 (s.1.getD 0 unk) (s.1.getD 1 unk) (s.1.getD 2 unk) s.2
noncomputable def j4 (C : Am.Callee) (L : Loops) (n0 : Nat) (s : AS) : Option (Value × List Blk × Option Nat) :=
fin PP false n0 [.int .i64 (-1)] s
noncomputable def sh (C : Am.Callee) (L : Loops) (n0 : Nat) (t0 t1 : Value) (s : AS) : Option (Value × List Blk × Option Nat) :=
((L n0 (loop2s C L n0) ([t0, t1, .int .i64 0], s)).bind fun r23 =>
match r23.1 with
| .normal => some (AEx.normal, [(r23.2.1.getD 0 unk)], r23.2.2)
| .exit i => if i = 0 then some (AEx.normal, [(r23.2.1.getD 0 unk)], r23.2.2) else some (AEx.exit i, [(r23.2.1.getD 0 unk)], r23.2.2)
| .ret => some (AEx.ret, [(r23.2.1.getD 0 unk)], r23.2.2)).bind fun r24 =>
match r24.1 with
| .normal => j4 C L n0  r24.2.2
| .exit i => none
| .ret => fin PP false n0 [(r24.2.1.getD 0 unk)] r24.2.2
def T : Tab := ⟨fun i => if i = 2 then some [0, 1, 5] else none, fun i => if i = 2 then some [4] else none, false, fun i => if i = 3 then some [0, 1, 4, 5] else if i = 5 then some [0, 1, 5, 42] else if i = 6 then some [4] else none, fun _ => false, false, false, fun _ => false⟩
end twainref36_asked
namespace twainref37_place
noncomputable def loop2 (C : Am.Callee) (L : Loops) (n0 : Nat) (t1 t7 t8 t9 : Value) (s : AS) : Option ((List Value × AS) ⊕ (AEx × List Value × AS)) :=
(aBin PP .lss t_int (.tmp 9) (.tmp 8) t9 t8).bind fun x2 =>
bcase x2 (
(q15 PP y28 t7 t9).bind fun x3 =>
(aLoad false 1 s x3).bind fun x4 =>
(aBin PP .eql t_int (.tmp 14) (.tmp 15) x4 t1).bind fun x5 =>
bcase x5 (
some (.inr (.ret, [t9], s))) (
(aBin PP .add t_int (.tmp 9) (.const (.int .i64 1)) t9 (.int .i64 1)).bind fun x6 =>
some (.inl ([t1, t7, t8, x6], s)))) (
some (.inr (.exit 0, [unk], s)))
noncomputable def loop2s (C : Am.Callee) (L : Loops) (n0 : Nat) : List Value × AS → Option ((List Value × AS) ⊕ (AEx × List Value × AS)) := fun s => loop2 C L n0 (s.1.getD 0 unk) (s.1.getD 1 unk) (s.1.getD 2 unk) (s.1.getD 3 unk) s.2
noncomputable def j2 (C : Am.Callee) (L : Loops) (n0 : Nat) (s : AS) : Option (Value × List Blk × Option Nat) :=
fin PP false n0 [.int .i64 (-1)] s
noncomputable def sh (C : Am.Callee) (L : Loops) (n0 : Nat) (t0 t1 : Value) (s : AS) : Option (Value × List Blk × Option Nat) :=
((aLen PP y28 t0 s).bind fun x1 =>
(L n0 (loop2s C L n0) ([t1, t0, x1, .int .i64 0], s)).bind fun r7 =>
match r7.1 with
| .normal => some (AEx.normal, [(r7.2.1.getD 0 unk)], r7.2.2)
| .exit i => if i = 0 then some (AEx.normal, [(r7.2.1.getD 0 unk)], r7.2.2) else some (AEx.exit i, [(r7.2.1.getD 0 unk)], r7.2.2)
| .ret => some (AEx.ret, [(r7.2.1.getD 0 unk)], r7.2.2)).bind fun r8 =>
match r8.1 with
| .normal => j2 C L n0  r8.2.2
| .exit i => none
| .ret => fin PP false n0 [(r8.2.1.getD 0 unk)] r8.2.2
def T : Tab := ⟨fun i => if i = 2 then some [1, 7, 8, 9] else none, fun i => if i = 2 then some [4] else none, false, fun i => if i = 7 then some [4] else none, fun _ => false, false, false, fun _ => false⟩
end twainref37_place
namespace twainref37_ahead
noncomputable def sh (C : Am.Callee) (L : Loops) (n0 : Nat) (t0 t1 : Value) (s : AS) : Option (Value × List Blk × Option Nat) :=
(aBox y2 t0 s).bind fun r1 =>
(aBox y2 t1 r1.2).bind fun r2 =>
(y3 PP y2 r1.1 3).bind fun x3 =>
(aLoad false 1 r2.2 x3).bind fun x4 =>
(aBin PP .geq t_int (.tmp 6) (.const (.int .i64 0)) x4 (.int .i64 0)).bind fun x5 =>
bcase x5 (
(y3 PP y2 r1.1 3).bind fun x6 =>
(aLoad false 1 r2.2 x6).bind fun x7 =>
(y3 PP y2 r2.1 2).bind fun x8 =>
(aLoad false 1 r2.2 x8).bind fun x9 =>
(aBin PP .lss t_int (.tmp 10) (.tmp 12) x7 x9).bind fun x10 =>
fin PP false n0 [x10] r2.2) (
fin PP false n0 [.bool false] r2.2)
def T : Tab := ⟨fun i => none, fun i => none, false, fun i => none, fun _ => false, false, false, fun _ => false⟩
end twainref37_ahead
namespace twainref37_must
noncomputable def sh (C : Am.Callee) (L : Loops) (n0 : Nat) (t0 : Value) (s : AS) : Option (Value × List Blk × Option Nat) :=
(aBox y2 t0 s).bind fun r1 =>
(y3 PP y2 r1.1 0).bind fun x2 =>
(aLoad false 1 r1.2 x2).bind fun x3 =>
(aUn PP .not x3).bind fun x4 =>
bcase x4 (
fin PP false n0 [.bool true] r1.2) (
(y3 PP y2 r1.1 3).bind fun x5 =>
(aLoad false 1 r1.2 x5).bind fun x6 =>
(aBin PP .geq t_int (.tmp 8) (.const (.int .i64 0)) x6 (.int .i64 0)).bind fun x7 =>
fin PP false n0 [x7] r1.2)
def T : Tab := ⟨fun i => none, fun i => none, false, fun i => none, fun _ => false, false, false, fun _ => false⟩
end twainref37_must
namespace register_begin
noncomputable def j1 (C : Am.Callee) (L : Loops) (n0 : Nat) (t0 t3 t4 t5 t13 t14 t15 t27 : Value) (s : AS) : Option (AEx × List Value × AS) :=
bcase t27 (
(aNil t3).bind fun x16 =>
(y3 PP y10 x16 1).bind fun x17 =>
(aLoad false 1 s x17).bind fun x18 =>
(aBin PP .shl y37 (.const (.int .u64 1)) (.tmp 32) (.int .u64 1) t4).bind fun x19 =>
(aBin PP .or y37 (.tmp 31) (.tmp 33) x18 x19).bind fun x20 =>
(aNil t3).bind fun x21 =>
(y3 PP y10 x21 1).bind fun x22 =>
(q43 1 s x22 x20).bind fun s23 =>
some (AEx.normal, [t0, t3, t4, t5, t13, t14, t15], s23)) (
some (AEx.normal, [t0, t3, t4, t5, t13, t14, t15], s))
noncomputable def j4 (C : Am.Callee) (L : Loops) (n0 : Nat) (t0 t3 t4 t5 t6 t7 t13 t14 t15 t37 t38 t39 t58 : Value) (s : AS) : Option (AEx × List Value × AS) :=
bcase t58 (
(aBin PP .shl y37 (.const (.int .u64 1)) (.tmp 60) (.int .u64 1) t7).bind fun x41 =>
(aBin PP .or y37 (.tmp 59) (.tmp 61) t6 x41).bind fun x42 =>
some (AEx.normal, [t0, t3, t4, t5, x42, t13, t14, t15, t37, t38, t39], s)) (
some (AEx.normal, [t0, t3, t4, t5, t6, t13, t14, t15, t37, t38, t39], s))
noncomputable def j5 (C : Am.Callee) (L : Loops) (n0 : Nat) (t0 t3 t4 t5 t6 t13 t14 t15 t37 t38 t39 : Value) (s : AS) : Option ((List Value × AS) ⊕ (AEx × List Value × AS)) :=
(aBin PP .add t_int (.tmp 39) (.const (.int .i64 1)) t39 (.int .i64 1)).bind fun x44 =>
some (.inl ([t0, t3, t4, t5, t6, t13, t14, t15, t37, t38, x44], s))
noncomputable def loop9 (C : Am.Callee) (L : Loops) (n0 : Nat) (t0 t3 t4 t5 t6 t13 t14 t15 t37 t38 t39 : Value) (s : AS) : Option ((List Value × AS) ⊕ (AEx × List Value × AS)) :=
(aBin PP .lss t_int (.tmp 39) (.tmp 38) t39 t38).bind fun x26 =>
bcase x26 (
((q15 PP y9 t37 t39).bind fun x27 =>
(aLoad true 19 s x27).bind fun x28 =>
(aBox y4 ((zeroP PP y4).getD unk) s).bind fun r29 =>
(q43 19 r29.2 r29.1 x28).bind fun s30 =>
((aBin PP .neq t_int (.tmp 44) (.tmp 45) t39 t4).bind fun x31 =>
bcase x31 (
(y3 PP y4 r29.1 3).bind fun x32 =>
(aLoad false 1 s30 x32).bind fun x33 =>
(aBin PP .geq t_int (.tmp 49) (.const (.int .i64 0)) x33 (.int .i64 0)).bind fun x34 =>
bcase x34 (
(y3 PP y4 r29.1 3).bind fun x35 =>
(aLoad false 1 s30 x35).bind fun x36 =>
(y3 PP y4 t5 2).bind fun x37 =>
(aLoad false 1 s30 x37).bind fun x38 =>
(aBin PP .lss t_int (.tmp 54) (.tmp 56) x36 x38).bind fun x39 =>
some (AEx.normal, [t0, t3, t4, t5, t6, t39, t13, t14, t15, t37, t38, t39, x39], s30)) (
some (AEx.normal, [t0, t3, t4, t5, t6, t39, t13, t14, t15, t37, t38, t39, .bool false], s30))) (
some (AEx.normal, [t0, t3, t4, t5, t6, t39, t13, t14, t15, t37, t38, t39, .bool false], s30))).bind fun r40 =>
match r40.1 with
| .normal => j4 C L n0 ((r40.2.1.getD 0 unk)) ((r40.2.1.getD 1 unk)) ((r40.2.1.getD 2 unk)) ((r40.2.1.getD 3 unk)) ((r40.2.1.getD 4 unk)) ((r40.2.1.getD 5 unk)) ((r40.2.1.getD 6 unk)) ((r40.2.1.getD 7 unk)) ((r40.2.1.getD 8 unk)) ((r40.2.1.getD 9 unk)) ((r40.2.1.getD 10 unk)) ((r40.2.1.getD 11 unk)) ((r40.2.1.getD 12 unk)) r40.2.2
| .exit i => if i = 3 then some (AEx.normal, [(r40.2.1.getD 0 unk), (r40.2.1.getD 1 unk), (r40.2.1.getD 2 unk), (r40.2.1.getD 3 unk), (r40.2.1.getD 4 unk), (r40.2.1.getD 6 unk), (r40.2.1.getD 7 unk), (r40.2.1.getD 8 unk), (r40.2.1.getD 9 unk), (r40.2.1.getD 10 unk), (r40.2.1.getD 11 unk)], r40.2.2) else some (AEx.exit i, [(r40.2.1.getD 0 unk), (r40.2.1.getD 1 unk), (r40.2.1.getD 2 unk), (r40.2.1.getD 3 unk), (r40.2.1.getD 4 unk), (r40.2.1.getD 6 unk), (r40.2.1.getD 7 unk), (r40.2.1.getD 8 unk), (r40.2.1.getD 9 unk), (r40.2.1.getD 10 unk), (r40.2.1.getD 11 unk)], r40.2.2)
| .ret => some (AEx.ret, [(r40.2.1.getD 0 unk), (r40.2.1.getD 1 unk), (r40.2.1.getD 2 unk), (r40.2.1.getD 3 unk), (r40.2.1.getD 4 unk), (r40.2.1.getD 6 unk), (r40.2.1.getD 7 unk), (r40.2.1.getD 8 unk), (r40.2.1.getD 9 unk), (r40.2.1.getD 10 unk), (r40.2.1.getD 11 unk)], r40.2.2)).bind fun r43 =>
match r43.1 with
| .normal => j5 C L n0 ((r43.2.1.getD 0 unk)) ((r43.2.1.getD 1 unk)) ((r43.2.1.getD 2 unk)) ((r43.2.1.getD 3 unk)) ((r43.2.1.getD 4 unk)) ((r43.2.1.getD 5 unk)) ((r43.2.1.getD 6 unk)) ((r43.2.1.getD 7 unk)) ((r43.2.1.getD 8 unk)) ((r43.2.1.getD 9 unk)) ((r43.2.1.getD 10 unk)) r43.2.2
| .exit i => some (.inr (.exit i, [(r43.2.1.getD 0 unk), (r43.2.1.getD 1 unk), (r43.2.1.getD 4 unk), (r43.2.1.getD 5 unk), (r43.2.1.getD 6 unk), (r43.2.1.getD 7 unk)], r43.2.2))
| .ret => some (.inr (.ret, [(r43.2.1.getD 0 unk), (r43.2.1.getD 1 unk), (r43.2.1.getD 4 unk), (r43.2.1.getD 5 unk), (r43.2.1.getD 6 unk), (r43.2.1.getD 7 unk)], r43.2.2))) (
some (.inr (.exit 2, [t0, t3, t6, t13, t14, t15], s)))
noncomputable def loop9s (C : Am.Callee) (L : Loops) (n0 : Nat) : List Value × AS → Option ((List Value × AS) ⊕ (AEx × List Value × AS)) := fun s => loop9 C L n0 (s.1.getD 0 unk) (s.1.getD 1 unk) (s.1.getD 2 unk) (s.1.getD 3 unk) (s.1.getD 4 unk) (s.1.getD 5 unk) (s.1.getD 6 unk) (s.1.getD 7 unk) (s.1.getD 8 unk) (s.1.getD 9 unk) (s.1.getD 10 unk) s.2
noncomputable def j7 (C : Am.Callee) (L : Loops) (n0 : Nat) (t0 t3 t6 t13 t14 t15 : Value) (s : AS) : Option (AEx × List Value × AS) :=
(aNil t3).bind fun x47 =>
(y3 PP y10 x47 2).bind fun x48 =>
(aLoad false 1 s x48).bind fun x49 =>
(bsl PP y132 1 [0] [t6] s).bind fun r50 =>
y16 PP .append #[y132, y132] [x49, r50.1] r50.2 fun x51 s52 =>
(aNil t3).bind fun x53 =>
(y3 PP y10 x53 2).bind fun x54 =>
(q43 1 s52 x54 x51).bind fun s55 =>
some (AEx.normal, [t0, t3, t13, t14, t15], s55)
noncomputable def j2 (C : Am.Callee) (L : Loops) (n0 : Nat) (t0 t3 t4 t5 t13 t14 t15 : Value) (s : AS) : Option (AEx × List Value × AS) :=
((aLen PP y9 t0 s).bind fun x25 =>
(L n0 (loop9s C L n0) ([t0, t3, t4, t5, .int .u64 0, t13, t14, t15, t0, x25, .int .i64 0], s)).bind fun r45 =>
match r45.1 with
| .normal => some (AEx.normal, [(r45.2.1.getD 0 unk), (r45.2.1.getD 1 unk), (r45.2.1.getD 2 unk), (r45.2.1.getD 3 unk), (r45.2.1.getD 4 unk), (r45.2.1.getD 5 unk)], r45.2.2)
| .exit i => if i = 2 then some (AEx.normal, [(r45.2.1.getD 0 unk), (r45.2.1.getD 1 unk), (r45.2.1.getD 2 unk), (r45.2.1.getD 3 unk), (r45.2.1.getD 4 unk), (r45.2.1.getD 5 unk)], r45.2.2) else some (AEx.exit i, [(r45.2.1.getD 0 unk), (r45.2.1.getD 1 unk), (r45.2.1.getD 2 unk), (r45.2.1.getD 3 unk), (r45.2.1.getD 4 unk), (r45.2.1.getD 5 unk)], r45.2.2)
| .ret => some (AEx.ret, [(r45.2.1.getD 0 unk), (r45.2.1.getD 1 unk), (r45.2.1.getD 2 unk), (r45.2.1.getD 3 unk), (r45.2.1.getD 4 unk), (r45.2.1.getD 5 unk)], r45.2.2)).bind fun r46 =>
match r46.1 with
| .normal => j7 C L n0 ((r46.2.1.getD 0 unk)) ((r46.2.1.getD 1 unk)) ((r46.2.1.getD 2 unk)) ((r46.2.1.getD 3 unk)) ((r46.2.1.getD 4 unk)) ((r46.2.1.getD 5 unk)) r46.2.2
| .exit i => if i = 1 then some (AEx.normal, [(r46.2.1.getD 0 unk), (r46.2.1.getD 1 unk), (r46.2.1.getD 3 unk), (r46.2.1.getD 4 unk), (r46.2.1.getD 5 unk)], r46.2.2) else some (AEx.exit i, [(r46.2.1.getD 0 unk), (r46.2.1.getD 1 unk), (r46.2.1.getD 3 unk), (r46.2.1.getD 4 unk), (r46.2.1.getD 5 unk)], r46.2.2)
| .ret => some (AEx.ret, [(r46.2.1.getD 0 unk), (r46.2.1.getD 1 unk), (r46.2.1.getD 3 unk), (r46.2.1.getD 4 unk), (r46.2.1.getD 5 unk)], r46.2.2)
noncomputable def j8 (C : Am.Callee) (L : Loops) (n0 : Nat) (t0 t3 t13 t14 t15 : Value) (s : AS) : Option ((List Value × AS) ⊕ (AEx × List Value × AS)) :=
(aBin PP .add t_int (.tmp 15) (.const (.int .i64 1)) t15 (.int .i64 1)).bind fun x57 =>
some (.inl ([t0, t3, t13, t14, x57], s))
noncomputable def loop3 (C : Am.Callee) (L : Loops) (n0 : Nat) (t0 t3 t13 t14 t15 : Value) (s : AS) : Option ((List Value × AS) ⊕ (AEx × List Value × AS)) :=
(aBin PP .lss t_int (.tmp 15) (.tmp 14) t15 t14).bind fun x4 =>
bcase x4 (
((q15 PP y9 t13 t15).bind fun x5 =>
(aLoad true 19 s x5).bind fun x6 =>
(aBox y4 ((zeroP PP y4).getD unk) s).bind fun r7 =>
(q43 19 r7.2 r7.1 x6).bind fun s8 =>
(((y3 PP y4 r7.1 0).bind fun x9 =>
(aLoad false 1 s8 x9).bind fun x10 =>
(aUn PP .not x10).bind fun x11 =>
bcase x11 (
some (AEx.normal, [t0, t3, t15, r7.1, t13, t14, t15, .bool true], s8)) (
(y3 PP y4 r7.1 3).bind fun x12 =>
(aLoad false 1 s8 x12).bind fun x13 =>
(aBin PP .geq t_int (.tmp 25) (.const (.int .i64 0)) x13 (.int .i64 0)).bind fun x14 =>
some (AEx.normal, [t0, t3, t15, r7.1, t13, t14, t15, x14], s8))).bind fun r15 =>
match r15.1 with
| .normal => j1 C L n0 ((r15.2.1.getD 0 unk)) ((r15.2.1.getD 1 unk)) ((r15.2.1.getD 2 unk)) ((r15.2.1.getD 3 unk)) ((r15.2.1.getD 4 unk)) ((r15.2.1.getD 5 unk)) ((r15.2.1.getD 6 unk)) ((r15.2.1.getD 7 unk)) r15.2.2
| .exit i => some (AEx.exit i, [(r15.2.1.getD 0 unk), (r15.2.1.getD 1 unk), (r15.2.1.getD 2 unk), (r15.2.1.getD 3 unk), (r15.2.1.getD 4 unk), (r15.2.1.getD 5 unk), (r15.2.1.getD 6 unk)], r15.2.2)
| .ret => some (AEx.ret, [(r15.2.1.getD 0 unk), (r15.2.1.getD 1 unk), (r15.2.1.getD 2 unk), (r15.2.1.getD 3 unk), (r15.2.1.getD 4 unk), (r15.2.1.getD 5 unk), (r15.2.1.getD 6 unk)], r15.2.2)).bind fun r24 =>
match r24.1 with
| .normal => j2 C L n0 ((r24.2.1.getD 0 unk)) ((r24.2.1.getD 1 unk)) ((r24.2.1.getD 2 unk)) ((r24.2.1.getD 3 unk)) ((r24.2.1.getD 4 unk)) ((r24.2.1.getD 5 unk)) ((r24.2.1.getD 6 unk)) r24.2.2
| .exit i => if i = 1 then some (AEx.normal, [(r24.2.1.getD 0 unk), (r24.2.1.getD 1 unk), (r24.2.1.getD 4 unk), (r24.2.1.getD 5 unk), (r24.2.1.getD 6 unk)], r24.2.2) else some (AEx.exit i, [(r24.2.1.getD 0 unk), (r24.2.1.getD 1 unk), (r24.2.1.getD 4 unk), (r24.2.1.getD 5 unk), (r24.2.1.getD 6 unk)], r24.2.2)
| .ret => some (AEx.ret, [(r24.2.1.getD 0 unk), (r24.2.1.getD 1 unk), (r24.2.1.getD 4 unk), (r24.2.1.getD 5 unk), (r24.2.1.getD 6 unk)], r24.2.2)).bind fun r56 =>
match r56.1 with
| .normal => j8 C L n0 ((r56.2.1.getD 0 unk)) ((r56.2.1.getD 1 unk)) ((r56.2.1.getD 2 unk)) ((r56.2.1.getD 3 unk)) ((r56.2.1.getD 4 unk)) r56.2.2
| .exit i => some (.inr (.exit i, [(r56.2.1.getD 1 unk)], r56.2.2))
| .ret => some (.inr (.ret, [(r56.2.1.getD 1 unk)], r56.2.2))) (
some (.inr (.exit 0, [t3], s)))
noncomputable def loop3s (C : Am.Callee) (L : Loops) (n0 : Nat) : List Value × AS → Option ((List Value × AS) ⊕ (AEx × List Value × AS)) := fun s => loop3 C L n0 (s.1.getD 0 unk) (s.1.getD 1 unk) (s.1.getD 2 unk) (s.1.getD 3 unk) (s.1.getD 4 unk) s.2
noncomputable def j10 (C : Am.Callee) (L : Loops) (n0 : Nat) (t3 : Value) (s : AS) : Option (Value × List Blk × Option Nat) :=
fin PP false n0 [t3] s
noncomputable def sh (C : Am.Callee) (L : Loops) (n0 : Nat) (t0 : Value) (s : AS) : Option (Value × List Blk × Option Nat) :=
(q89 PP y10 [(0, t0), (3, .map (some s.H.length))]).bind fun x1 =>
(aBox y10 x1 (q79 s (.map [] 0))).bind fun r2 =>
((aLen PP y9 t0 r2.2).bind fun x3 =>
(L n0 (loop3s C L n0) ([t0, r2.1, t0, x3, .int .i64 0], r2.2)).bind fun r58 =>
match r58.1 with
| .normal => some (AEx.normal, [(r58.2.1.getD 0 unk)], r58.2.2)
| .exit i => if i = 0 then some (AEx.normal, [(r58.2.1.getD 0 unk)], r58.2.2) else some (AEx.exit i, [(r58.2.1.getD 0 unk)], r58.2.2)
| .ret => some (AEx.ret, [(r58.2.1.getD 0 unk)], r58.2.2)).bind fun r59 =>
match r59.1 with
| .normal => j10 C L n0 ((r59.2.1.getD 0 unk)) r59.2.2
| .exit i => none
| .ret => fin PP false n0 [unk] r59.2.2
def T : Tab := ⟨fun i => if i = 3 then some [0, 3, 13, 14, 15] else if i = 9 then some [0, 3, 4, 5, 6, 13, 14, 15, 37, 38, 39] else none, fun i => if i = 3 then some [3] else if i = 9 then some [0, 3, 6, 13, 14, 15] else none, false, fun i => if i = 6 then some [0, 3, 4, 5, 13, 14, 15, 27] else if i = 7 then some [0, 3, 4, 5, 13, 14, 15] else if i = 12 then some [0, 3, 4, 5, 6, 7, 13, 14, 15, 37, 38, 39, 58] else if i = 13 then some [0, 3, 4, 5, 6, 13, 14, 15, 37, 38, 39] else if i = 14 then some [0, 3, 6, 13, 14, 15] else if i = 15 then some [0, 3, 13, 14, 15] else if i = 16 then some [3] else none, fun _ => false, false, false, fun _ => false⟩
end register_begin
namespace P_register_hunt_find
noncomputable def sh (C : Am.Callee) (L : Loops) (n0 : Nat) (t0 t1 : Value) (s : AS) : Option (Value × List Blk × Option Nat) :=
(aBox q88 t0 s).bind fun r1 =>
(aBox y1 t1 r1.2).bind fun r2 =>
(aBox y28 ((zeroP PP y28).getD unk) r2.2).bind fun r3 =>
(aBox y196 ((zeroP PP y196).getD unk) r3.2).bind fun r4 =>
(q43 1 r4.2 r4.1 (.func (.func q26) (#[]) (#[r1.1, r3.1, r4.1]))).bind fun s5 =>
(aLoad false 1 s5 r4.1).bind fun x6 =>
(aLoad true 16 s5 r2.1).bind fun x7 =>
(q89 PP y6 [(1, x7)]).bind fun x8 =>
(aFn PP x6 [x8]).bind fun g10 =>
(C g10.1 g10.2 s5.H).bind fun r9 =>
(aUn PP .not r9.1).bind fun x11 =>
bcase x11 (
fin PP false n0 [.slice none 0 0, .bool false] (AS.mk r9.2.1 (y8 s5.esc r9.2.2))) (
(aLoad false 1 (AS.mk r9.2.1 (y8 s5.esc r9.2.2)) r3.1).bind fun x12 =>
fin PP false n0 [x12, .bool true] (AS.mk r9.2.1 (y8 s5.esc r9.2.2)))
def T : Tab := ⟨fun i => none, fun i => none, false, fun i => none, fun _ => false, false, false, fun _ => false⟩
end P_register_hunt_find
namespace ghost_tells
noncomputable def sh (C : Am.Callee) (L : Loops) (n0 : Nat) (t0 t1 : Value) (s : AS) : Option (Value × List Blk × Option Nat) :=
(aBox y1 t1 s).bind fun r1 =>
(C q188 [t0] r1.2.H).bind fun r2 =>
(aLoad true 16 (AS.mk r2.2.1 (y8 r1.2.esc r2.2.2)) r1.1).bind fun x3 =>
(q89 PP y4 [(1, x3), (2, r2.1), (3, r2.1)]).bind fun x4 =>
(aBox y4 ((zeroP PP y4).getD unk) (AS.mk r2.2.1 (y8 r1.2.esc r2.2.2))).bind fun r5 =>
(q43 19 r5.2 r5.1 x4).bind fun s6 =>
(aLen PP y9 t0 s6).bind fun x7 =>
(aLen PP y9 t0 s6).bind fun x8 =>
(q196 PP y9 t0 none (some x7) (some x8) s6).bind fun x9 =>
(aLoad true 19 s6 r5.1).bind fun x10 =>
(q89 PP y1 []).bind fun x11 =>
(bsl PP y9 1 [0] [x10] s6).bind fun r12 =>
if ((((aLen PP y9 t0 r12.2).bind fun x21 =>
some (veq x21 x7)) == some true) && ((((aLen PP y9 t0 r12.2).bind fun x20 =>
some (veq x20 x8)) == some true) && ((((q196 PP y9 t0 none (some x7) (some x8) r12.2).bind fun x19 =>
some (veq x19 x9)) == some true) && true))) = true then
y16 PP .append #[y9, y9] [x9, r12.1] r12.2 fun x13 s14 =>
(C y97 [x13, x11] s14.H).bind fun r15 =>
(y12 PP (Instr.extract r15.1 0)).bind fun x16 =>
(y12 PP (Instr.extract r15.1 1)).bind fun x17 =>
bcase x16 (
(aBin PP .eql y162 (.tmp 31) (.const (.int .i64 0)) x17 (.int .i64 0)).bind fun x18 =>
fin PP false n0 [x18] (AS.mk r15.2.1 (y8 s14.esc r15.2.2))) (
fin PP false n0 [.bool false] (AS.mk r15.2.1 (y8 s14.esc r15.2.2)))
else none
def T : Tab := ⟨fun i => none, fun i => none, false, fun i => none, fun _ => false, false, false, fun _ => false⟩
end ghost_tells
namespace twainref49_last
noncomputable def j1 (C : Am.Callee) (L : Loops) (n0 : Nat) (t0 t3 t5 t7 t9 t10 t11 : Value) (s : AS) : Option (AEx × List Value × AS) :=
(y3 PP y2 t7 3).bind fun x15 =>
(aLoad false 1 s x15).bind fun x16 =>
(aBin PP .geq t_int (.tmp 23) (.tmp 24) x16 t5).bind fun x17 =>
bcase x17 (
(y3 PP y2 t7 3).bind fun x18 =>
(aLoad false 1 s x18).bind fun x19 =>
(aBin PP .add t_int (.tmp 27) (.const (.int .i64 1)) x19 (.int .i64 1)).bind fun x20 =>
some (AEx.normal, [t0, t3, x20, t9, t10, t11], s)) (
some (AEx.normal, [t0, t3, t5, t9, t10, t11], s))
noncomputable def j2 (C : Am.Callee) (L : Loops) (n0 : Nat) (t0 t3 t5 t9 t10 t11 : Value) (s : AS) : Option ((List Value × AS) ⊕ (AEx × List Value × AS)) :=
(aBin PP .add t_int (.tmp 11) (.const (.int .i64 1)) t11 (.int .i64 1)).bind fun x22 =>
some (.inl ([t0, t3, t5, t9, t10, x22], s))
noncomputable def loop3 (C : Am.Callee) (L : Loops) (n0 : Nat) (t0 t3 t5 t9 t10 t11 : Value) (s : AS) : Option ((List Value × AS) ⊕ (AEx × List Value × AS)) :=
(aBin PP .lss t_int (.tmp 11) (.tmp 10) t11 t10).bind fun x3 =>
bcase x3 (
((q15 PP y7 t9 t11).bind fun x4 =>
(aLoad true 19 s x4).bind fun x5 =>
(aBox y2 ((zeroP PP y2).getD unk) s).bind fun r6 =>
(q43 19 r6.2 r6.1 x5).bind fun s7 =>
((y3 PP y2 r6.1 2).bind fun x8 =>
(aLoad false 1 s7 x8).bind fun x9 =>
(aBin PP .geq t_int (.tmp 16) (.tmp 17) x9 t5).bind fun x10 =>
bcase x10 (
(y3 PP y2 r6.1 2).bind fun x11 =>
(aLoad false 1 s7 x11).bind fun x12 =>
(aBin PP .add t_int (.tmp 20) (.const (.int .i64 1)) x12 (.int .i64 1)).bind fun x13 =>
some (AEx.normal, [t0, t3, x13, r6.1, t9, t10, t11], s7)) (
some (AEx.normal, [t0, t3, t5, r6.1, t9, t10, t11], s7))).bind fun r14 =>
match r14.1 with
| .normal => j1 C L n0 ((r14.2.1.getD 0 unk)) ((r14.2.1.getD 1 unk)) ((r14.2.1.getD 2 unk)) ((r14.2.1.getD 3 unk)) ((r14.2.1.getD 4 unk)) ((r14.2.1.getD 5 unk)) ((r14.2.1.getD 6 unk)) r14.2.2
| .exit i => if i = 1 then some (AEx.normal, [(r14.2.1.getD 0 unk), (r14.2.1.getD 1 unk), (r14.2.1.getD 2 unk), (r14.2.1.getD 4 unk), (r14.2.1.getD 5 unk), (r14.2.1.getD 6 unk)], r14.2.2) else some (AEx.exit i, [(r14.2.1.getD 0 unk), (r14.2.1.getD 1 unk), (r14.2.1.getD 2 unk), (r14.2.1.getD 4 unk), (r14.2.1.getD 5 unk), (r14.2.1.getD 6 unk)], r14.2.2)
| .ret => some (AEx.ret, [(r14.2.1.getD 0 unk), (r14.2.1.getD 1 unk), (r14.2.1.getD 2 unk), (r14.2.1.getD 4 unk), (r14.2.1.getD 5 unk), (r14.2.1.getD 6 unk)], r14.2.2)).bind fun r21 =>
match r21.1 with
| .normal => j2 C L n0 ((r21.2.1.getD 0 unk)) ((r21.2.1.getD 1 unk)) ((r21.2.1.getD 2 unk)) ((r21.2.1.getD 3 unk)) ((r21.2.1.getD 4 unk)) ((r21.2.1.getD 5 unk)) r21.2.2
| .exit i => some (.inr (.exit i, [(r21.2.1.getD 0 unk), (r21.2.1.getD 1 unk), (r21.2.1.getD 2 unk)], r21.2.2))
| .ret => some (.inr (.ret, [(r21.2.1.getD 0 unk), (r21.2.1.getD 1 unk), (r21.2.1.getD 2 unk)], r21.2.2))) (
some (.inr (.exit 0, [t0, t3, t5], s)))
noncomputable def loop3s (C : Am.Callee) (L : Loops) (n0 : Nat) : List Value × AS → Option ((List Value × AS) ⊕ (AEx × List Value × AS)) := fun s => loop3 C L n0 (s.1.getD 0 unk) (s.1.getD 1 unk) (s.1.getD 2 unk) (s.1.getD 3 unk) (s.1.getD 4 unk) (s.1.getD 5 unk) s.2
noncomputable def j4 (C : Am.Callee) (L : Loops) (n0 : Nat) (t0 t3 t5 : Value) (s : AS) : Option (Value × List Blk × Option Nat) :=
(bsl PP y7 0 [] [] s).bind fun r25 =>
y16 PP .append #[y7, y7] [r25.1, t0] r25.2 fun x26 s27 =>
(aLoad true 16 s27 t3).bind fun x28 =>
(q89 PP y2 [(1, x28), (2, t5), (3, t5)]).bind fun x29 =>
(bsl PP y7 1 [0] [x29] s27).bind fun r30 =>
y16 PP .append #[y7, y7] [x26, r30.1] r30.2 fun x31 s32 =>
fin PP false n0 [x31] s32
noncomputable def sh (C : Am.Callee) (L : Loops) (n0 : Nat) (t0 t1 : Value) (s : AS) : Option (Value × List Blk × Option Nat) :=
(aBox y1 t1 s).bind fun r1 =>
((aLen PP y7 t0 r1.2).bind fun x2 =>
(L n0 (loop3s C L n0) ([t0, r1.1, .int .i64 0, t0, x2, .int .i64 0], r1.2)).bind fun r23 =>
match r23.1 with
| .normal => some (AEx.normal, [(r23.2.1.getD 0 unk), (r23.2.1.getD 1 unk), (r23.2.1.getD 2 unk)], r23.2.2)
| .exit i => if i = 0 then some (AEx.normal, [(r23.2.1.getD 0 unk), (r23.2.1.getD 1 unk), (r23.2.1.getD 2 unk)], r23.2.2) else some (AEx.exit i, [(r23.2.1.getD 0 unk), (r23.2.1.getD 1 unk), (r23.2.1.getD 2 unk)], r23.2.2)
| .ret => some (AEx.ret, [(r23.2.1.getD 0 unk), (r23.2.1.getD 1 unk), (r23.2.1.getD 2 unk)], r23.2.2)).bind fun r24 =>
match r24.1 with
| .normal => j4 C L n0 ((r24.2.1.getD 0 unk)) ((r24.2.1.getD 1 unk)) ((r24.2.1.getD 2 unk)) r24.2.2
| .exit i => none
| .ret => fin PP false n0 [unk] r24.2.2
def T : Tab := ⟨fun i => if i = 3 then some [0, 3, 5, 9, 10, 11] else none, fun i => if i = 3 then some [0, 3, 5] else none, false, fun i => if i = 7 then some [0, 3, 5, 7, 9, 10, 11] else if i = 9 then some [0, 3, 5, 9, 10, 11] else if i = 10 then some [0, 3, 5] else none, fun _ => false, false, false, fun _ => false⟩
end twainref49_last
namespace twainref37_search
noncomputable def j1 (C : Am.Callee) (L : Loops) (n0 : Nat) (t0 t1 t3 t6 t10 t20 t21 t35 : Value) (s : AS) : Option (AEx × List Value × AS) :=
bcase t35 (
some (AEx.exit 1, [t0, t1, t3, t6, t10, t20, t21], s)) (
some (AEx.normal, [t0, t1, t3, t6, t10, t20, t21], s))
noncomputable def j3 (C : Am.Callee) (L : Loops) (n0 : Nat) (t0 t1 t3 t6 t10 t11 t20 t21 : Value) (s : AS) : Option (AEx × List Value × AS) :=
(bsl PP y28 0 [] [] s).bind fun r28 =>
y16 PP .append #[y28, y28] [r28.1, t1] r28.2 fun x29 s30 =>
(bsl PP y28 1 [0] [t10] s30).bind fun r31 =>
y16 PP .append #[y28, y28] [x29, r31.1] r31.2 fun x32 s33 =>
(aLoad true 16 s33 t11).bind fun x34 =>
(C q77 [t0, x32, x34, t3] s33.H).bind fun r35 =>
(y12 PP (Instr.extract r35.1 0)).bind fun x36 =>
(y12 PP (Instr.extract r35.1 1)).bind fun x37 =>
bcase x37 (
some (AEx.ret, [t0, t1, t3, t6, x36, .bool true, t20, t21], AS.mk r35.2.1 (y8 s33.esc r35.2.2))) (
some (AEx.normal, [t0, t1, t3, t6, unk, unk, t20, t21], AS.mk r35.2.1 (y8 s33.esc r35.2.2)))
noncomputable def j2 (C : Am.Callee) (L : Loops) (n0 : Nat) (t0 t1 t3 t6 t10 t20 t21 : Value) (s : AS) : Option (AEx × List Value × AS) :=
(aNil t3).bind fun x12 =>
(aLoad false 1 s x12).bind fun x13 =>
(aBin PP .sub t_int (.tmp 38) (.const (.int .i64 1)) x13 (.int .i64 1)).bind fun x14 =>
(aNil t3).bind fun x15 =>
(q43 1 s x15 x14).bind fun s16 =>
(aLoad true 16 s16 t6).bind fun x17 =>
(aBox y1 ((zeroP PP y1).getD unk) s16).bind fun r18 =>
(q43 16 r18.2 r18.1 x17).bind fun s19 =>
((q15 PP y7 t0 t10).bind fun x20 =>
(y3 PP y2 x20 0).bind fun x21 =>
(aLoad false 1 s19 x21).bind fun x22 =>
bcase x22 (
(q15 PP y7 t0 t10).bind fun x23 =>
(y3 PP y2 x23 1).bind fun x24 =>
(aLoad true 16 s19 x24).bind fun x25 =>
(q43 16 s19 r18.1 x25).bind fun s26 =>
some (AEx.normal, [t0, t1, t3, t6, t10, r18.1, t20, t21], s26)) (
some (AEx.normal, [t0, t1, t3, t6, t10, r18.1, t20, t21], s19))).bind fun r27 =>
match r27.1 with
| .normal => j3 C L n0 ((r27.2.1.getD 0 unk)) ((r27.2.1.getD 1 unk)) ((r27.2.1.getD 2 unk)) ((r27.2.1.getD 3 unk)) ((r27.2.1.getD 4 unk)) ((r27.2.1.getD 5 unk)) ((r27.2.1.getD 6 unk)) ((r27.2.1.getD 7 unk)) r27.2.2
| .exit i => if i = 1 then some (AEx.normal, [(r27.2.1.getD 0 unk), (r27.2.1.getD 1 unk), (r27.2.1.getD 2 unk), (r27.2.1.getD 3 unk), unk, unk, (r27.2.1.getD 6 unk), (r27.2.1.getD 7 unk)], r27.2.2) else some (AEx.exit i, [(r27.2.1.getD 0 unk), (r27.2.1.getD 1 unk), (r27.2.1.getD 2 unk), (r27.2.1.getD 3 unk), unk, unk, (r27.2.1.getD 6 unk), (r27.2.1.getD 7 unk)], r27.2.2)
| .ret => some (AEx.ret, [(r27.2.1.getD 0 unk), (r27.2.1.getD 1 unk), (r27.2.1.getD 2 unk), (r27.2.1.getD 3 unk), unk, unk, (r27.2.1.getD 6 unk), (r27.2.1.getD 7 unk)], r27.2.2)
noncomputable def j4 (C : Am.Callee) (L : Loops) (n0 : Nat) (t0 t1 t3 t6 t20 t21 : Value) (s : AS) : Option ((List Value × AS) ⊕ (AEx × List Value × AS)) :=
(aBin PP .add t_int (.tmp 21) (.const (.int .i64 1)) t21 (.int .i64 1)).bind fun x39 =>
some (.inl ([t0, t1, t3, t6, t20, x39], s))
noncomputable def loop4 (C : Am.Callee) (L : Loops) (n0 : Nat) (t0 t1 t3 t6 t20 t21 : Value) (s : AS) : Option ((List Value × AS) ⊕ (AEx × List Value × AS)) :=
(aBin PP .lss t_int (.tmp 21) (.tmp 20) t21 t20).bind fun x4 =>
bcase x4 (
(((aNil t3).bind fun x5 =>
(aLoad false 1 s x5).bind fun x6 =>
(aBin PP .leq t_int (.tmp 26) (.const (.int .i64 0)) x6 (.int .i64 0)).bind fun x7 =>
bcase x7 (
j1 C L n0 t0 t1 t3 t6 t21 t20 t21 (.bool true) s) (
(aLoad true 16 s t6).bind fun x8 =>
(C q120 [t0, t1, t21, x8] s.H).bind fun r9 =>
(aUn PP .not r9.1).bind fun x10 =>
j1 C L n0 t0 t1 t3 t6 t21 t20 t21 x10 (AS.mk r9.2.1 (y8 s.esc r9.2.2)))).bind fun r11 =>
match r11.1 with
| .normal => j2 C L n0 ((r11.2.1.getD 0 unk)) ((r11.2.1.getD 1 unk)) ((r11.2.1.getD 2 unk)) ((r11.2.1.getD 3 unk)) ((r11.2.1.getD 4 unk)) ((r11.2.1.getD 5 unk)) ((r11.2.1.getD 6 unk)) r11.2.2
| .exit i => if i = 1 then some (AEx.normal, [(r11.2.1.getD 0 unk), (r11.2.1.getD 1 unk), (r11.2.1.getD 2 unk), (r11.2.1.getD 3 unk), unk, unk, (r11.2.1.getD 5 unk), (r11.2.1.getD 6 unk)], r11.2.2) else some (AEx.exit i, [(r11.2.1.getD 0 unk), (r11.2.1.getD 1 unk), (r11.2.1.getD 2 unk), (r11.2.1.getD 3 unk), unk, unk, (r11.2.1.getD 5 unk), (r11.2.1.getD 6 unk)], r11.2.2)
| .ret => some (AEx.ret, [(r11.2.1.getD 0 unk), (r11.2.1.getD 1 unk), (r11.2.1.getD 2 unk), (r11.2.1.getD 3 unk), unk, unk, (r11.2.1.getD 5 unk), (r11.2.1.getD 6 unk)], r11.2.2)).bind fun r38 =>
match r38.1 with
| .normal => j4 C L n0 ((r38.2.1.getD 0 unk)) ((r38.2.1.getD 1 unk)) ((r38.2.1.getD 2 unk)) ((r38.2.1.getD 3 unk)) ((r38.2.1.getD 6 unk)) ((r38.2.1.getD 7 unk)) r38.2.2
| .exit i => some (.inr (.exit i, [(r38.2.1.getD 4 unk), (r38.2.1.getD 5 unk)], r38.2.2))
| .ret => some (.inr (.ret, [(r38.2.1.getD 4 unk), (r38.2.1.getD 5 unk)], r38.2.2))) (
some (.inr (.exit 0, [unk, unk], s)))
noncomputable def loop4s (C : Am.Callee) (L : Loops) (n0 : Nat) : List Value × AS → Option ((List Value × AS) ⊕ (AEx × List Value × AS)) := fun s => loop4 C L n0 (s.1.getD 0 unk) (s.1.getD 1 unk) (s.1.getD 2 unk) (s.1.getD 3 unk) (s.1.getD 4 unk) (s.1.getD 5 unk) s.2
noncomputable def j6 (C : Am.Callee) (L : Loops) (n0 : Nat) (s : AS) : Option (Value × List Blk × Option Nat) :=
fin PP false n0 [.slice none 0 0, .bool false] s
noncomputable def sh (C : Am.Callee) (L : Loops) (n0 : Nat) (t0 t1 t2 t3 : Value) (s : AS) : Option (Value × List Blk × Option Nat) :=
(aBox y1 t2 s).bind fun r1 =>
(C y111 [t0, t1] r1.2.H).bind fun r2 =>
bcase r2.1 (
fin PP false n0 [t1, .bool true] (AS.mk r2.2.1 (y8 r1.2.esc r2.2.2))) (
((aLen PP y7 t0 (AS.mk r2.2.1 (y8 r1.2.esc r2.2.2))).bind fun x3 =>
(L n0 (loop4s C L n0) ([t0, t1, t3, r1.1, x3, .int .i64 0], AS.mk r2.2.1 (y8 r1.2.esc r2.2.2))).bind fun r40 =>
match r40.1 with
| .normal => some (AEx.normal, [(r40.2.1.getD 0 unk), (r40.2.1.getD 1 unk)], r40.2.2)
| .exit i => if i = 0 then some (AEx.normal, [(r40.2.1.getD 0 unk), (r40.2.1.getD 1 unk)], r40.2.2) else some (AEx.exit i, [(r40.2.1.getD 0 unk), (r40.2.1.getD 1 unk)], r40.2.2)
| .ret => some (AEx.ret, [(r40.2.1.getD 0 unk), (r40.2.1.getD 1 unk)], r40.2.2)).bind fun r41 =>
match r41.1 with
| .normal => j6 C L n0  r41.2.2
| .exit i => none
| .ret => fin PP false n0 [(r41.2.1.getD 0 unk), (r41.2.1.getD 1 unk)] r41.2.2)
def T : Tab := ⟨fun i => if i = 4 then some [0, 1, 3, 6, 20, 21] else none, fun i => if i = 4 then some [8, 9] else none, false, fun i => if i = 7 then some [0, 1, 3, 6, 10, 20, 21] else if i = 11 then some [0, 1, 3, 6, 10, 11, 20, 21] else if i = 16 then some [0, 1, 3, 6, 8, 9, 20, 21] else if i = 17 then some [8, 9] else none, fun _ => false, false, false, fun _ => false⟩
end twainref37_search
namespace history_of
noncomputable def sh (C : Am.Callee) (L : Loops) (n0 : Nat) (t0 : Value) (s : AS) : Option (Value × List Blk × Option Nat) :=
(aBox q10 t0 s).bind fun r1 =>
(aBox y61 ((zeroP PP y61).getD unk) r1.2).bind fun r2 =>
(y3 PP q10 r1.1 1).bind fun x3 =>
(aLoad false 1 r2.2 x3).bind fun x4 =>
(y3 PP q10 r1.1 2).bind fun x5 =>
(aLoad false 1 r2.2 x5).bind fun x6 =>
(q89 PP y61 [(0, x4), (1, x6)]).bind fun x7 =>
(q43 2 r2.2 r2.1 x7).bind fun s8 =>
((aLoad true 2 s8 r2.1).bind fun x10 => (some []).bind fun y11 => some (x10 :: y11)).bind fun z9 => fin PP false n0 z9 s8
def T : Tab := ⟨fun i => none, fun i => none, false, fun i => none, fun _ => false, false, false, fun _ => false⟩
end history_of
namespace span_Meet
noncomputable def j0 (C : Am.Callee) (L : Loops) (n0 : Nat) (t2 t3 t4 t17 : Value) (s : AS) : Option (AEx × List Value × AS) :=
bcase t17 (
(q89 PP y15 []).bind fun x11 =>
(q43 2 s t4 x11).bind fun s12 =>
some (AEx.ret, [t2, t3, t4, .bool false], s12)) (
some (AEx.normal, [t2, t3, t4, unk], s))
noncomputable def j1 (C : Am.Callee) (L : Loops) (n0 : Nat) (t2 t3 t4 : Value) (s : AS) : Option (Value × List Blk × Option Nat) :=
(aLoad true 2 s t2).bind fun x14 =>
(q89 PP q82 [(0, x14)]).bind fun x15 =>
(aLoad true 2 s t2).bind fun x16 =>
(q89 PP q82 [(0, x16)]).bind fun x17 =>
(y3 PP y15 t3 0).bind fun x18 =>
(aLoad false 1 s x18).bind fun x19 =>
(aLoad true 2 s t3).bind fun x20 =>
(aFn PP (.func (.func q96) (#[x15]) (#[])) [x19]).bind fun g22 =>
(C g22.1 g22.2 s.H).bind fun r21 =>
if ((((aLoad true 2 (AS.mk r21.2.1 (y8 s.esc r21.2.2)) t3).bind fun x42 =>
some (veq x42 x20)) == some true) && true) = true then
(C q189 [x20] (AS.mk r21.2.1 (y8 s.esc r21.2.2)).H).bind fun r23 =>
(aFn PP (.func (.func y116) (#[x17]) (#[])) [r23.1]).bind fun g25 =>
(C g25.1 g25.2 (AS.mk r23.2.1 (y8 (AS.mk r21.2.1 (y8 s.esc r21.2.2)).esc r23.2.2)).H).bind fun r24 =>
(aBin PP .geq t_int (.tmp 33) (.tmp 34) r21.1 r24.1).bind fun x26 =>
bcase x26 (
(q89 PP y15 []).bind fun x27 =>
(q43 2 (AS.mk r24.2.1 (y8 (AS.mk r23.2.1 (y8 (AS.mk r21.2.1 (y8 s.esc r21.2.2)).esc r23.2.2)).esc r24.2.2)) t4 x27).bind fun s28 =>
((aLoad true 2 s28 t4).bind fun x30 => ((some (.bool false)).bind fun x32 => (some []).bind fun y33 => some (x32 :: y33)).bind fun y31 => some (x30 :: y31)).bind fun z29 => fin PP false n0 z29 s28) (
(aBin PP .sub t_int (.tmp 38) (.tmp 39) r24.1 r21.1).bind fun x34 =>
(q89 PP y15 [(0, r21.1), (1, x34)]).bind fun x35 =>
(q43 2 (AS.mk r24.2.1 (y8 (AS.mk r23.2.1 (y8 (AS.mk r21.2.1 (y8 s.esc r21.2.2)).esc r23.2.2)).esc r24.2.2)) t4 x35).bind fun s36 =>
((aLoad true 2 s36 t4).bind fun x38 => ((some (.bool true)).bind fun x40 => (some []).bind fun y41 => some (x40 :: y41)).bind fun y39 => some (x38 :: y39)).bind fun z37 => fin PP false n0 z37 s36)
else none
noncomputable def sh (C : Am.Callee) (L : Loops) (n0 : Nat) (t0 t1 : Value) (s : AS) : Option (Value × List Blk × Option Nat) :=
(aBox y15 t0 s).bind fun r1 =>
(aBox y15 t1 r1.2).bind fun r2 =>
(aBox y15 ((zeroP PP y15).getD unk) r2.2).bind fun r3 =>
(((aLoad true 2 r3.2 r1.1).bind fun x4 =>
(C q139 [x4] r3.2.H).bind fun r5 =>
(aUn PP .not r5.1).bind fun x6 =>
bcase x6 (
some (AEx.normal, [r1.1, r2.1, r3.1, .bool true], AS.mk r5.2.1 (y8 r3.2.esc r5.2.2))) (
(aLoad true 2 (AS.mk r5.2.1 (y8 r3.2.esc r5.2.2)) r2.1).bind fun x7 =>
(C q139 [x7] (AS.mk r5.2.1 (y8 r3.2.esc r5.2.2)).H).bind fun r8 =>
(aUn PP .not r8.1).bind fun x9 =>
some (AEx.normal, [r1.1, r2.1, r3.1, x9], AS.mk r8.2.1 (y8 (AS.mk r5.2.1 (y8 r3.2.esc r5.2.2)).esc r8.2.2)))).bind fun r10 =>
match r10.1 with
| .normal => j0 C L n0 ((r10.2.1.getD 0 unk)) ((r10.2.1.getD 1 unk)) ((r10.2.1.getD 2 unk)) ((r10.2.1.getD 3 unk)) r10.2.2
| .exit i => some (AEx.exit i, [(r10.2.1.getD 0 unk), (r10.2.1.getD 1 unk), (r10.2.1.getD 2 unk), unk], r10.2.2)
| .ret => some (AEx.ret, [(r10.2.1.getD 0 unk), (r10.2.1.getD 1 unk), (r10.2.1.getD 2 unk), unk], r10.2.2)).bind fun r13 =>
match r13.1 with
| .normal => j1 C L n0 ((r13.2.1.getD 0 unk)) ((r13.2.1.getD 1 unk)) ((r13.2.1.getD 2 unk)) r13.2.2
| .exit i => none
| .ret => ((aLoad true 2 r13.2.2 ((r13.2.1.getD 2 unk))).bind fun x44 => ((some ((r13.2.1.getD 3 unk))).bind fun x46 => (some []).bind fun y47 => some (x46 :: y47)).bind fun y45 => some (x44 :: y45)).bind fun z43 => fin PP false n0 z43 r13.2.2
def T : Tab := ⟨fun i => none, fun i => none, false, fun i => if i = 2 then some [2, 3, 4, 17] else if i = 3 then some [2, 3, 4, 5] else none, fun _ => false, false, false, fun _ => false⟩
end span_Meet
namespace twainref04_Meet
noncomputable def j0 (C : Am.Callee) (L : Loops) (n0 : Nat) (t2 t3 t4 t15 : Value) (s : AS) : Option (AEx × List Value × AS) :=
bcase t15 (
(q89 PP y15 []).bind fun x11 =>
(q43 2 s t4 x11).bind fun s12 =>
some (AEx.ret, [t2, t3, t4, .bool false], s12)) (
some (AEx.normal, [t2, t3, t4, unk], s))
noncomputable def j3 (C : Am.Callee) (L : Loops) (n0 : Nat) (t4 t6 t7 : Value) (s : AS) : Option (Value × List Blk × Option Nat) :=
(aBin PP .geq t_int (.tmp 42) (.tmp 43) t6 t7).bind fun x39 =>
bcase x39 (
(q89 PP y15 []).bind fun x40 =>
(q43 2 s t4 x40).bind fun s41 =>
((aLoad true 2 s41 t4).bind fun x43 => ((some (.bool false)).bind fun x45 => (some []).bind fun y46 => some (x45 :: y46)).bind fun y44 => some (x43 :: y44)).bind fun z42 => fin PP false n0 z42 s41) (
(aBin PP .sub t_int (.tmp 47) (.tmp 48) t7 t6).bind fun x47 =>
(q89 PP y15 [(0, t6), (1, x47)]).bind fun x48 =>
(q43 2 s t4 x48).bind fun s49 =>
((aLoad true 2 s49 t4).bind fun x51 => ((some (.bool true)).bind fun x53 => (some []).bind fun y54 => some (x53 :: y54)).bind fun y52 => some (x51 :: y52)).bind fun z50 => fin PP false n0 z50 s49)
noncomputable def j2 (C : Am.Callee) (L : Loops) (n0 : Nat) (t3 t4 t6 t7 : Value) (s : AS) : Option (Value × List Blk × Option Nat) :=
((y3 PP y15 t3 0).bind fun x27 =>
(aLoad false 1 s x27).bind fun x28 =>
(y3 PP y15 t3 1).bind fun x29 =>
(aLoad false 1 s x29).bind fun x30 =>
(aBin PP .add t_int (.tmp 31) (.tmp 33) x28 x30).bind fun x31 =>
(aBin PP .lss t_int (.tmp 34) (.tmp 35) x31 t7).bind fun x32 =>
bcase x32 (
(y3 PP y15 t3 0).bind fun x33 =>
(aLoad false 1 s x33).bind fun x34 =>
(y3 PP y15 t3 1).bind fun x35 =>
(aLoad false 1 s x35).bind fun x36 =>
(aBin PP .add t_int (.tmp 38) (.tmp 40) x34 x36).bind fun x37 =>
some (AEx.normal, [t4, t6, x37], s)) (
some (AEx.normal, [t4, t6, t7], s))).bind fun r38 =>
match r38.1 with
| .normal => j3 C L n0 ((r38.2.1.getD 0 unk)) ((r38.2.1.getD 1 unk)) ((r38.2.1.getD 2 unk)) r38.2.2
| .exit i => none
| .ret => ((aLoad true 2 r38.2.2 ((r38.2.1.getD 0 unk))).bind fun x56 => ((some unk).bind fun x58 => (some []).bind fun y59 => some (x58 :: y59)).bind fun y57 => some (x56 :: y57)).bind fun z55 => fin PP false n0 z55 r38.2.2
noncomputable def j1 (C : Am.Callee) (L : Loops) (n0 : Nat) (t2 t3 t4 : Value) (s : AS) : Option (Value × List Blk × Option Nat) :=
(y3 PP y15 t2 0).bind fun x14 =>
(aLoad false 1 s x14).bind fun x15 =>
(y3 PP y15 t2 0).bind fun x16 =>
(aLoad false 1 s x16).bind fun x17 =>
(y3 PP y15 t2 1).bind fun x18 =>
(aLoad false 1 s x18).bind fun x19 =>
(aBin PP .add t_int (.tmp 20) (.tmp 22) x17 x19).bind fun x20 =>
((y3 PP y15 t3 0).bind fun x21 =>
(aLoad false 1 s x21).bind fun x22 =>
(aBin PP .gtr t_int (.tmp 25) (.tmp 26) x22 x15).bind fun x23 =>
bcase x23 (
(y3 PP y15 t3 0).bind fun x24 =>
(aLoad false 1 s x24).bind fun x25 =>
some (AEx.normal, [t3, t4, x25, x20], s)) (
some (AEx.normal, [t3, t4, x15, x20], s))).bind fun r26 =>
match r26.1 with
| .normal => j2 C L n0 ((r26.2.1.getD 0 unk)) ((r26.2.1.getD 1 unk)) ((r26.2.1.getD 2 unk)) ((r26.2.1.getD 3 unk)) r26.2.2
| .exit i => none
| .ret => ((aLoad true 2 r26.2.2 ((r26.2.1.getD 1 unk))).bind fun x61 => ((some unk).bind fun x63 => (some []).bind fun y64 => some (x63 :: y64)).bind fun y62 => some (x61 :: y62)).bind fun z60 => fin PP false n0 z60 r26.2.2
noncomputable def sh (C : Am.Callee) (L : Loops) (n0 : Nat) (t0 t1 : Value) (s : AS) : Option (Value × List Blk × Option Nat) :=
(aBox y15 t0 s).bind fun r1 =>
(aBox y15 t1 r1.2).bind fun r2 =>
(aBox y15 ((zeroP PP y15).getD unk) r2.2).bind fun r3 =>
(((aLoad true 2 r3.2 r1.1).bind fun x4 =>
(C y92 [x4] r3.2.H).bind fun r5 =>
(aUn PP .not r5.1).bind fun x6 =>
bcase x6 (
some (AEx.normal, [r1.1, r2.1, r3.1, .bool true], AS.mk r5.2.1 (y8 r3.2.esc r5.2.2))) (
(aLoad true 2 (AS.mk r5.2.1 (y8 r3.2.esc r5.2.2)) r2.1).bind fun x7 =>
(C y92 [x7] (AS.mk r5.2.1 (y8 r3.2.esc r5.2.2)).H).bind fun r8 =>
(aUn PP .not r8.1).bind fun x9 =>
some (AEx.normal, [r1.1, r2.1, r3.1, x9], AS.mk r8.2.1 (y8 (AS.mk r5.2.1 (y8 r3.2.esc r5.2.2)).esc r8.2.2)))).bind fun r10 =>
match r10.1 with
| .normal => j0 C L n0 ((r10.2.1.getD 0 unk)) ((r10.2.1.getD 1 unk)) ((r10.2.1.getD 2 unk)) ((r10.2.1.getD 3 unk)) r10.2.2
| .exit i => some (AEx.exit i, [(r10.2.1.getD 0 unk), (r10.2.1.getD 1 unk), (r10.2.1.getD 2 unk), unk], r10.2.2)
| .ret => some (AEx.ret, [(r10.2.1.getD 0 unk), (r10.2.1.getD 1 unk), (r10.2.1.getD 2 unk), unk], r10.2.2)).bind fun r13 =>
match r13.1 with
| .normal => j1 C L n0 ((r13.2.1.getD 0 unk)) ((r13.2.1.getD 1 unk)) ((r13.2.1.getD 2 unk)) r13.2.2
| .exit i => none
| .ret => ((aLoad true 2 r13.2.2 ((r13.2.1.getD 2 unk))).bind fun x66 => ((some ((r13.2.1.getD 3 unk))).bind fun x68 => (some []).bind fun y69 => some (x68 :: y69)).bind fun y67 => some (x66 :: y67)).bind fun z65 => fin PP false n0 z65 r13.2.2
def T : Tab := ⟨fun i => none, fun i => none, false, fun i => if i = 2 then some [2, 3, 4, 15] else if i = 3 then some [2, 3, 4, 5] else if i = 6 then some [3, 4, 6, 7] else if i = 8 then some [4, 6, 7] else none, fun _ => false, false, false, fun _ => false⟩
end twainref04_Meet
namespace P_register_hunt_find_1
noncomputable def j1 (C : Am.Callee) (L : Loops) (n0 : Nat) (t1 t4 t6 t46 t47 t48 t67 : Value) (s : AS) : Option (AEx × List Value × AS) :=
bcase t67 (
some (AEx.ret, [t1, t4, .bool true, t6, t46, t47, t48], s)) (
some (AEx.normal, [t1, t4, unk, t6, t46, t47, t48], s))
noncomputable def j2 (C : Am.Callee) (L : Loops) (n0 : Nat) (t1 t4 t6 t46 t47 t48 : Value) (s : AS) : Option ((List Value × AS) ⊕ (AEx × List Value × AS)) :=
(aBin PP .add t_int (.tmp 48) (.const (.int .i64 1)) t48 (.int .i64 1)).bind fun x52 =>
some (.inl ([t1, t4, t6, t46, t47, x52], s))
noncomputable def loop11 (C : Am.Callee) (L : Loops) (n0 : Nat) (t1 t4 t6 t46 t47 t48 : Value) (s : AS) : Option ((List Value × AS) ⊕ (AEx × List Value × AS)) :=
(aBin PP .lss t_int (.tmp 48) (.tmp 47) t48 t47).bind fun x36 =>
bcase x36 (
((q15 PP y9 t46 t48).bind fun x37 =>
(aLoad true 19 s x37).bind fun x38 =>
(aBox y4 ((zeroP PP y4).getD unk) s).bind fun r39 =>
(q43 19 r39.2 r39.1 x38).bind fun s40 =>
((y3 PP y4 r39.1 0).bind fun x41 =>
(aLoad false 1 s40 x41).bind fun x42 =>
bcase x42 (
(aLoad false 1 s40 t1).bind fun x43 =>
(aLoad true 17 s40 t4).bind fun x44 =>
(C q78 [x43, x44, t48] s40.H).bind fun r45 =>
bcase r45.1 (
(y3 PP y4 r39.1 1).bind fun x46 =>
(aLoad true 16 (AS.mk r45.2.1 (y8 s40.esc r45.2.2)) x46).bind fun x47 =>
(aFn PP t6 [t48, x47]).bind fun g49 =>
(C g49.1 g49.2 (AS.mk r45.2.1 (y8 s40.esc r45.2.2)).H).bind fun r48 =>
some (AEx.normal, [t1, t4, t6, t46, t47, t48, r48.1], AS.mk r48.2.1 (y8 (AS.mk r45.2.1 (y8 s40.esc r45.2.2)).esc r48.2.2))) (
some (AEx.normal, [t1, t4, t6, t46, t47, t48, .bool false], AS.mk r45.2.1 (y8 s40.esc r45.2.2)))) (
some (AEx.normal, [t1, t4, t6, t46, t47, t48, .bool false], s40))).bind fun r50 =>
match r50.1 with
| .normal => j1 C L n0 ((r50.2.1.getD 0 unk)) ((r50.2.1.getD 1 unk)) ((r50.2.1.getD 2 unk)) ((r50.2.1.getD 3 unk)) ((r50.2.1.getD 4 unk)) ((r50.2.1.getD 5 unk)) ((r50.2.1.getD 6 unk)) r50.2.2
| .exit i => if i = 1 then some (AEx.normal, [(r50.2.1.getD 0 unk), (r50.2.1.getD 1 unk), unk, (r50.2.1.getD 2 unk), (r50.2.1.getD 3 unk), (r50.2.1.getD 4 unk), (r50.2.1.getD 5 unk)], r50.2.2) else some (AEx.exit i, [(r50.2.1.getD 0 unk), (r50.2.1.getD 1 unk), unk, (r50.2.1.getD 2 unk), (r50.2.1.getD 3 unk), (r50.2.1.getD 4 unk), (r50.2.1.getD 5 unk)], r50.2.2)
| .ret => some (AEx.ret, [(r50.2.1.getD 0 unk), (r50.2.1.getD 1 unk), unk, (r50.2.1.getD 2 unk), (r50.2.1.getD 3 unk), (r50.2.1.getD 4 unk), (r50.2.1.getD 5 unk)], r50.2.2)).bind fun r51 =>
match r51.1 with
| .normal => j2 C L n0 ((r51.2.1.getD 0 unk)) ((r51.2.1.getD 1 unk)) ((r51.2.1.getD 3 unk)) ((r51.2.1.getD 4 unk)) ((r51.2.1.getD 5 unk)) ((r51.2.1.getD 6 unk)) r51.2.2
| .exit i => some (.inr (.exit i, [(r51.2.1.getD 2 unk)], r51.2.2))
| .ret => some (.inr (.ret, [(r51.2.1.getD 2 unk)], r51.2.2))) (
some (.inr (.exit 0, [unk], s)))
noncomputable def loop11s (C : Am.Callee) (L : Loops) (n0 : Nat) : List Value × AS → Option ((List Value × AS) ⊕ (AEx × List Value × AS)) := fun s => loop11 C L n0 (s.1.getD 0 unk) (s.1.getD 1 unk) (s.1.getD 2 unk) (s.1.getD 3 unk) (s.1.getD 4 unk) (s.1.getD 5 unk) s.2
noncomputable def j4 (C : Am.Callee) (L : Loops) (n0 : Nat) (s : AS) : Option (Value × List Blk × Option Nat) :=
fin PP false n0 [.bool false] s
noncomputable def sh (C : Am.Callee) (L : Loops) (n0 : Nat) (t0 t1 t2 t3 : Value) (s : AS) : Option (Value × List Blk × Option Nat) :=
(aBox y6 t0 s).bind fun r1 =>
(aLoad false 1 r1.2 t1).bind fun x2 =>
(aNil x2).bind fun x3 =>
(y3 PP y10 x3 1).bind fun x4 =>
(aLoad false 1 r1.2 x4).bind fun x5 =>
(y3 PP y6 r1.1 0).bind fun x6 =>
(aLoad false 1 r1.2 x6).bind fun x7 =>
(aBin PP .andNot y37 (.tmp 14) (.tmp 16) x5 x7).bind fun x8 =>
(aBin PP .eql y37 (.tmp 17) (.const (.int .u64 0)) x8 (.int .u64 0)).bind fun x9 =>
bcase x9 (
fin PP false n0 [.bool true] r1.2) (
(aLoad false 1 r1.2 t1).bind fun x10 =>
(aNil x10).bind fun x11 =>
(y3 PP y10 x11 3).bind fun x12 =>
(aLoad false 1 r1.2 x12).bind fun x13 =>
(aLoad true 17 r1.2 r1.1).bind fun x14 =>
(q147 PP y79 x13 x14 false r1.2).bind fun x15 =>
bcase x15 (
fin PP false n0 [.bool false] r1.2) (
(aLoad false 1 r1.2 t1).bind fun x16 =>
(aNil x16).bind fun x17 =>
(y3 PP y10 x17 3).bind fun x18 =>
(aLoad false 1 r1.2 x18).bind fun x19 =>
(aLoad true 17 r1.2 r1.1).bind fun x20 =>
(y75 PP y79 x19 x20 (.bool true) r1.2).bind fun s21 =>
(aLoad false 1 s21 t1).bind fun x22 =>
(aLoad true 17 s21 r1.1).bind fun x23 =>
(C q84 [x22, x23] s21.H).bind fun r24 =>
(y12 PP (Instr.extract r24.1 0)).bind fun x25 =>
(y12 PP (Instr.extract r24.1 1)).bind fun x26 =>
bcase x26 (
(y3 PP y6 r1.1 1).bind fun x27 =>
(aLoad true 16 (AS.mk r24.2.1 (y8 s21.esc r24.2.2)) x27).bind fun x28 =>
(aFn PP (.func (.func y35) (#[]) (#[t2, t3, r1.1])) [x25, x28]).bind fun g30 =>
(C g30.1 g30.2 (AS.mk r24.2.1 (y8 s21.esc r24.2.2)).H).bind fun r29 =>
fin PP false n0 [r29.1] (AS.mk r29.2.1 (y8 (AS.mk r24.2.1 (y8 s21.esc r24.2.2)).esc r29.2.2))) (
((aLoad false 1 (AS.mk r24.2.1 (y8 s21.esc r24.2.2)) t1).bind fun x31 =>
(aNil x31).bind fun x32 =>
(y3 PP y10 x32 0).bind fun x33 =>
(aLoad false 1 (AS.mk r24.2.1 (y8 s21.esc r24.2.2)) x33).bind fun x34 =>
(aLen PP y9 x34 (AS.mk r24.2.1 (y8 s21.esc r24.2.2))).bind fun x35 =>
(L n0 (loop11s C L n0) ([t1, r1.1, .func (.func y35) (#[]) (#[t2, t3, r1.1]), x34, x35, .int .i64 0], AS.mk r24.2.1 (y8 s21.esc r24.2.2))).bind fun r53 =>
match r53.1 with
| .normal => some (AEx.normal, [(r53.2.1.getD 0 unk)], r53.2.2)
| .exit i => if i = 0 then some (AEx.normal, [(r53.2.1.getD 0 unk)], r53.2.2) else some (AEx.exit i, [(r53.2.1.getD 0 unk)], r53.2.2)
| .ret => some (AEx.ret, [(r53.2.1.getD 0 unk)], r53.2.2)).bind fun r54 =>
match r54.1 with
| .normal => j4 C L n0  r54.2.2
| .exit i => none
| .ret => fin PP false n0 [(r54.2.1.getD 0 unk)] r54.2.2)))
def T : Tab := ⟨fun i => if i = 11 then some [1, 4, 6, 46, 47, 48] else none, fun i => if i = 11 then some [5] else none, false, fun i => if i = 14 then some [1, 4, 6, 46, 47, 48, 67] else if i = 15 then some [1, 4, 5, 6, 46, 47, 48] else if i = 16 then some [5] else none, fun _ => false, false, false, fun _ => false⟩
end P_register_hunt_find_1
namespace P_register_hunt_find_1_1
noncomputable def sh (C : Am.Callee) (L : Loops) (n0 : Nat) (t0 t1 t2 t3 t4 : Value) (s : AS) : Option (Value × List Blk × Option Nat) :=
(aBox y1 t1 s).bind fun r1 =>
(aLoad false 1 r1.2 t2).bind fun x2 =>
(bsl PP y28 1 [0] [t0] r1.2).bind fun r3 =>
y16 PP .append #[y28, y28] [x2, r3.1] r3.2 fun x4 s5 =>
(q43 1 s5 t2 x4).bind fun s6 =>
(aLoad false 1 s6 t3).bind fun x7 =>
(y3 PP y6 t4 0).bind fun x8 =>
(aLoad false 1 s6 x8).bind fun x9 =>
(aBin PP .shl y37 (.const (.int .u64 1)) (.tmp 15) (.int .u64 1) t0).bind fun x10 =>
(aBin PP .or y37 (.tmp 14) (.tmp 16) x9 x10).bind fun x11 =>
(aLoad true 16 s6 r1.1).bind fun x12 =>
(q89 PP y6 [(0, x11), (1, x12)]).bind fun x13 =>
(aFn PP x7 [x13]).bind fun g15 =>
(C g15.1 g15.2 s6.H).bind fun r14 =>
bcase r14.1 (
fin PP false n0 [.bool true] (AS.mk r14.2.1 (y8 s6.esc r14.2.2))) (
(aLoad false 1 (AS.mk r14.2.1 (y8 s6.esc r14.2.2)) t2).bind fun x16 =>
(aLoad false 1 (AS.mk r14.2.1 (y8 s6.esc r14.2.2)) t2).bind fun x17 =>
(aLen PP y28 x17 (AS.mk r14.2.1 (y8 s6.esc r14.2.2))).bind fun x18 =>
(aBin PP .sub t_int (.tmp 23) (.const (.int .i64 1)) x18 (.int .i64 1)).bind fun x19 =>
(q196 PP y28 x16 none (some x19) none (AS.mk r14.2.1 (y8 s6.esc r14.2.2))).bind fun x20 =>
(q43 1 (AS.mk r14.2.1 (y8 s6.esc r14.2.2)) t2 x20).bind fun s21 =>
fin PP false n0 [.bool false] s21)
def T : Tab := ⟨fun i => none, fun i => none, false, fun i => none, fun _ => false, false, false, fun _ => false⟩
end P_register_hunt_find_1_1
namespace P_register_hunt_read
noncomputable def j1 (C : Am.Callee) (L : Loops) (n0 : Nat) (t0 t3 t6 t11 t12 t13 t33 : Value) (s : AS) : Option (AEx × List Value × AS) :=
bcase t33 (
some (AEx.ret, [t0, t3, t6, .bool true, t11, t12, t13], s)) (
some (AEx.normal, [t0, t3, unk, unk, t11, t12, t13], s))
noncomputable def j2 (C : Am.Callee) (L : Loops) (n0 : Nat) (t0 t3 t11 t12 t13 : Value) (s : AS) : Option ((List Value × AS) ⊕ (AEx × List Value × AS)) :=
(aBin PP .add t_int (.tmp 13) (.const (.int .i64 1)) t13 (.int .i64 1)).bind fun x23 =>
some (.inl ([t0, t3, t11, t12, x23], s))
noncomputable def loop2 (C : Am.Callee) (L : Loops) (n0 : Nat) (t0 t3 t11 t12 t13 : Value) (s : AS) : Option ((List Value × AS) ⊕ (AEx × List Value × AS)) :=
(aBin PP .lss t_int (.tmp 13) (.tmp 12) t13 t12).bind fun x6 =>
bcase x6 (
((q15 PP y9 t11 t13).bind fun x7 =>
(aLoad true 19 s x7).bind fun x8 =>
(aBox y4 ((zeroP PP y4).getD unk) s).bind fun r9 =>
(q43 19 r9.2 r9.1 x8).bind fun s10 =>
((y3 PP y4 r9.1 0).bind fun x11 =>
(aLoad false 1 s10 x11).bind fun x12 =>
(aUn PP .not x12).bind fun x13 =>
bcase x13 (
(y3 PP y4 r9.1 1).bind fun x14 =>
(aLoad true 16 s10 x14).bind fun x15 =>
(y3 PP y6 t3 1).bind fun x16 =>
(aLoad true 16 s10 x16).bind fun x17 =>
(aBin PP .eql y1 (.tmp 23) (.tmp 25) x15 x17).bind fun x18 =>
bcase x18 (
(aLoad true 17 s10 t3).bind fun x19 =>
(C q78 [t0, x19, t13] s10.H).bind fun r20 =>
some (AEx.normal, [t0, t3, t13, t11, t12, t13, r20.1], AS.mk r20.2.1 (y8 s10.esc r20.2.2))) (
some (AEx.normal, [t0, t3, t13, t11, t12, t13, .bool false], s10))) (
some (AEx.normal, [t0, t3, t13, t11, t12, t13, .bool false], s10))).bind fun r21 =>
match r21.1 with
| .normal => j1 C L n0 ((r21.2.1.getD 0 unk)) ((r21.2.1.getD 1 unk)) ((r21.2.1.getD 2 unk)) ((r21.2.1.getD 3 unk)) ((r21.2.1.getD 4 unk)) ((r21.2.1.getD 5 unk)) ((r21.2.1.getD 6 unk)) r21.2.2
| .exit i => if i = 1 then some (AEx.normal, [(r21.2.1.getD 0 unk), (r21.2.1.getD 1 unk), unk, unk, (r21.2.1.getD 3 unk), (r21.2.1.getD 4 unk), (r21.2.1.getD 5 unk)], r21.2.2) else some (AEx.exit i, [(r21.2.1.getD 0 unk), (r21.2.1.getD 1 unk), unk, unk, (r21.2.1.getD 3 unk), (r21.2.1.getD 4 unk), (r21.2.1.getD 5 unk)], r21.2.2)
| .ret => some (AEx.ret, [(r21.2.1.getD 0 unk), (r21.2.1.getD 1 unk), unk, unk, (r21.2.1.getD 3 unk), (r21.2.1.getD 4 unk), (r21.2.1.getD 5 unk)], r21.2.2)).bind fun r22 =>
match r22.1 with
| .normal => j2 C L n0 ((r22.2.1.getD 0 unk)) ((r22.2.1.getD 1 unk)) ((r22.2.1.getD 4 unk)) ((r22.2.1.getD 5 unk)) ((r22.2.1.getD 6 unk)) r22.2.2
| .exit i => some (.inr (.exit i, [(r22.2.1.getD 2 unk), (r22.2.1.getD 3 unk)], r22.2.2))
| .ret => some (.inr (.ret, [(r22.2.1.getD 2 unk), (r22.2.1.getD 3 unk)], r22.2.2))) (
some (.inr (.exit 0, [unk, unk], s)))
noncomputable def loop2s (C : Am.Callee) (L : Loops) (n0 : Nat) : List Value × AS → Option ((List Value × AS) ⊕ (AEx × List Value × AS)) := fun s => loop2 C L n0 (s.1.getD 0 unk) (s.1.getD 1 unk) (s.1.getD 2 unk) (s.1.getD 3 unk) (s.1.getD 4 unk) s.2
noncomputable def j4 (C : Am.Callee) (L : Loops) (n0 : Nat) (s : AS) : Option (Value × List Blk × Option Nat) :=
fin PP false n0 [.int .i64 0, .bool false] s
noncomputable def sh (C : Am.Callee) (L : Loops) (n0 : Nat) (t0 t1 : Value) (s : AS) : Option (Value × List Blk × Option Nat) :=
(aBox y6 t1 s).bind fun r1 =>
((aNil t0).bind fun x2 =>
(y3 PP y10 x2 0).bind fun x3 =>
(aLoad false 1 r1.2 x3).bind fun x4 =>
(aLen PP y9 x4 r1.2).bind fun x5 =>
(L n0 (loop2s C L n0) ([t0, r1.1, x4, x5, .int .i64 0], r1.2)).bind fun r24 =>
match r24.1 with
| .normal => some (AEx.normal, [(r24.2.1.getD 0 unk), (r24.2.1.getD 1 unk)], r24.2.2)
| .exit i => if i = 0 then some (AEx.normal, [(r24.2.1.getD 0 unk), (r24.2.1.getD 1 unk)], r24.2.2) else some (AEx.exit i, [(r24.2.1.getD 0 unk), (r24.2.1.getD 1 unk)], r24.2.2)
| .ret => some (AEx.ret, [(r24.2.1.getD 0 unk), (r24.2.1.getD 1 unk)], r24.2.2)).bind fun r25 =>
match r25.1 with
| .normal => j4 C L n0  r25.2.2
| .exit i => none
| .ret => fin PP false n0 [(r25.2.1.getD 0 unk), (r25.2.1.getD 1 unk)] r25.2.2
def T : Tab := ⟨fun i => if i = 2 then some [0, 3, 11, 12, 13] else none, fun i => if i = 2 then some [4, 5] else none, false, fun i => if i = 5 then some [0, 3, 6, 11, 12, 13, 33] else if i = 6 then some [0, 3, 4, 5, 11, 12, 13] else if i = 7 then some [4, 5] else none, fun _ => false, false, false, fun _ => false⟩
end P_register_hunt_read
namespace P_register_hunt_may
noncomputable def sh (C : Am.Callee) (L : Loops) (n0 : Nat) (t0 t1 t2 : Value) (s : AS) : Option (Value × List Blk × Option Nat) :=
(aBox y6 t1 s).bind fun r1 =>
(y3 PP y6 r1.1 0).bind fun x2 =>
(aLoad false 1 r1.2 x2).bind fun x3 =>
(aBin PP .shr y37 (.tmp 8) (.tmp 9) x3 t2).bind fun x4 =>
(aBin PP .and y37 (.tmp 10) (.const (.int .u64 1)) x4 (.int .u64 1)).bind fun x5 =>
(aBin PP .eql y37 (.tmp 11) (.const (.int .u64 0)) x5 (.int .u64 0)).bind fun x6 =>
bcase x6 (
(aNil t0).bind fun x7 =>
(y3 PP y10 x7 2).bind fun x8 =>
(aLoad false 1 r1.2 x8).bind fun x9 =>
(q15 PP y132 x9 t2).bind fun x10 =>
(aLoad false 1 r1.2 x10).bind fun x11 =>
(y3 PP y6 r1.1 0).bind fun x12 =>
(aLoad false 1 r1.2 x12).bind fun x13 =>
(aBin PP .andNot y37 (.tmp 20) (.tmp 22) x11 x13).bind fun x14 =>
(aBin PP .eql y37 (.tmp 23) (.const (.int .u64 0)) x14 (.int .u64 0)).bind fun x15 =>
fin PP false n0 [x15] r1.2) (
fin PP false n0 [.bool false] r1.2)
def T : Tab := ⟨fun i => none, fun i => none, false, fun i => none, fun _ => false, false, false, fun _ => false⟩
end P_register_hunt_may
namespace ghost_end
noncomputable def loop3 (C : Am.Callee) (L : Loops) (n0 : Nat) (t3 t6 t7 t8 : Value) (s : AS) : Option ((List Value × AS) ⊕ (AEx × List Value × AS)) :=
(aBin PP .lss t_int (.tmp 8) (.tmp 7) t8 t7).bind fun x2 =>
bcase x2 (
(q15 PP y9 t6 t8).bind fun x3 =>
(aLoad true 19 s x3).bind fun x4 =>
(aBox y4 ((zeroP PP y4).getD unk) s).bind fun r5 =>
(q43 19 r5.2 r5.1 x4).bind fun s6 =>
(y3 PP y4 r5.1 2).bind fun x7 =>
(aLoad false 1 s6 x7).bind fun x8 =>
(aBin PP .add t_int (.tmp 14) (.const (.int .i64 1)) x8 (.int .i64 1)).bind fun x9 =>
(y3 PP y4 r5.1 3).bind fun x10 =>
(aLoad false 1 s6 x10).bind fun x11 =>
(aBin PP .add t_int (.tmp 17) (.const (.int .i64 1)) x11 (.int .i64 1)).bind fun x12 =>
y16 PP .max #[t_int, t_int, t_int] [t3, x9, x12] s6 fun x13 s14 =>
(aBin PP .add t_int (.tmp 8) (.const (.int .i64 1)) t8 (.int .i64 1)).bind fun x15 =>
some (.inl ([x13, t6, t7, x15], s14))) (
some (.inr (.exit 0, [t3], s)))
noncomputable def loop3s (C : Am.Callee) (L : Loops) (n0 : Nat) : List Value × AS → Option ((List Value × AS) ⊕ (AEx × List Value × AS)) := fun s => loop3 C L n0 (s.1.getD 0 unk) (s.1.getD 1 unk) (s.1.getD 2 unk) (s.1.getD 3 unk) s.2
noncomputable def j2 (C : Am.Callee) (L : Loops) (n0 : Nat) (t3 : Value) (s : AS) : Option (Value × List Blk × Option Nat) :=
fin PP false n0 [t3] s
noncomputable def sh (C : Am.Callee) (L : Loops) (n0 : Nat) (t0 : Value) (s : AS) : Option (Value × List Blk × Option Nat) :=
((aLen PP y9 t0 s).bind fun x1 =>
(L n0 (loop3s C L n0) ([.int .i64 0, t0, x1, .int .i64 0], s)).bind fun r16 =>
match r16.1 with
| .normal => some (AEx.normal, [(r16.2.1.getD 0 unk)], r16.2.2)
| .exit i => if i = 0 then some (AEx.normal, [(r16.2.1.getD 0 unk)], r16.2.2) else some (AEx.exit i, [(r16.2.1.getD 0 unk)], r16.2.2)
| .ret => some (AEx.ret, [(r16.2.1.getD 0 unk)], r16.2.2)).bind fun r17 =>
match r17.1 with
| .normal => j2 C L n0 ((r17.2.1.getD 0 unk)) r17.2.2
| .exit i => none
| .ret => fin PP false n0 [unk] r17.2.2
def T : Tab := ⟨fun i => if i = 3 then some [3, 6, 7, 8] else none, fun i => if i = 3 then some [3] else none, false, fun i => if i = 7 then some [3] else none, fun _ => false, false, false, fun _ => false⟩
end ghost_end
namespace twainref37_whole
noncomputable def j1 (C : Am.Callee) (L : Loops) (n0 : Nat) (t1 t7 t8 t9 t21 : Value) (s : AS) : Option (AEx × List Value × AS) :=
bcase t21 (
some (AEx.ret, [t1, .bool false, t7, t8, t9], s)) (
some (AEx.normal, [t1, unk, t7, t8, t9], s))
noncomputable def j2 (C : Am.Callee) (L : Loops) (n0 : Nat) (t1 t7 t8 t9 : Value) (s : AS) : Option ((List Value × AS) ⊕ (AEx × List Value × AS)) :=
(aBin PP .add t_int (.tmp 9) (.const (.int .i64 1)) t9 (.int .i64 1)).bind fun x13 =>
some (.inl ([t1, t7, t8, x13], s))
noncomputable def loop2 (C : Am.Callee) (L : Loops) (n0 : Nat) (t1 t7 t8 t9 : Value) (s : AS) : Option ((List Value × AS) ⊕ (AEx × List Value × AS)) :=
(aBin PP .lss t_int (.tmp 9) (.tmp 8) t9 t8).bind fun x2 =>
bcase x2 (
((q15 PP y7 t7 t9).bind fun x3 =>
(aLoad true 19 s x3).bind fun x4 =>
(aBox y2 ((zeroP PP y2).getD unk) s).bind fun r5 =>
(q43 19 r5.2 r5.1 x4).bind fun s6 =>
((aLoad true 19 s6 r5.1).bind fun x7 =>
(C q102 [x7] s6.H).bind fun r8 =>
bcase r8.1 (
(C q67 [t1, t9] (AS.mk r8.2.1 (y8 s6.esc r8.2.2)).H).bind fun r9 =>
(aBin PP .lss t_int (.tmp 19) (.const (.int .i64 0)) r9.1 (.int .i64 0)).bind fun x10 =>
some (AEx.normal, [t1, t7, t8, t9, x10], AS.mk r9.2.1 (y8 (AS.mk r8.2.1 (y8 s6.esc r8.2.2)).esc r9.2.2))) (
some (AEx.normal, [t1, t7, t8, t9, .bool false], AS.mk r8.2.1 (y8 s6.esc r8.2.2)))).bind fun r11 =>
match r11.1 with
| .normal => j1 C L n0 ((r11.2.1.getD 0 unk)) ((r11.2.1.getD 1 unk)) ((r11.2.1.getD 2 unk)) ((r11.2.1.getD 3 unk)) ((r11.2.1.getD 4 unk)) r11.2.2
| .exit i => if i = 1 then some (AEx.normal, [(r11.2.1.getD 0 unk), unk, (r11.2.1.getD 1 unk), (r11.2.1.getD 2 unk), (r11.2.1.getD 3 unk)], r11.2.2) else some (AEx.exit i, [(r11.2.1.getD 0 unk), unk, (r11.2.1.getD 1 unk), (r11.2.1.getD 2 unk), (r11.2.1.getD 3 unk)], r11.2.2)
| .ret => some (AEx.ret, [(r11.2.1.getD 0 unk), unk, (r11.2.1.getD 1 unk), (r11.2.1.getD 2 unk), (r11.2.1.getD 3 unk)], r11.2.2)).bind fun r12 =>
match r12.1 with
| .normal => j2 C L n0 ((r12.2.1.getD 0 unk)) ((r12.2.1.getD 2 unk)) ((r12.2.1.getD 3 unk)) ((r12.2.1.getD 4 unk)) r12.2.2
| .exit i => some (.inr (.exit i, [(r12.2.1.getD 1 unk)], r12.2.2))
| .ret => some (.inr (.ret, [(r12.2.1.getD 1 unk)], r12.2.2))) (
some (.inr (.exit 0, [unk], s)))
noncomputable def loop2s (C : Am.Callee) (L : Loops) (n0 : Nat) : List Value × AS → Option ((List Value × AS) ⊕ (AEx × List Value × AS)) := fun s => loop2 C L n0 (s.1.getD 0 unk) (s.1.getD 1 unk) (s.1.getD 2 unk) (s.1.getD 3 unk) s.2
noncomputable def j4 (C : Am.Callee) (L : Loops) (n0 : Nat) (s : AS) : Option (Value × List Blk × Option Nat) :=
fin PP false n0 [.bool true] s
noncomputable def sh (C : Am.Callee) (L : Loops) (n0 : Nat) (t0 t1 : Value) (s : AS) : Option (Value × List Blk × Option Nat) :=
((aLen PP y7 t0 s).bind fun x1 =>
(L n0 (loop2s C L n0) ([t1, t0, x1, .int .i64 0], s)).bind fun r14 =>
match r14.1 with
| .normal => some (AEx.normal, [(r14.2.1.getD 0 unk)], r14.2.2)
| .exit i => if i = 0 then some (AEx.normal, [(r14.2.1.getD 0 unk)], r14.2.2) else some (AEx.exit i, [(r14.2.1.getD 0 unk)], r14.2.2)
| .ret => some (AEx.ret, [(r14.2.1.getD 0 unk)], r14.2.2)).bind fun r15 =>
match r15.1 with
| .normal => j4 C L n0  r15.2.2
| .exit i => none
| .ret => fin PP false n0 [(r15.2.1.getD 0 unk)] r15.2.2
def T : Tab := ⟨fun i => if i = 2 then some [1, 7, 8, 9] else none, fun i => if i = 2 then some [4] else none, false, fun i => if i = 5 then some [1, 7, 8, 9, 21] else if i = 6 then some [1, 4, 7, 8, 9] else if i = 7 then some [4] else none, fun _ => false, false, false, fun _ => false⟩
end twainref37_whole
namespace twainref37_next
noncomputable def j0 (C : Am.Callee) (L : Loops) (n0 : Nat) (t0 t1 t2 t31 : Value) (s : AS) : Option (AEx × List Value × AS) :=
bcase t31 (
some (AEx.ret, [t0, t1, t2, .bool false], s)) (
some (AEx.normal, [t0, t1, t2, unk], s))
noncomputable def j3 (C : Am.Callee) (L : Loops) (n0 : Nat) (t0 t1 t2 t32 t33 t34 t55 : Value) (s : AS) : Option (AEx × List Value × AS) :=
bcase t55 (
some (AEx.ret, [t0, t1, t2, .bool false, t32, t33, t34], s)) (
some (AEx.normal, [t0, t1, t2, unk, t32, t33, t34], s))
noncomputable def j4 (C : Am.Callee) (L : Loops) (n0 : Nat) (t0 t1 t2 t32 t33 t34 : Value) (s : AS) : Option ((List Value × AS) ⊕ (AEx × List Value × AS)) :=
(aBin PP .add t_int (.tmp 34) (.const (.int .i64 1)) t34 (.int .i64 1)).bind fun x30 =>
some (.inl ([t0, t1, t2, t32, t33, x30], s))
noncomputable def loop4 (C : Am.Callee) (L : Loops) (n0 : Nat) (t0 t1 t2 t32 t33 t34 : Value) (s : AS) : Option ((List Value × AS) ⊕ (AEx × List Value × AS)) :=
(aBin PP .lss t_int (.tmp 34) (.tmp 33) t34 t33).bind fun x16 =>
bcase x16 (
((q15 PP y7 t32 t34).bind fun x17 =>
(aLoad true 19 s x17).bind fun x18 =>
(aBox y2 ((zeroP PP y2).getD unk) s).bind fun r19 =>
(q43 19 r19.2 r19.1 x18).bind fun s20 =>
((aBin PP .neq t_int (.tmp 39) (.tmp 40) t34 t2).bind fun x21 =>
bcase x21 (
(aLoad true 19 s20 r19.1).bind fun x22 =>
(q15 PP y7 t0 t2).bind fun x23 =>
(aLoad true 19 s20 x23).bind fun x24 =>
(C q92 [x22, x24] s20.H).bind fun r25 =>
bcase r25.1 (
(C q67 [t1, t34] (AS.mk r25.2.1 (y8 s20.esc r25.2.2)).H).bind fun r26 =>
(aBin PP .lss t_int (.tmp 53) (.const (.int .i64 0)) r26.1 (.int .i64 0)).bind fun x27 =>
some (AEx.normal, [t0, t1, t2, t32, t33, t34, x27], AS.mk r26.2.1 (y8 (AS.mk r25.2.1 (y8 s20.esc r25.2.2)).esc r26.2.2))) (
some (AEx.normal, [t0, t1, t2, t32, t33, t34, .bool false], AS.mk r25.2.1 (y8 s20.esc r25.2.2)))) (
some (AEx.normal, [t0, t1, t2, t32, t33, t34, .bool false], s20))).bind fun r28 =>
match r28.1 with
| .normal => j3 C L n0 ((r28.2.1.getD 0 unk)) ((r28.2.1.getD 1 unk)) ((r28.2.1.getD 2 unk)) ((r28.2.1.getD 3 unk)) ((r28.2.1.getD 4 unk)) ((r28.2.1.getD 5 unk)) ((r28.2.1.getD 6 unk)) r28.2.2
| .exit i => if i = 1 then some (AEx.normal, [(r28.2.1.getD 0 unk), (r28.2.1.getD 1 unk), (r28.2.1.getD 2 unk), unk, (r28.2.1.getD 3 unk), (r28.2.1.getD 4 unk), (r28.2.1.getD 5 unk)], r28.2.2) else some (AEx.exit i, [(r28.2.1.getD 0 unk), (r28.2.1.getD 1 unk), (r28.2.1.getD 2 unk), unk, (r28.2.1.getD 3 unk), (r28.2.1.getD 4 unk), (r28.2.1.getD 5 unk)], r28.2.2)
| .ret => some (AEx.ret, [(r28.2.1.getD 0 unk), (r28.2.1.getD 1 unk), (r28.2.1.getD 2 unk), unk, (r28.2.1.getD 3 unk), (r28.2.1.getD 4 unk), (r28.2.1.getD 5 unk)], r28.2.2)).bind fun r29 =>
match r29.1 with
| .normal => j4 C L n0 ((r29.2.1.getD 0 unk)) ((r29.2.1.getD 1 unk)) ((r29.2.1.getD 2 unk)) ((r29.2.1.getD 4 unk)) ((r29.2.1.getD 5 unk)) ((r29.2.1.getD 6 unk)) r29.2.2
| .exit i => some (.inr (.exit i, [(r29.2.1.getD 3 unk)], r29.2.2))
| .ret => some (.inr (.ret, [(r29.2.1.getD 3 unk)], r29.2.2))) (
some (.inr (.exit 0, [unk], s)))
noncomputable def loop4s (C : Am.Callee) (L : Loops) (n0 : Nat) : List Value × AS → Option ((List Value × AS) ⊕ (AEx × List Value × AS)) := fun s => loop4 C L n0 (s.1.getD 0 unk) (s.1.getD 1 unk) (s.1.getD 2 unk) (s.1.getD 3 unk) (s.1.getD 4 unk) (s.1.getD 5 unk) s.2
noncomputable def j6 (C : Am.Callee) (L : Loops) (n0 : Nat) (s : AS) : Option (Value × List Blk × Option Nat) :=
fin PP false n0 [.bool true] s
noncomputable def j1 (C : Am.Callee) (L : Loops) (n0 : Nat) (t0 t1 t2 : Value) (s : AS) : Option (Value × List Blk × Option Nat) :=
((aLen PP y7 t0 s).bind fun x15 =>
(L n0 (loop4s C L n0) ([t0, t1, t2, t0, x15, .int .i64 0], s)).bind fun r31 =>
match r31.1 with
| .normal => some (AEx.normal, [(r31.2.1.getD 0 unk)], r31.2.2)
| .exit i => if i = 0 then some (AEx.normal, [(r31.2.1.getD 0 unk)], r31.2.2) else some (AEx.exit i, [(r31.2.1.getD 0 unk)], r31.2.2)
| .ret => some (AEx.ret, [(r31.2.1.getD 0 unk)], r31.2.2)).bind fun r32 =>
match r32.1 with
| .normal => j6 C L n0  r32.2.2
| .exit i => none
| .ret => fin PP false n0 [(r32.2.1.getD 0 unk)] r32.2.2
noncomputable def sh (C : Am.Callee) (L : Loops) (n0 : Nat) (t0 t1 t2 t3 : Value) (s : AS) : Option (Value × List Blk × Option Nat) :=
(aBox y1 t3 s).bind fun r1 =>
(((C q67 [t1, t2] r1.2.H).bind fun r2 =>
(aBin PP .geq t_int (.tmp 13) (.const (.int .i64 0)) r2.1 (.int .i64 0)).bind fun x3 =>
bcase x3 (
some (AEx.normal, [t0, t1, t2, .bool true], AS.mk r2.2.1 (y8 r1.2.esc r2.2.2))) (
(q15 PP y7 t0 t2).bind fun x4 =>
(y3 PP y2 x4 0).bind fun x5 =>
(aLoad false 1 (AS.mk r2.2.1 (y8 r1.2.esc r2.2.2)) x5).bind fun x6 =>
(aUn PP .not x6).bind fun x7 =>
bcase x7 (
(q15 PP y7 t0 t2).bind fun x8 =>
(y3 PP y2 x8 1).bind fun x9 =>
(aLoad true 16 (AS.mk r2.2.1 (y8 r1.2.esc r2.2.2)) x9).bind fun x10 =>
(aLoad true 16 (AS.mk r2.2.1 (y8 r1.2.esc r2.2.2)) r1.1).bind fun x11 =>
(aBin PP .neq y1 (.tmp 27) (.tmp 28) x10 x11).bind fun x12 =>
some (AEx.normal, [t0, t1, t2, x12], AS.mk r2.2.1 (y8 r1.2.esc r2.2.2))) (
some (AEx.normal, [t0, t1, t2, .bool false], AS.mk r2.2.1 (y8 r1.2.esc r2.2.2))))).bind fun r13 =>
match r13.1 with
| .normal => j0 C L n0 ((r13.2.1.getD 0 unk)) ((r13.2.1.getD 1 unk)) ((r13.2.1.getD 2 unk)) ((r13.2.1.getD 3 unk)) r13.2.2
| .exit i => some (AEx.exit i, [(r13.2.1.getD 0 unk), (r13.2.1.getD 1 unk), (r13.2.1.getD 2 unk), unk], r13.2.2)
| .ret => some (AEx.ret, [(r13.2.1.getD 0 unk), (r13.2.1.getD 1 unk), (r13.2.1.getD 2 unk), unk], r13.2.2)).bind fun r14 =>
match r14.1 with
| .normal => j1 C L n0 ((r14.2.1.getD 0 unk)) ((r14.2.1.getD 1 unk)) ((r14.2.1.getD 2 unk)) r14.2.2
| .exit i => none
| .ret => fin PP false n0 [(r14.2.1.getD 3 unk)] r14.2.2
def T : Tab := ⟨fun i => if i = 4 then some [0, 1, 2, 32, 33, 34] else none, fun i => if i = 4 then some [8] else none, false, fun i => if i = 2 then some [0, 1, 2, 31] else if i = 3 then some [0, 1, 2, 8] else if i = 7 then some [0, 1, 2, 32, 33, 34, 55] else if i = 8 then some [0, 1, 2, 8, 32, 33, 34] else if i = 9 then some [8] else none, fun _ => false, false, false, fun _ => false⟩
end twainref37_next
namespace span_Plain
noncomputable def sh (C : Am.Callee) (L : Loops) (n0 : Nat) (t0 : Value) (s : AS) : Option (Value × List Blk × Option Nat) :=
(aBox y15 t0 s).bind fun r1 =>
(y3 PP y15 r1.1 0).bind fun x2 =>
(aLoad false 1 r1.2 x2).bind fun x3 =>
(C q140 [x3] r1.2.H).bind fun r4 =>
bcase r4.1 (
(y3 PP y15 r1.1 1).bind fun x5 =>
(aLoad false 1 (AS.mk r4.2.1 (y8 r1.2.esc r4.2.2)) x5).bind fun x6 =>
(C q140 [x6] (AS.mk r4.2.1 (y8 r1.2.esc r4.2.2)).H).bind fun r7 =>
fin PP false n0 [r7.1] (AS.mk r7.2.1 (y8 (AS.mk r4.2.1 (y8 r1.2.esc r4.2.2)).esc r7.2.2))) (
fin PP false n0 [.bool false] (AS.mk r4.2.1 (y8 r1.2.esc r4.2.2)))
def T : Tab := ⟨fun i => none, fun i => none, false, fun i => none, fun _ => false, false, false, fun _ => false⟩
end span_Plain
namespace span_side_from
noncomputable def sh (C : Am.Callee) (L : Loops) (n0 : Nat) (t0 t1 : Value) (s : AS) : Option (Value × List Blk × Option Nat) :=
(aBox q82 t0 s).bind fun r1 =>
(y3 PP q82 r1.1 0).bind fun x2 =>
(y3 PP y15 x2 0).bind fun x3 =>
(aLoad false 1 r1.2 x3).bind fun x4 =>
y16 PP .max #[t_int, t_int] [x4, t1] r1.2 fun x5 s6 =>
fin PP false n0 [x5] s6
def T : Tab := ⟨fun i => none, fun i => none, false, fun i => none, fun _ => false, false, false, fun _ => false⟩
end span_side_from
namespace span_side_to
noncomputable def sh (C : Am.Callee) (L : Loops) (n0 : Nat) (t0 t1 : Value) (s : AS) : Option (Value × List Blk × Option Nat) :=
(aBox q82 t0 s).bind fun r1 =>
(y3 PP q82 r1.1 0).bind fun x2 =>
(aLoad true 2 r1.2 x2).bind fun x3 =>
(C q189 [x3] r1.2.H).bind fun r4 =>
y16 PP .min #[t_int, t_int] [r4.1, t1] (AS.mk r4.2.1 (y8 r1.2.esc r4.2.2)) fun x5 s6 =>
fin PP false n0 [x5] s6
def T : Tab := ⟨fun i => none, fun i => none, false, fun i => none, fun _ => false, false, false, fun _ => false⟩
end span_side_to
namespace span_End
noncomputable def sh (C : Am.Callee) (L : Loops) (n0 : Nat) (t0 : Value) (s : AS) : Option (Value × List Blk × Option Nat) :=
(aBox y15 t0 s).bind fun r1 =>
(aLoad true 2 r1.2 r1.1).bind fun x2 =>
(C q139 [x2] r1.2.H).bind fun r3 =>
(aUn PP .not r3.1).bind fun x4 =>
bcase x4 (
fin PP false n0 [.int .i64 0] (AS.mk r3.2.1 (y8 r1.2.esc r3.2.2))) (
(y3 PP y15 r1.1 0).bind fun x5 =>
(aLoad false 1 (AS.mk r3.2.1 (y8 r1.2.esc r3.2.2)) x5).bind fun x6 =>
(y3 PP y15 r1.1 1).bind fun x7 =>
(aLoad false 1 (AS.mk r3.2.1 (y8 r1.2.esc r3.2.2)) x7).bind fun x8 =>
(aBin PP .add t_int (.tmp 7) (.tmp 9) x6 x8).bind fun x9 =>
fin PP false n0 [x9] (AS.mk r3.2.1 (y8 r1.2.esc r3.2.2)))
def T : Tab := ⟨fun i => none, fun i => none, false, fun i => none, fun _ => false, false, false, fun _ => false⟩
end span_End
namespace twainref04_Plain
noncomputable def sh (C : Am.Callee) (L : Loops) (n0 : Nat) (t0 : Value) (s : AS) : Option (Value × List Blk × Option Nat) :=
(aBox y15 t0 s).bind fun r1 =>
(y3 PP y15 r1.1 0).bind fun x2 =>
(aLoad false 1 r1.2 x2).bind fun x3 =>
(aBin PP .geq t_int (.tmp 4) (.const (.int .i64 0)) x3 (.int .i64 0)).bind fun x4 =>
bcase x4 (
(y3 PP y15 r1.1 0).bind fun x5 =>
(aLoad false 1 r1.2 x5).bind fun x6 =>
(aBin PP .leq t_int (.tmp 8) (.const (.int .i64 1073741824)) x6 (.int .i64 1073741824)).bind fun x7 =>
bcase x7 (
(y3 PP y15 r1.1 1).bind fun x8 =>
(aLoad false 1 r1.2 x8).bind fun x9 =>
(aBin PP .geq t_int (.tmp 13) (.const (.int .i64 0)) x9 (.int .i64 0)).bind fun x10 =>
bcase x10 (
(y3 PP y15 r1.1 1).bind fun x11 =>
(aLoad false 1 r1.2 x11).bind fun x12 =>
(aBin PP .leq t_int (.tmp 18) (.const (.int .i64 1073741824)) x12 (.int .i64 1073741824)).bind fun x13 =>
fin PP false n0 [x13] r1.2) (
fin PP false n0 [.bool false] r1.2)) (
fin PP false n0 [.bool false] r1.2)) (
fin PP false n0 [.bool false] r1.2)
def T : Tab := ⟨fun i => none, fun i => none, false, fun i => none, fun _ => false, false, false, fun _ => false⟩
end twainref04_Plain
namespace span_within
noncomputable def sh (C : Am.Callee) (L : Loops) (n0 : Nat) (t0 : Value) (s : AS) : Option (Value × List Blk × Option Nat) :=
(aBin PP .geq t_int (.tmp 3) (.const (.int .i64 0)) t0 (.int .i64 0)).bind fun x1 =>
bcase x1 (
(aBin PP .leq t_int (.tmp 6) (.const (.int .i64 1073741824)) t0 (.int .i64 1073741824)).bind fun x2 =>
fin PP false n0 [x2] s) (
fin PP false n0 [.bool false] s)
def T : Tab := ⟨fun i => none, fun i => none, false, fun i => none, fun _ => false, false, false, fun _ => false⟩
end span_within
end Go.Proofs.Ytfinilnkempofaa
