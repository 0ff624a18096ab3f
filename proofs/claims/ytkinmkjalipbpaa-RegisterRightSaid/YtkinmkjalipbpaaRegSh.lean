/- A part of the proof: RegSh. Its conditions: none. -/
import Derived.Test.YtkinmkjalipbpaaAm23
import Derived.Test.YtkinmkjalipbpaaChecked
set_option linter.all false
set_option linter.unusedVariables false
set_option linter.unusedSimpArgs false
set_option linter.unnecessarySimpa false
namespace Go.Proofs.Ytkinmkjalipbpaa
open Go Go.Am
set_option linter.unusedVariables false
noncomputable abbrev PP : Program := Try.prog
namespace f3
noncomputable def j0 (C : Am.Callee) (L : Loops) (n0 : Nat) (t0 t3 t6 t8 t52 : Value) (s : AS) : Option (AEx × List Value × AS) :=
bcase t52 (
some (AEx.ret, [t0, t3, .bool false, t6, t8], s)) (
some (AEx.normal, [t0, t3, unk, t6, t8], s))
noncomputable def j1 (C : Am.Callee) (L : Loops) (n0 : Nat) (t0 t3 t6 t8 : Value) (s : AS) : Option (Value × List Blk × Option Nat) :=
(aUn PP .not t6).bind fun x24 =>
bcase x24 (
(C 9 [] s.H).bind fun r25 =>
fin PP false n0 [r25.1] (AS.mk r25.2.1 (joinEsc s.esc r25.2.2))) (
(aLoad true 16 s t3).bind fun x26 =>
(C 14 [t0, x26, t8] s.H).bind fun r27 =>
bcase r27.1 (
(C 9 [] (AS.mk r27.2.1 (joinEsc s.esc r27.2.2)).H).bind fun r28 =>
fin PP false n0 [r28.1] (AS.mk r28.2.1 (joinEsc (AS.mk r27.2.1 (joinEsc s.esc r27.2.2)).esc r28.2.2))) (
fin PP false n0 [.bool false] (AS.mk r27.2.1 (joinEsc s.esc r27.2.2))))
noncomputable def sh (C : Am.Callee) (L : Loops) (n0 : Nat) (t0 t1 : Value) (s : AS) : Option (Value × List Blk × Option Nat) :=
(aBox 24 t1 s).bind fun r1 =>
(aLen PP 22 t0 r1.2).bind fun x2 =>
(aBin PP .gtr 3 (.tmp 14) (.const (.int .i64 9)) x2 (.int .i64 9)).bind fun x3 =>
bcase x3 (
(C 9 [] r1.2.H).bind fun r4 =>
fin PP false n0 [r4.1] (AS.mk r4.2.1 (joinEsc r1.2.esc r4.2.2))) (
(C 10 [t0] r1.2.H).bind fun r5 =>
(aLoad true 16 (AS.mk r5.2.1 (joinEsc r1.2.esc r5.2.2)) r1.1).bind fun x6 =>
(C 11 [r5.1, x6] (AS.mk r5.2.1 (joinEsc r1.2.esc r5.2.2)).H).bind fun r7 =>
(pureRun PP (Instr.extract r7.1 0)).bind fun x8 =>
(pureRun PP (Instr.extract r7.1 1)).bind fun x9 =>
(aLoad true 16 (AS.mk r7.2.1 (joinEsc (AS.mk r5.2.1 (joinEsc r1.2.esc r5.2.2)).esc r7.2.2)) r1.1).bind fun x10 =>
(C 12 [r5.1, x10] (AS.mk r7.2.1 (joinEsc (AS.mk r5.2.1 (joinEsc r1.2.esc r5.2.2)).esc r7.2.2)).H).bind fun r11 =>
(pureRun PP (Instr.extract r11.1 0)).bind fun x12 =>
(pureRun PP (Instr.extract r11.1 1)).bind fun x13 =>
(aLoad true 16 (AS.mk r11.2.1 (joinEsc (AS.mk r7.2.1 (joinEsc (AS.mk r5.2.1 (joinEsc r1.2.esc r5.2.2)).esc r7.2.2)).esc r11.2.2)) r1.1).bind fun x14 =>
(C 13 [t0, x14] (AS.mk r11.2.1 (joinEsc (AS.mk r7.2.1 (joinEsc (AS.mk r5.2.1 (joinEsc r1.2.esc r5.2.2)).esc r7.2.2)).esc r11.2.2)).H).bind fun r15 =>
(pureRun PP (Instr.extract r15.1 0)).bind fun x16 =>
(pureRun PP (Instr.extract r15.1 1)).bind fun x17 =>
(pureRun PP (Instr.extract r15.1 2)).bind fun x18 =>
(((aBin PP .neq 28 (.tmp 38) (.const (.int .i64 0)) x9 (.int .i64 0)).bind fun x19 =>
bcase x19 (
some (AEx.normal, [t0, r1.1, x8, x12, .bool true], AS.mk r15.2.1 (joinEsc (AS.mk r11.2.1 (joinEsc (AS.mk r7.2.1 (joinEsc (AS.mk r5.2.1 (joinEsc r1.2.esc r5.2.2)).esc r7.2.2)).esc r11.2.2)).esc r15.2.2))) (
(aBin PP .neq 4 (.tmp 41) (.tmp 42) x8 x13).bind fun x20 =>
bcase x20 (
some (AEx.normal, [t0, r1.1, x8, x12, .bool true], AS.mk r15.2.1 (joinEsc (AS.mk r11.2.1 (joinEsc (AS.mk r7.2.1 (joinEsc (AS.mk r5.2.1 (joinEsc r1.2.esc r5.2.2)).esc r7.2.2)).esc r11.2.2)).esc r15.2.2))) (
bcase x18 (
(aBin PP .neq 4 (.tmp 48) (.tmp 49) x8 x17).bind fun x21 =>
some (AEx.normal, [t0, r1.1, x8, x12, x21], AS.mk r15.2.1 (joinEsc (AS.mk r11.2.1 (joinEsc (AS.mk r7.2.1 (joinEsc (AS.mk r5.2.1 (joinEsc r1.2.esc r5.2.2)).esc r7.2.2)).esc r11.2.2)).esc r15.2.2))) (
some (AEx.normal, [t0, r1.1, x8, x12, .bool false], AS.mk r15.2.1 (joinEsc (AS.mk r11.2.1 (joinEsc (AS.mk r7.2.1 (joinEsc (AS.mk r5.2.1 (joinEsc r1.2.esc r5.2.2)).esc r7.2.2)).esc r11.2.2)).esc r15.2.2)))))).bind fun r22 =>
match r22.1 with
| .normal => j0 C L n0 ((r22.2.1.getD 0 unk)) ((r22.2.1.getD 1 unk)) ((r22.2.1.getD 2 unk)) ((r22.2.1.getD 3 unk)) ((r22.2.1.getD 4 unk)) r22.2.2
| .exit i => some (AEx.exit i, [(r22.2.1.getD 0 unk), (r22.2.1.getD 1 unk), unk, (r22.2.1.getD 2 unk), (r22.2.1.getD 3 unk)], r22.2.2)
| .ret => some (AEx.ret, [(r22.2.1.getD 0 unk), (r22.2.1.getD 1 unk), unk, (r22.2.1.getD 2 unk), (r22.2.1.getD 3 unk)], r22.2.2)).bind fun r23 =>
match r23.1 with
| .normal => j1 C L n0 ((r23.2.1.getD 0 unk)) ((r23.2.1.getD 1 unk)) ((r23.2.1.getD 3 unk)) ((r23.2.1.getD 4 unk)) r23.2.2
| .exit i => none
| .ret => fin PP false n0 [(r23.2.1.getD 2 unk)] r23.2.2)
def T : Tab := ⟨fun i => none, fun i => none, false, fun i => if i = 8 then some [0, 3, 6, 8, 52] else if i = 9 then some [0, 3, 4, 6, 8] else none, fun _ => false, false⟩
end f3
namespace f4
noncomputable def j0 (C : Am.Callee) (L : Loops) (n0 : Nat) (t2 t3 t4 t21 : Value) (s : AS) : Option (AEx × List Value × AS) :=
bcase t21 (
(C 9 [] s.H).bind fun r9 =>
some (AEx.ret, [t2, t3, t4, r9.1], AS.mk r9.2.1 (joinEsc s.esc r9.2.2))) (
some (AEx.normal, [t2, t3, t4, unk], s))
noncomputable def loop5 (C : Am.Callee) (L : Loops) (n0 : Nat) (t3 t7 t26 t27 t28 : Value) (s : AS) : Option ((List Value × AS) ⊕ (AEx × List Value × AS)) :=
(aBin PP .lss 3 (.tmp 28) (.tmp 27) t28 t27).bind fun x15 =>
bcase x15 (
(aIndexAddr PP 38 t26 t28).bind fun x16 =>
(aLoad true 16 s x16).bind fun x17 =>
(aBox 24 ((zeroP PP 24).getD unk) s).bind fun r18 =>
(aStore 16 r18.2 r18.1 x17).bind fun s19 =>
(aLoad true 16 s19 r18.1).bind fun x20 =>
(aBin PP .mul 3 (.const (.int .i64 2)) (.tmp 35) (.int .i64 2) t28).bind fun x21 =>
(aBin PP .add 3 (.const (.int .i64 2)) (.tmp 36) (.int .i64 2) x21).bind fun x22 =>
(aBin PP .mul 3 (.const (.int .i64 2)) (.tmp 38) (.int .i64 2) t28).bind fun x23 =>
(aBin PP .add 3 (.const (.int .i64 3)) (.tmp 39) (.int .i64 3) x23).bind fun x24 =>
(aBuild PP 40 [(0, .bool true), (1, x20), (2, x22), (3, x24)]).bind fun x25 =>
(bsl PP 26 1 [0] [x25] s19).bind fun r26 =>
eBuiltin PP .append #[26, 26] [t7, r26.1] r26.2 fun x27 s28 =>
(aBin PP .add 3 (.tmp 28) (.const (.int .i64 1)) t28 (.int .i64 1)).bind fun x29 =>
some (.inl ([t3, x27, t26, t27, x29], s28))) (
some (.inr (.exit 0, [t3, t7], s)))
noncomputable def loop5s (C : Am.Callee) (L : Loops) (n0 : Nat) : List Value × AS → Option ((List Value × AS) ⊕ (AEx × List Value × AS)) := fun s => loop5 C L n0 (s.1.getD 0 unk) (s.1.getD 1 unk) (s.1.getD 2 unk) (s.1.getD 3 unk) (s.1.getD 4 unk) s.2
noncomputable def j4 (C : Am.Callee) (L : Loops) (n0 : Nat) (t3 t7 : Value) (s : AS) : Option (Value × List Blk × Option Nat) :=
(aLoad true 16 s t3).bind fun x32 =>
(C 11 [t7, x32] s.H).bind fun r33 =>
(pureRun PP (Instr.extract r33.1 0)).bind fun x34 =>
(pureRun PP (Instr.extract r33.1 1)).bind fun x35 =>
(aLoad true 16 (AS.mk r33.2.1 (joinEsc s.esc r33.2.2)) t3).bind fun x36 =>
(C 12 [t7, x36] (AS.mk r33.2.1 (joinEsc s.esc r33.2.2)).H).bind fun r37 =>
(pureRun PP (Instr.extract r37.1 0)).bind fun x38 =>
(pureRun PP (Instr.extract r37.1 1)).bind fun x39 =>
(aBin PP .eql 28 (.tmp 57) (.const (.int .i64 0)) x35 (.int .i64 0)).bind fun x40 =>
bcase x40 (
(aUn PP .not x34).bind fun x41 =>
bcase x41 (
(aUn PP .not x39).bind fun x42 =>
bcase x42 (
(aLen PP 31 x38 (AS.mk r37.2.1 (joinEsc (AS.mk r33.2.1 (joinEsc s.esc r33.2.2)).esc r37.2.2))).bind fun x43 =>
(aBin PP .eql 3 (.tmp 69) (.const (.int .i64 0)) x43 (.int .i64 0)).bind fun x44 =>
bcase x44 (
(C 9 [] (AS.mk r37.2.1 (joinEsc (AS.mk r33.2.1 (joinEsc s.esc r33.2.2)).esc r37.2.2)).H).bind fun r45 =>
fin PP false n0 [r45.1] (AS.mk r45.2.1 (joinEsc (AS.mk r37.2.1 (joinEsc (AS.mk r33.2.1 (joinEsc s.esc r33.2.2)).esc r37.2.2)).esc r45.2.2))) (
fin PP false n0 [.bool false] (AS.mk r37.2.1 (joinEsc (AS.mk r33.2.1 (joinEsc s.esc r33.2.2)).esc r37.2.2)))) (
fin PP false n0 [.bool false] (AS.mk r37.2.1 (joinEsc (AS.mk r33.2.1 (joinEsc s.esc r33.2.2)).esc r37.2.2)))) (
fin PP false n0 [.bool false] (AS.mk r37.2.1 (joinEsc (AS.mk r33.2.1 (joinEsc s.esc r33.2.2)).esc r37.2.2)))) (
fin PP false n0 [.bool false] (AS.mk r37.2.1 (joinEsc (AS.mk r33.2.1 (joinEsc s.esc r33.2.2)).esc r37.2.2)))
noncomputable def j1 (C : Am.Callee) (L : Loops) (n0 : Nat) (t2 t3 t4 : Value) (s : AS) : Option (Value × List Blk × Option Nat) :=
(aLoad true 16 s t4).bind fun x11 =>
(aBuild PP 40 [(1, x11), (2, .int .i64 0), (3, .int .i64 1)]).bind fun x12 =>
(bsl PP 26 1 [0] [x12] s).bind fun r13 =>
((aLen PP 38 t2 r13.2).bind fun x14 =>
(L n0 (loop5s C L n0) ([t3, r13.1, t2, x14, .int .i64 0], r13.2)).bind fun r30 =>
match r30.1 with
| .normal => some (AEx.normal, [(r30.2.1.getD 0 unk), (r30.2.1.getD 1 unk)], r30.2.2)
| .exit i => if i = 0 then some (AEx.normal, [(r30.2.1.getD 0 unk), (r30.2.1.getD 1 unk)], r30.2.2) else some (AEx.exit i, [(r30.2.1.getD 0 unk), (r30.2.1.getD 1 unk)], r30.2.2)
| .ret => some (AEx.ret, [(r30.2.1.getD 0 unk), (r30.2.1.getD 1 unk)], r30.2.2)).bind fun r31 =>
match r31.1 with
| .normal => j4 C L n0 (((jFrz PP n0 r31.2.1 r31.2.2 true).1.getD 0 unk)) (((jFrz PP n0 r31.2.1 r31.2.2 true).1.getD 1 unk)) ((jFrz PP n0 r31.2.1 r31.2.2 true).2)
| .exit i => none
| .ret => fin PP false n0 [unk] r31.2.2
noncomputable def sh (C : Am.Callee) (L : Loops) (n0 : Nat) (t0 t1 t2 : Value) (s : AS) : Option (Value × List Blk × Option Nat) :=
(aBox 24 t0 s).bind fun r1 =>
(aBox 24 t1 r1.2).bind fun r2 =>
(((aLen PP 38 t2 r2.2).bind fun x3 =>
(aBin PP .gtr 3 (.tmp 15) (.const (.int .i64 30)) x3 (.int .i64 30)).bind fun x4 =>
bcase x4 (
some (AEx.normal, [t2, r1.1, r2.1, .bool true], r2.2)) (
(aLoad true 16 r2.2 r1.1).bind fun x5 =>
(aLoad true 16 r2.2 r2.1).bind fun x6 =>
(aBin PP .eql 24 (.tmp 18) (.tmp 19) x5 x6).bind fun x7 =>
some (AEx.normal, [t2, r1.1, r2.1, x7], r2.2))).bind fun r8 =>
match r8.1 with
| .normal => j0 C L n0 ((r8.2.1.getD 0 unk)) ((r8.2.1.getD 1 unk)) ((r8.2.1.getD 2 unk)) ((r8.2.1.getD 3 unk)) r8.2.2
| .exit i => some (AEx.exit i, [(r8.2.1.getD 0 unk), (r8.2.1.getD 1 unk), (r8.2.1.getD 2 unk), unk], r8.2.2)
| .ret => some (AEx.ret, [(r8.2.1.getD 0 unk), (r8.2.1.getD 1 unk), (r8.2.1.getD 2 unk), unk], r8.2.2)).bind fun r10 =>
match r10.1 with
| .normal => j1 C L n0 ((r10.2.1.getD 0 unk)) ((r10.2.1.getD 1 unk)) ((r10.2.1.getD 2 unk)) r10.2.2
| .exit i => none
| .ret => fin PP false n0 [(r10.2.1.getD 3 unk)] r10.2.2
def T : Tab := ⟨fun i => if i = 5 then some [3, 7, 26, 27, 28] else none, fun i => if i = 5 then some [3, 7] else none, false, fun i => if i = 2 then some [2, 3, 4, 21] else if i = 3 then some [2, 3, 4, 6] else if i = 9 then some [3, 7] else none, fun i => i == 9, false⟩
end f4
namespace f9
noncomputable def sh (C : Am.Callee) (L : Loops) (n0 : Nat) (s : AS) : Option (Value × List Blk × Option Nat) :=
(aBuild PP 40 [(3, .int .i64 1)]).bind fun x1 =>
(bsl PP 26 1 [0] [x1] s).bind fun r2 =>
(aBuild PP 24 []).bind fun x3 =>
(C 11 [r2.1, x3] r2.2.H).bind fun r4 =>
(pureRun PP (Instr.extract r4.1 0)).bind fun x5 =>
(pureRun PP (Instr.extract r4.1 1)).bind fun x6 =>
(aBuild PP 24 [(0, .int .u8 1)]).bind fun x7 =>
(aBuild PP 40 [(3, .int .i64 1), (1, x7)]).bind fun x8 =>
(bsl PP 26 1 [0] [x8] (AS.mk r4.2.1 (joinEsc r2.2.esc r4.2.2))).bind fun r9 =>
(aBuild PP 24 []).bind fun x10 =>
(C 11 [r9.1, x10] r9.2.H).bind fun r11 =>
(pureRun PP (Instr.extract r11.1 0)).bind fun x12 =>
(pureRun PP (Instr.extract r11.1 1)).bind fun x13 =>
bcase x5 (
(aBin PP .eql 28 (.tmp 22) (.const (.int .i64 0)) x6 (.int .i64 0)).bind fun x14 =>
bcase x14 (
(aUn PP .not x12).bind fun x15 =>
bcase x15 (
(aBin PP .eql 28 (.tmp 30) (.const (.int .i64 0)) x13 (.int .i64 0)).bind fun x16 =>
fin PP false n0 [x16] (AS.mk r11.2.1 (joinEsc r9.2.esc r11.2.2))) (
fin PP false n0 [.bool false] (AS.mk r11.2.1 (joinEsc r9.2.esc r11.2.2)))) (
fin PP false n0 [.bool false] (AS.mk r11.2.1 (joinEsc r9.2.esc r11.2.2)))) (
fin PP false n0 [.bool false] (AS.mk r11.2.1 (joinEsc r9.2.esc r11.2.2)))
def T : Tab := ⟨fun i => none, fun i => none, false, fun i => none, fun _ => false, true⟩
end f9
namespace f10
noncomputable def loop3 (C : Am.Callee) (L : Loops) (n0 : Nat) (t3 t6 t7 t8 : Value) (s : AS) : Option ((List Value × AS) ⊕ (AEx × List Value × AS)) :=
(aBin PP .lss 3 (.tmp 8) (.tmp 7) t8 t7).bind fun x2 =>
bcase x2 (
(aIndexAddr PP 22 t6 t8).bind fun x3 =>
(aLoad true 19 s x3).bind fun x4 =>
(aBox 64 ((zeroP PP 64).getD unk) s).bind fun r5 =>
(aStore 19 r5.2 r5.1 x4).bind fun s6 =>
(aLoad true 19 s6 r5.1).bind fun x7 =>
(bsl PP 26 1 [0] [x7] s6).bind fun r8 =>
eBuiltin PP .append #[26, 26] [t3, r8.1] r8.2 fun x9 s10 =>
(aBin PP .add 3 (.tmp 8) (.const (.int .i64 1)) t8 (.int .i64 1)).bind fun x11 =>
some (.inl ([x9, t6, t7, x11], s10))) (
some (.inr (.exit 0, [t3], s)))
noncomputable def loop3s (C : Am.Callee) (L : Loops) (n0 : Nat) : List Value × AS → Option ((List Value × AS) ⊕ (AEx × List Value × AS)) := fun s => loop3 C L n0 (s.1.getD 0 unk) (s.1.getD 1 unk) (s.1.getD 2 unk) (s.1.getD 3 unk) s.2
noncomputable def j2 (C : Am.Callee) (L : Loops) (n0 : Nat) (t3 : Value) (s : AS) : Option (Value × List Blk × Option Nat) :=
fin PP false n0 [t3] s
noncomputable def sh (C : Am.Callee) (L : Loops) (n0 : Nat) (t0 : Value) (s : AS) : Option (Value × List Blk × Option Nat) :=
((aLen PP 22 t0 s).bind fun x1 =>
(L n0 (loop3s C L n0) ([.slice none 0 0, t0, x1, .int .i64 0], s)).bind fun r12 =>
match r12.1 with
| .normal => some (AEx.normal, [(r12.2.1.getD 0 unk)], r12.2.2)
| .exit i => if i = 0 then some (AEx.normal, [(r12.2.1.getD 0 unk)], r12.2.2) else some (AEx.exit i, [(r12.2.1.getD 0 unk)], r12.2.2)
| .ret => some (AEx.ret, [(r12.2.1.getD 0 unk)], r12.2.2)).bind fun r13 =>
match r13.1 with
| .normal => j2 C L n0 ((r13.2.1.getD 0 unk)) r13.2.2
| .exit i => none
| .ret => fin PP false n0 [unk] r13.2.2
def T : Tab := ⟨fun i => if i = 3 then some [3, 6, 7, 8] else none, fun i => if i = 3 then some [3] else none, false, fun i => if i = 7 then some [3] else none, fun _ => false, false⟩
end f10
namespace f11
noncomputable def sh (C : Am.Callee) (L : Loops) (n0 : Nat) (t0 t1 : Value) (s : AS) : Option (Value × List Blk × Option Nat) :=
(aBox 24 t1 s).bind fun r1 =>
(aLen PP 26 t0 r1.2).bind fun x2 =>
(aBin PP .gtr 3 (.tmp 9) (.const (.int .i64 60)) x2 (.int .i64 60)).bind fun x3 =>
bcase x3 (
fin PP false n0 [.bool false, .int .i64 11] r1.2) (
(aLoad true 16 r1.2 r1.1).bind fun x4 =>
(C 12 [t0, x4] r1.2.H).bind fun r5 =>
(pureRun PP (Instr.extract r5.1 0)).bind fun x6 =>
(pureRun PP (Instr.extract r5.1 1)).bind fun x7 =>
fin PP false n0 [x7, .int .i64 0] (AS.mk r5.2.1 (joinEsc r1.2.esc r5.2.2)))
def T : Tab := ⟨fun i => none, fun i => none, false, fun i => none, fun _ => false, false⟩
end f11
namespace f12
noncomputable def sh (C : Am.Callee) (L : Loops) (n0 : Nat) (t0 t1 : Value) (s : AS) : Option (Value × List Blk × Option Nat) :=
(aBox 24 t1 s).bind fun r1 =>
(aLen PP 26 t0 r1.2).bind fun x2 =>
(aBin PP .gtr 3 (.tmp 7) (.const (.int .i64 60)) x2 (.int .i64 60)).bind fun x3 =>
bcase x3 (
fin PP false n0 [.slice none 0 0, .bool false] r1.2) (
(aLoad true 16 r1.2 r1.1).bind fun x4 =>
(C 28 [t0] r1.2.H).bind fun r5 =>
if ((((aLoad true 16 (AS.mk r5.2.1 (joinEsc r1.2.esc r5.2.2)) r1.1).bind fun x9 =>
some (veq x9 x4)) == some true) && true) = true then
(C 29 [r5.1, x4] (AS.mk r5.2.1 (joinEsc r1.2.esc r5.2.2)).H).bind fun r6 =>
(pureRun PP (Instr.extract r6.1 0)).bind fun x7 =>
(pureRun PP (Instr.extract r6.1 1)).bind fun x8 =>
fin PP false n0 [x7, x8] (AS.mk r6.2.1 (joinEsc (AS.mk r5.2.1 (joinEsc r1.2.esc r5.2.2)).esc r6.2.2))
else none)
def T : Tab := ⟨fun i => none, fun i => none, false, fun i => none, fun _ => false, false⟩
end f12
namespace f13
noncomputable def sh (C : Am.Callee) (L : Loops) (n0 : Nat) (t0 t1 : Value) (s : AS) : Option (Value × List Blk × Option Nat) :=
(aBox 24 t1 s).bind fun r1 =>
(aBox 3 ((zeroP PP 3).getD unk) r1.2).bind fun r2 =>
(aStore 1 r2.2 r2.1 (.int .i64 20000)).bind fun s3 =>
(aLoad true 16 s3 r1.1).bind fun x4 =>
(C 30 [t0, .slice none 0 0, x4, r2.1] s3.H).bind fun r5 =>
(pureRun PP (Instr.extract r5.1 0)).bind fun x6 =>
(pureRun PP (Instr.extract r5.1 1)).bind fun x7 =>
bcase x7 (
fin PP false n0 [x6, x7, .bool true] (AS.mk r5.2.1 (joinEsc s3.esc r5.2.2))) (
(aLoad false 1 (AS.mk r5.2.1 (joinEsc s3.esc r5.2.2)) r2.1).bind fun x8 =>
(aBin PP .gtr 3 (.tmp 20) (.const (.int .i64 0)) x8 (.int .i64 0)).bind fun x9 =>
fin PP false n0 [x6, x7, x9] (AS.mk r5.2.1 (joinEsc s3.esc r5.2.2)))
def T : Tab := ⟨fun i => none, fun i => none, false, fun i => none, fun _ => false, false⟩
end f13
namespace f14
noncomputable def j1 (C : Am.Callee) (L : Loops) (n0 : Nat) (t0 t2 t7 t8 t9 t17 t18 t19 t38 : Value) (s : AS) : Option (AEx × List Value × AS) :=
bcase t38 (
some (AEx.ret, [t0, t2, .bool false, t7, t8, t9, t17, t18, t19], s)) (
some (AEx.normal, [t0, t2, unk, t7, t8, t9, t17, t18, t19], s))
noncomputable def j3 (C : Am.Callee) (L : Loops) (n0 : Nat) (t0 t2 t7 t8 t10 t17 t18 t19 t51 : Value) (s : AS) : Option (AEx × List Value × AS) :=
bcase t51 (
some (AEx.ret, [t0, t2, .bool false, t7, t8, t10, t17, t18, t19], s)) (
some (AEx.normal, [t0, t2, unk, t7, t8, t10, t17, t18, t19], s))
noncomputable def j7 (C : Am.Callee) (L : Loops) (n0 : Nat) (t0 t2 t7 t8 t10 t17 t18 t19 t56 t57 t58 t77 : Value) (s : AS) : Option (AEx × List Value × AS) :=
bcase t77 (
some (AEx.ret, [t0, t2, .bool false, t7, t8, t10, t17, t18, t19, t56, t57, t58], s)) (
some (AEx.normal, [t0, t2, unk, t7, t8, t10, t17, t18, t19, t56, t57, t58], s))
noncomputable def j8 (C : Am.Callee) (L : Loops) (n0 : Nat) (t0 t2 t7 t8 t10 t17 t18 t19 t56 t57 t58 : Value) (s : AS) : Option ((List Value × AS) ⊕ (AEx × List Value × AS)) :=
(aBin PP .add 3 (.tmp 58) (.const (.int .i64 1)) t58 (.int .i64 1)).bind fun x49 =>
some (.inl ([t0, t2, t7, t8, t10, t17, t18, t19, t56, t57, x49], s))
noncomputable def loop13 (C : Am.Callee) (L : Loops) (n0 : Nat) (t0 t2 t7 t8 t10 t17 t18 t19 t56 t57 t58 : Value) (s : AS) : Option ((List Value × AS) ⊕ (AEx × List Value × AS)) :=
(aBin PP .lss 3 (.tmp 58) (.tmp 57) t58 t57).bind fun x36 =>
bcase x36 (
((aIndexAddr PP 22 t56 t58).bind fun x37 =>
(aLoad true 19 s x37).bind fun x38 =>
(aBox 64 ((zeroP PP 64).getD unk) s).bind fun r39 =>
(aStore 19 r39.2 r39.1 x38).bind fun s40 =>
(C 31 [t2, t58] s40.H).bind fun r41 =>
((aLoad true 19 (AS.mk r41.2.1 (joinEsc s40.esc r41.2.2)) r39.1).bind fun x42 =>
(aLoad true 19 (AS.mk r41.2.1 (joinEsc s40.esc r41.2.2)) t10).bind fun x43 =>
(C 32 [x42, x43] (AS.mk r41.2.1 (joinEsc s40.esc r41.2.2)).H).bind fun r44 =>
bcase r44.1 (
(aBin PP .lss 3 (.tmp 70) (.const (.int .i64 0)) r41.1 (.int .i64 0)).bind fun x45 =>
bcase x45 (
some (AEx.normal, [t0, t2, t7, t8, t10, t17, t18, t19, t56, t57, t58, .bool true], AS.mk r44.2.1 (joinEsc (AS.mk r41.2.1 (joinEsc s40.esc r41.2.2)).esc r44.2.2))) (
(aBin PP .gtr 3 (.tmp 73) (.tmp 74) r41.1 t8).bind fun x46 =>
some (AEx.normal, [t0, t2, t7, t8, t10, t17, t18, t19, t56, t57, t58, x46], AS.mk r44.2.1 (joinEsc (AS.mk r41.2.1 (joinEsc s40.esc r41.2.2)).esc r44.2.2)))) (
some (AEx.normal, [t0, t2, t7, t8, t10, t17, t18, t19, t56, t57, t58, .bool false], AS.mk r44.2.1 (joinEsc (AS.mk r41.2.1 (joinEsc s40.esc r41.2.2)).esc r44.2.2)))).bind fun r47 =>
match r47.1 with
| .normal => j7 C L n0 ((r47.2.1.getD 0 unk)) ((r47.2.1.getD 1 unk)) ((r47.2.1.getD 2 unk)) ((r47.2.1.getD 3 unk)) ((r47.2.1.getD 4 unk)) ((r47.2.1.getD 5 unk)) ((r47.2.1.getD 6 unk)) ((r47.2.1.getD 7 unk)) ((r47.2.1.getD 8 unk)) ((r47.2.1.getD 9 unk)) ((r47.2.1.getD 10 unk)) ((r47.2.1.getD 11 unk)) r47.2.2
| .exit i => if i = 3 then some (AEx.normal, [(r47.2.1.getD 0 unk), (r47.2.1.getD 1 unk), unk, (r47.2.1.getD 2 unk), (r47.2.1.getD 3 unk), (r47.2.1.getD 4 unk), (r47.2.1.getD 5 unk), (r47.2.1.getD 6 unk), (r47.2.1.getD 7 unk), (r47.2.1.getD 8 unk), (r47.2.1.getD 9 unk), (r47.2.1.getD 10 unk)], r47.2.2) else some (AEx.exit i, [(r47.2.1.getD 0 unk), (r47.2.1.getD 1 unk), unk, (r47.2.1.getD 2 unk), (r47.2.1.getD 3 unk), (r47.2.1.getD 4 unk), (r47.2.1.getD 5 unk), (r47.2.1.getD 6 unk), (r47.2.1.getD 7 unk), (r47.2.1.getD 8 unk), (r47.2.1.getD 9 unk), (r47.2.1.getD 10 unk)], r47.2.2)
| .ret => some (AEx.ret, [(r47.2.1.getD 0 unk), (r47.2.1.getD 1 unk), unk, (r47.2.1.getD 2 unk), (r47.2.1.getD 3 unk), (r47.2.1.getD 4 unk), (r47.2.1.getD 5 unk), (r47.2.1.getD 6 unk), (r47.2.1.getD 7 unk), (r47.2.1.getD 8 unk), (r47.2.1.getD 9 unk), (r47.2.1.getD 10 unk)], r47.2.2)).bind fun r48 =>
match r48.1 with
| .normal => j8 C L n0 ((r48.2.1.getD 0 unk)) ((r48.2.1.getD 1 unk)) ((r48.2.1.getD 3 unk)) ((r48.2.1.getD 4 unk)) ((r48.2.1.getD 5 unk)) ((r48.2.1.getD 6 unk)) ((r48.2.1.getD 7 unk)) ((r48.2.1.getD 8 unk)) ((r48.2.1.getD 9 unk)) ((r48.2.1.getD 10 unk)) ((r48.2.1.getD 11 unk)) r48.2.2
| .exit i => some (.inr (.exit i, [(r48.2.1.getD 0 unk), (r48.2.1.getD 1 unk), (r48.2.1.getD 2 unk), (r48.2.1.getD 3 unk), (r48.2.1.getD 6 unk), (r48.2.1.getD 7 unk), (r48.2.1.getD 8 unk)], r48.2.2))
| .ret => some (.inr (.ret, [(r48.2.1.getD 0 unk), (r48.2.1.getD 1 unk), (r48.2.1.getD 2 unk), (r48.2.1.getD 3 unk), (r48.2.1.getD 6 unk), (r48.2.1.getD 7 unk), (r48.2.1.getD 8 unk)], r48.2.2))) (
some (.inr (.exit 2, [t0, t2, unk, t7, t17, t18, t19], s)))
noncomputable def loop13s (C : Am.Callee) (L : Loops) (n0 : Nat) : List Value × AS → Option ((List Value × AS) ⊕ (AEx × List Value × AS)) := fun s => loop13 C L n0 (s.1.getD 0 unk) (s.1.getD 1 unk) (s.1.getD 2 unk) (s.1.getD 3 unk) (s.1.getD 4 unk) (s.1.getD 5 unk) (s.1.getD 6 unk) (s.1.getD 7 unk) (s.1.getD 8 unk) (s.1.getD 9 unk) (s.1.getD 10 unk) s.2
noncomputable def j5 (C : Am.Callee) (L : Loops) (n0 : Nat) (t0 t2 t7 t8 t10 t17 t18 t19 : Value) (s : AS) : Option (AEx × List Value × AS) :=
(aLen PP 22 t0 s).bind fun x35 =>
(L n0 (loop13s C L n0) ([t0, t2, t7, t8, t10, t17, t18, t19, t0, x35, .int .i64 0], s)).bind fun r50 =>
match r50.1 with
| .normal => some (AEx.normal, [(r50.2.1.getD 0 unk), (r50.2.1.getD 1 unk), (r50.2.1.getD 2 unk), (r50.2.1.getD 3 unk), (r50.2.1.getD 4 unk), (r50.2.1.getD 5 unk), (r50.2.1.getD 6 unk)], r50.2.2)
| .exit i => if i = 2 then some (AEx.normal, [(r50.2.1.getD 0 unk), (r50.2.1.getD 1 unk), (r50.2.1.getD 2 unk), (r50.2.1.getD 3 unk), (r50.2.1.getD 4 unk), (r50.2.1.getD 5 unk), (r50.2.1.getD 6 unk)], r50.2.2) else if i = 1 then some (AEx.normal, [(r50.2.1.getD 0 unk), (r50.2.1.getD 1 unk), (r50.2.1.getD 2 unk), (r50.2.1.getD 3 unk), (r50.2.1.getD 4 unk), (r50.2.1.getD 5 unk), (r50.2.1.getD 6 unk)], r50.2.2) else some (AEx.exit i, [(r50.2.1.getD 0 unk), (r50.2.1.getD 1 unk), (r50.2.1.getD 2 unk), (r50.2.1.getD 3 unk), (r50.2.1.getD 4 unk), (r50.2.1.getD 5 unk), (r50.2.1.getD 6 unk)], r50.2.2)
| .ret => some (AEx.ret, [(r50.2.1.getD 0 unk), (r50.2.1.getD 1 unk), (r50.2.1.getD 2 unk), (r50.2.1.getD 3 unk), (r50.2.1.getD 4 unk), (r50.2.1.getD 5 unk), (r50.2.1.getD 6 unk)], r50.2.2)
noncomputable def j4 (C : Am.Callee) (L : Loops) (n0 : Nat) (t0 t2 t7 t8 t10 t17 t18 t19 : Value) (s : AS) : Option (AEx × List Value × AS) :=
((aFieldAddr PP 64 t10 0).bind fun x29 =>
(aLoad false 1 s x29).bind fun x30 =>
bcase x30 (
(aFieldAddr PP 64 t10 1).bind fun x31 =>
(aLoad true 16 s x31).bind fun x32 =>
(aStore 16 s t7 x32).bind fun s33 =>
some (AEx.normal, [t0, t2, t7, t8, t10, t17, t18, t19], s33)) (
some (AEx.normal, [t0, t2, t7, t8, t10, t17, t18, t19], s))).bind fun r34 =>
match r34.1 with
| .normal => j5 C L n0 ((r34.2.1.getD 0 unk)) ((r34.2.1.getD 1 unk)) ((r34.2.1.getD 2 unk)) ((r34.2.1.getD 3 unk)) ((r34.2.1.getD 4 unk)) ((r34.2.1.getD 5 unk)) ((r34.2.1.getD 6 unk)) ((r34.2.1.getD 7 unk)) r34.2.2
| .exit i => if i = 1 then some (AEx.normal, [(r34.2.1.getD 0 unk), (r34.2.1.getD 1 unk), unk, (r34.2.1.getD 2 unk), (r34.2.1.getD 5 unk), (r34.2.1.getD 6 unk), (r34.2.1.getD 7 unk)], r34.2.2) else some (AEx.exit i, [(r34.2.1.getD 0 unk), (r34.2.1.getD 1 unk), unk, (r34.2.1.getD 2 unk), (r34.2.1.getD 5 unk), (r34.2.1.getD 6 unk), (r34.2.1.getD 7 unk)], r34.2.2)
| .ret => some (AEx.ret, [(r34.2.1.getD 0 unk), (r34.2.1.getD 1 unk), unk, (r34.2.1.getD 2 unk), (r34.2.1.getD 5 unk), (r34.2.1.getD 6 unk), (r34.2.1.getD 7 unk)], r34.2.2)
noncomputable def j2 (C : Am.Callee) (L : Loops) (n0 : Nat) (t0 t2 t7 t8 t9 t17 t18 t19 : Value) (s : AS) : Option (AEx × List Value × AS) :=
(aIndexAddr PP 22 t0 t9).bind fun x16 =>
(aLoad true 19 s x16).bind fun x17 =>
(aBox 64 ((zeroP PP 64).getD unk) s).bind fun r18 =>
(aStore 19 r18.2 r18.1 x17).bind fun s19 =>
(((aFieldAddr PP 64 r18.1 0).bind fun x20 =>
(aLoad false 1 s19 x20).bind fun x21 =>
(aUn PP .not x21).bind fun x22 =>
bcase x22 (
(aFieldAddr PP 64 r18.1 1).bind fun x23 =>
(aLoad true 16 s19 x23).bind fun x24 =>
(aLoad true 16 s19 t7).bind fun x25 =>
(aBin PP .neq 24 (.tmp 48) (.tmp 49) x24 x25).bind fun x26 =>
some (AEx.normal, [t0, t2, t7, t8, r18.1, t17, t18, t19, x26], s19)) (
some (AEx.normal, [t0, t2, t7, t8, r18.1, t17, t18, t19, .bool false], s19))).bind fun r27 =>
match r27.1 with
| .normal => j3 C L n0 ((r27.2.1.getD 0 unk)) ((r27.2.1.getD 1 unk)) ((r27.2.1.getD 2 unk)) ((r27.2.1.getD 3 unk)) ((r27.2.1.getD 4 unk)) ((r27.2.1.getD 5 unk)) ((r27.2.1.getD 6 unk)) ((r27.2.1.getD 7 unk)) ((r27.2.1.getD 8 unk)) r27.2.2
| .exit i => some (AEx.exit i, [(r27.2.1.getD 0 unk), (r27.2.1.getD 1 unk), unk, (r27.2.1.getD 2 unk), (r27.2.1.getD 3 unk), (r27.2.1.getD 4 unk), (r27.2.1.getD 5 unk), (r27.2.1.getD 6 unk), (r27.2.1.getD 7 unk)], r27.2.2)
| .ret => some (AEx.ret, [(r27.2.1.getD 0 unk), (r27.2.1.getD 1 unk), unk, (r27.2.1.getD 2 unk), (r27.2.1.getD 3 unk), (r27.2.1.getD 4 unk), (r27.2.1.getD 5 unk), (r27.2.1.getD 6 unk), (r27.2.1.getD 7 unk)], r27.2.2)).bind fun r28 =>
match r28.1 with
| .normal => j4 C L n0 ((r28.2.1.getD 0 unk)) ((r28.2.1.getD 1 unk)) ((r28.2.1.getD 3 unk)) ((r28.2.1.getD 4 unk)) ((r28.2.1.getD 5 unk)) ((r28.2.1.getD 6 unk)) ((r28.2.1.getD 7 unk)) ((r28.2.1.getD 8 unk)) r28.2.2
| .exit i => if i = 1 then some (AEx.normal, [(r28.2.1.getD 0 unk), (r28.2.1.getD 1 unk), (r28.2.1.getD 2 unk), (r28.2.1.getD 3 unk), (r28.2.1.getD 6 unk), (r28.2.1.getD 7 unk), (r28.2.1.getD 8 unk)], r28.2.2) else some (AEx.exit i, [(r28.2.1.getD 0 unk), (r28.2.1.getD 1 unk), (r28.2.1.getD 2 unk), (r28.2.1.getD 3 unk), (r28.2.1.getD 6 unk), (r28.2.1.getD 7 unk), (r28.2.1.getD 8 unk)], r28.2.2)
| .ret => some (AEx.ret, [(r28.2.1.getD 0 unk), (r28.2.1.getD 1 unk), (r28.2.1.getD 2 unk), (r28.2.1.getD 3 unk), (r28.2.1.getD 6 unk), (r28.2.1.getD 7 unk), (r28.2.1.getD 8 unk)], r28.2.2)
noncomputable def j10 (C : Am.Callee) (L : Loops) (n0 : Nat) (t0 t2 t7 t17 t18 t19 : Value) (s : AS) : Option ((List Value × AS) ⊕ (AEx × List Value × AS)) :=
(aBin PP .add 3 (.tmp 19) (.const (.int .i64 1)) t19 (.int .i64 1)).bind fun x52 =>
some (.inl ([t0, t2, t7, t17, t18, x52], s))
noncomputable def loop3 (C : Am.Callee) (L : Loops) (n0 : Nat) (t0 t2 t7 t17 t18 t19 : Value) (s : AS) : Option ((List Value × AS) ⊕ (AEx × List Value × AS)) :=
(aBin PP .lss 3 (.tmp 19) (.tmp 18) t19 t18).bind fun x6 =>
bcase x6 (
((aIndexAddr PP 31 t17 t19).bind fun x7 =>
(aLoad false 1 s x7).bind fun x8 =>
(((aBin PP .lss 3 (.tmp 24) (.const (.int .i64 0)) x8 (.int .i64 0)).bind fun x9 =>
bcase x9 (
some (AEx.normal, [t0, t2, t7, t19, x8, t17, t18, t19, .bool true], s)) (
(aLen PP 22 t0 s).bind fun x10 =>
(aBin PP .geq 3 (.tmp 27) (.tmp 29) x8 x10).bind fun x11 =>
bcase x11 (
some (AEx.normal, [t0, t2, t7, t19, x8, t17, t18, t19, .bool true], s)) (
(C 31 [t2, x8] s.H).bind fun r12 =>
(aBin PP .neq 3 (.tmp 35) (.tmp 36) r12.1 t19).bind fun x13 =>
some (AEx.normal, [t0, t2, t7, t19, x8, t17, t18, t19, x13], AS.mk r12.2.1 (joinEsc s.esc r12.2.2))))).bind fun r14 =>
match r14.1 with
| .normal => j1 C L n0 ((r14.2.1.getD 0 unk)) ((r14.2.1.getD 1 unk)) ((r14.2.1.getD 2 unk)) ((r14.2.1.getD 3 unk)) ((r14.2.1.getD 4 unk)) ((r14.2.1.getD 5 unk)) ((r14.2.1.getD 6 unk)) ((r14.2.1.getD 7 unk)) ((r14.2.1.getD 8 unk)) r14.2.2
| .exit i => some (AEx.exit i, [(r14.2.1.getD 0 unk), (r14.2.1.getD 1 unk), unk, (r14.2.1.getD 2 unk), (r14.2.1.getD 3 unk), (r14.2.1.getD 4 unk), (r14.2.1.getD 5 unk), (r14.2.1.getD 6 unk), (r14.2.1.getD 7 unk)], r14.2.2)
| .ret => some (AEx.ret, [(r14.2.1.getD 0 unk), (r14.2.1.getD 1 unk), unk, (r14.2.1.getD 2 unk), (r14.2.1.getD 3 unk), (r14.2.1.getD 4 unk), (r14.2.1.getD 5 unk), (r14.2.1.getD 6 unk), (r14.2.1.getD 7 unk)], r14.2.2)).bind fun r15 =>
match r15.1 with
| .normal => j2 C L n0 ((r15.2.1.getD 0 unk)) ((r15.2.1.getD 1 unk)) ((r15.2.1.getD 3 unk)) ((r15.2.1.getD 4 unk)) ((r15.2.1.getD 5 unk)) ((r15.2.1.getD 6 unk)) ((r15.2.1.getD 7 unk)) ((r15.2.1.getD 8 unk)) r15.2.2
| .exit i => if i = 1 then some (AEx.normal, [(r15.2.1.getD 0 unk), (r15.2.1.getD 1 unk), (r15.2.1.getD 2 unk), (r15.2.1.getD 3 unk), (r15.2.1.getD 6 unk), (r15.2.1.getD 7 unk), (r15.2.1.getD 8 unk)], r15.2.2) else some (AEx.exit i, [(r15.2.1.getD 0 unk), (r15.2.1.getD 1 unk), (r15.2.1.getD 2 unk), (r15.2.1.getD 3 unk), (r15.2.1.getD 6 unk), (r15.2.1.getD 7 unk), (r15.2.1.getD 8 unk)], r15.2.2)
| .ret => some (AEx.ret, [(r15.2.1.getD 0 unk), (r15.2.1.getD 1 unk), (r15.2.1.getD 2 unk), (r15.2.1.getD 3 unk), (r15.2.1.getD 6 unk), (r15.2.1.getD 7 unk), (r15.2.1.getD 8 unk)], r15.2.2)).bind fun r51 =>
match r51.1 with
| .normal => j10 C L n0 ((r51.2.1.getD 0 unk)) ((r51.2.1.getD 1 unk)) ((r51.2.1.getD 3 unk)) ((r51.2.1.getD 4 unk)) ((r51.2.1.getD 5 unk)) ((r51.2.1.getD 6 unk)) r51.2.2
| .exit i => some (.inr (.exit i, [(r51.2.1.getD 0 unk), (r51.2.1.getD 1 unk), (r51.2.1.getD 2 unk)], r51.2.2))
| .ret => some (.inr (.ret, [(r51.2.1.getD 0 unk), (r51.2.1.getD 1 unk), (r51.2.1.getD 2 unk)], r51.2.2))) (
some (.inr (.exit 0, [t0, t2, unk], s)))
noncomputable def loop3s (C : Am.Callee) (L : Loops) (n0 : Nat) : List Value × AS → Option ((List Value × AS) ⊕ (AEx × List Value × AS)) := fun s => loop3 C L n0 (s.1.getD 0 unk) (s.1.getD 1 unk) (s.1.getD 2 unk) (s.1.getD 3 unk) (s.1.getD 4 unk) (s.1.getD 5 unk) s.2
noncomputable def j14 (C : Am.Callee) (L : Loops) (n0 : Nat) (t2 t80 t81 t82 t94 : Value) (s : AS) : Option (AEx × List Value × AS) :=
bcase t94 (
some (AEx.ret, [t2, .bool false, t80, t81, t82], s)) (
some (AEx.normal, [t2, unk, t80, t81, t82], s))
noncomputable def j15 (C : Am.Callee) (L : Loops) (n0 : Nat) (t2 t80 t81 t82 : Value) (s : AS) : Option ((List Value × AS) ⊕ (AEx × List Value × AS)) :=
(aBin PP .add 3 (.tmp 82) (.const (.int .i64 1)) t82 (.int .i64 1)).bind fun x67 =>
some (.inl ([t2, t80, t81, x67], s))
noncomputable def loop21 (C : Am.Callee) (L : Loops) (n0 : Nat) (t2 t80 t81 t82 : Value) (s : AS) : Option ((List Value × AS) ⊕ (AEx × List Value × AS)) :=
(aBin PP .lss 3 (.tmp 82) (.tmp 81) t82 t81).bind fun x56 =>
bcase x56 (
((aIndexAddr PP 22 t80 t82).bind fun x57 =>
(aLoad true 19 s x57).bind fun x58 =>
(aBox 64 ((zeroP PP 64).getD unk) s).bind fun r59 =>
(aStore 19 r59.2 r59.1 x58).bind fun s60 =>
((aLoad true 19 s60 r59.1).bind fun x61 =>
(C 33 [x61] s60.H).bind fun r62 =>
bcase r62.1 (
(C 31 [t2, t82] (AS.mk r62.2.1 (joinEsc s60.esc r62.2.2)).H).bind fun r63 =>
(aBin PP .lss 3 (.tmp 92) (.const (.int .i64 0)) r63.1 (.int .i64 0)).bind fun x64 =>
some (AEx.normal, [t2, t80, t81, t82, x64], AS.mk r63.2.1 (joinEsc (AS.mk r62.2.1 (joinEsc s60.esc r62.2.2)).esc r63.2.2))) (
some (AEx.normal, [t2, t80, t81, t82, .bool false], AS.mk r62.2.1 (joinEsc s60.esc r62.2.2)))).bind fun r65 =>
match r65.1 with
| .normal => j14 C L n0 ((r65.2.1.getD 0 unk)) ((r65.2.1.getD 1 unk)) ((r65.2.1.getD 2 unk)) ((r65.2.1.getD 3 unk)) ((r65.2.1.getD 4 unk)) r65.2.2
| .exit i => if i = 5 then some (AEx.normal, [(r65.2.1.getD 0 unk), unk, (r65.2.1.getD 1 unk), (r65.2.1.getD 2 unk), (r65.2.1.getD 3 unk)], r65.2.2) else some (AEx.exit i, [(r65.2.1.getD 0 unk), unk, (r65.2.1.getD 1 unk), (r65.2.1.getD 2 unk), (r65.2.1.getD 3 unk)], r65.2.2)
| .ret => some (AEx.ret, [(r65.2.1.getD 0 unk), unk, (r65.2.1.getD 1 unk), (r65.2.1.getD 2 unk), (r65.2.1.getD 3 unk)], r65.2.2)).bind fun r66 =>
match r66.1 with
| .normal => j15 C L n0 ((r66.2.1.getD 0 unk)) ((r66.2.1.getD 2 unk)) ((r66.2.1.getD 3 unk)) ((r66.2.1.getD 4 unk)) r66.2.2
| .exit i => some (.inr (.exit i, [(r66.2.1.getD 1 unk)], r66.2.2))
| .ret => some (.inr (.ret, [(r66.2.1.getD 1 unk)], r66.2.2))) (
some (.inr (.exit 4, [unk], s)))
noncomputable def loop21s (C : Am.Callee) (L : Loops) (n0 : Nat) : List Value × AS → Option ((List Value × AS) ⊕ (AEx × List Value × AS)) := fun s => loop21 C L n0 (s.1.getD 0 unk) (s.1.getD 1 unk) (s.1.getD 2 unk) (s.1.getD 3 unk) s.2
noncomputable def j17 (C : Am.Callee) (L : Loops) (n0 : Nat) (s : AS) : Option (Value × List Blk × Option Nat) :=
fin PP false n0 [.bool true] s
noncomputable def j12 (C : Am.Callee) (L : Loops) (n0 : Nat) (t0 t2 : Value) (s : AS) : Option (Value × List Blk × Option Nat) :=
((aLen PP 22 t0 s).bind fun x55 =>
(L n0 (loop21s C L n0) ([t2, t0, x55, .int .i64 0], s)).bind fun r68 =>
match r68.1 with
| .normal => some (AEx.normal, [(r68.2.1.getD 0 unk)], r68.2.2)
| .exit i => if i = 4 then some (AEx.normal, [(r68.2.1.getD 0 unk)], r68.2.2) else some (AEx.exit i, [(r68.2.1.getD 0 unk)], r68.2.2)
| .ret => some (AEx.ret, [(r68.2.1.getD 0 unk)], r68.2.2)).bind fun r69 =>
match r69.1 with
| .normal => j17 C L n0  r69.2.2
| .exit i => none
| .ret => fin PP false n0 [(r69.2.1.getD 0 unk)] r69.2.2
noncomputable def sh (C : Am.Callee) (L : Loops) (n0 : Nat) (t0 t1 t2 : Value) (s : AS) : Option (Value × List Blk × Option Nat) :=
(aBox 24 t1 s).bind fun r1 =>
(aLoad true 16 r1.2 r1.1).bind fun x2 =>
(aBox 24 ((zeroP PP 24).getD unk) r1.2).bind fun r3 =>
(aStore 16 r3.2 r3.1 x2).bind fun s4 =>
((aLen PP 31 t2 s4).bind fun x5 =>
(L n0 (loop3s C L n0) ([t0, t2, r3.1, t2, x5, .int .i64 0], s4)).bind fun r53 =>
match r53.1 with
| .normal => some (AEx.normal, [(r53.2.1.getD 0 unk), (r53.2.1.getD 1 unk), (r53.2.1.getD 2 unk)], r53.2.2)
| .exit i => if i = 0 then some (AEx.normal, [(r53.2.1.getD 0 unk), (r53.2.1.getD 1 unk), (r53.2.1.getD 2 unk)], r53.2.2) else some (AEx.exit i, [(r53.2.1.getD 0 unk), (r53.2.1.getD 1 unk), (r53.2.1.getD 2 unk)], r53.2.2)
| .ret => some (AEx.ret, [(r53.2.1.getD 0 unk), (r53.2.1.getD 1 unk), (r53.2.1.getD 2 unk)], r53.2.2)).bind fun r54 =>
match r54.1 with
| .normal => j12 C L n0 ((r54.2.1.getD 0 unk)) ((r54.2.1.getD 1 unk)) r54.2.2
| .exit i => none
| .ret => fin PP false n0 [(r54.2.1.getD 2 unk)] r54.2.2
def T : Tab := ⟨fun i => if i = 3 then some [0, 2, 7, 17, 18, 19] else if i = 13 then some [0, 2, 7, 8, 10, 17, 18, 19, 56, 57, 58] else if i = 21 then some [2, 80, 81, 82] else none, fun i => if i = 3 then some [0, 2, 6] else if i = 13 then some [0, 2, 6, 7, 17, 18, 19] else if i = 21 then some [6] else none, false, fun i => if i = 6 then some [0, 2, 7, 8, 9, 17, 18, 19, 38] else if i = 7 then some [0, 2, 6, 7, 8, 9, 17, 18, 19] else if i = 9 then some [0, 2, 7, 8, 10, 17, 18, 19, 51] else if i = 10 then some [0, 2, 6, 7, 8, 10, 17, 18, 19] else if i = 12 then some [0, 2, 7, 8, 10, 17, 18, 19] else if i = 17 then some [0, 2, 7, 8, 10, 17, 18, 19, 56, 57, 58, 77] else if i = 18 then some [0, 2, 6, 7, 8, 10, 17, 18, 19, 56, 57, 58] else if i = 19 then some [0, 2, 6, 7, 17, 18, 19] else if i = 20 then some [0, 2, 6] else if i = 24 then some [2, 80, 81, 82, 94] else if i = 25 then some [2, 6, 80, 81, 82] else if i = 26 then some [6] else none, fun _ => false, false⟩
end f14
namespace f28
noncomputable def j1 (C : Am.Callee) (L : Loops) (n0 : Nat) (t0 t3 t4 t5 t13 t14 t15 t27 : Value) (s : AS) : Option (AEx × List Value × AS) :=
bcase t27 (
(aNil t3).bind fun x16 =>
(aFieldAddr PP 89 x16 1).bind fun x17 =>
(aLoad false 1 s x17).bind fun x18 =>
(aBin PP .shl 86 (.const (.int .u64 1)) (.tmp 32) (.int .u64 1) t4).bind fun x19 =>
(aBin PP .or 86 (.tmp 31) (.tmp 33) x18 x19).bind fun x20 =>
(aNil t3).bind fun x21 =>
(aFieldAddr PP 89 x21 1).bind fun x22 =>
(aStore 1 s x22 x20).bind fun s23 =>
some (AEx.normal, [t0, t3, t4, t5, t13, t14, t15], s23)) (
some (AEx.normal, [t0, t3, t4, t5, t13, t14, t15], s))
noncomputable def j4 (C : Am.Callee) (L : Loops) (n0 : Nat) (t0 t3 t4 t5 t6 t7 t13 t14 t15 t37 t38 t39 t58 : Value) (s : AS) : Option (AEx × List Value × AS) :=
bcase t58 (
(aBin PP .shl 86 (.const (.int .u64 1)) (.tmp 60) (.int .u64 1) t7).bind fun x41 =>
(aBin PP .or 86 (.tmp 59) (.tmp 61) t6 x41).bind fun x42 =>
some (AEx.normal, [t0, t3, t4, t5, x42, t13, t14, t15, t37, t38, t39], s)) (
some (AEx.normal, [t0, t3, t4, t5, t6, t13, t14, t15, t37, t38, t39], s))
noncomputable def j5 (C : Am.Callee) (L : Loops) (n0 : Nat) (t0 t3 t4 t5 t6 t13 t14 t15 t37 t38 t39 : Value) (s : AS) : Option ((List Value × AS) ⊕ (AEx × List Value × AS)) :=
(aBin PP .add 3 (.tmp 39) (.const (.int .i64 1)) t39 (.int .i64 1)).bind fun x44 =>
some (.inl ([t0, t3, t4, t5, t6, t13, t14, t15, t37, t38, x44], s))
noncomputable def loop9 (C : Am.Callee) (L : Loops) (n0 : Nat) (t0 t3 t4 t5 t6 t13 t14 t15 t37 t38 t39 : Value) (s : AS) : Option ((List Value × AS) ⊕ (AEx × List Value × AS)) :=
(aBin PP .lss 3 (.tmp 39) (.tmp 38) t39 t38).bind fun x26 =>
bcase x26 (
((aIndexAddr PP 26 t37 t39).bind fun x27 =>
(aLoad true 19 s x27).bind fun x28 =>
(aBox 40 ((zeroP PP 40).getD unk) s).bind fun r29 =>
(aStore 19 r29.2 r29.1 x28).bind fun s30 =>
((aBin PP .neq 3 (.tmp 44) (.tmp 45) t39 t4).bind fun x31 =>
bcase x31 (
(aFieldAddr PP 40 r29.1 3).bind fun x32 =>
(aLoad false 1 s30 x32).bind fun x33 =>
(aBin PP .geq 3 (.tmp 49) (.const (.int .i64 0)) x33 (.int .i64 0)).bind fun x34 =>
bcase x34 (
(aFieldAddr PP 40 r29.1 3).bind fun x35 =>
(aLoad false 1 s30 x35).bind fun x36 =>
(aFieldAddr PP 40 t5 2).bind fun x37 =>
(aLoad false 1 s30 x37).bind fun x38 =>
(aBin PP .lss 3 (.tmp 54) (.tmp 56) x36 x38).bind fun x39 =>
some (AEx.normal, [t0, t3, t4, t5, t6, t39, t13, t14, t15, t37, t38, t39, x39], s30)) (
some (AEx.normal, [t0, t3, t4, t5, t6, t39, t13, t14, t15, t37, t38, t39, .bool false], s30))) (
some (AEx.normal, [t0, t3, t4, t5, t6, t39, t13, t14, t15, t37, t38, t39, .bool false], s30))).bind fun r40 =>
match r40.1 with
| .normal => j4 C L n0 ((r40.2.1.getD 0 unk)) ((r40.2.1.getD 1 unk)) ((r40.2.1.getD 2 unk)) ((r40.2.1.getD 3 unk)) ((r40.2.1.getD 4 unk)) ((r40.2.1.getD 5 unk)) ((r40.2.1.getD 6 unk)) ((r40.2.1.getD 7 unk)) ((r40.2.1.getD 8 unk)) ((r40.2.1.getD 9 unk)) ((r40.2.1.getD 10 unk)) ((r40.2.1.getD 11 unk)) ((r40.2.1.getD 12 unk)) r40.2.2
| .exit i => if i = 3 then some (AEx.normal, [(r40.2.1.getD 0 unk), (r40.2.1.getD 1 unk), (r40.2.1.getD 2 unk), (r40.2.1.getD 3 unk), (r40.2.1.getD 4 unk), (r40.2.1.getD 6 unk), (r40.2.1.getD 7 unk), (r40.2.1.getD 8 unk), (r40.2.1.getD 9 unk), (r40.2.1.getD 10 unk), (r40.2.1.getD 11 unk)], r40.2.2) else some (AEx.exit i, [(r40.2.1.getD 0 unk), (r40.2.1.getD 1 unk), (r40.2.1.getD 2 unk), (r40.2.1.getD 3 unk), (r40.2.1.getD 4 unk), (r40.2.1.getD 6 unk), (r40.2.1.getD 7 unk), (r40.2.1.getD 8 unk), (r40.2.1.getD 9 unk), (r40.2.1.getD 10 unk), (r40.2.1.getD 11 unk)], r40.2.2)
| .ret => some (AEx.ret, [(r40.2.1.getD 0 unk), (r40.2.1.getD 1 unk), (r40.2.1.getD 2 unk), (r40.2.1.getD 3 unk), (r40.2.1.getD 4 unk), (r40.2.1.getD 6 unk), (r40.2.1.getD 7 unk), (r40.2.1.getD 8 unk), (r40.2.1.getD 9 unk), (r40.2.1.getD 10 unk), (r40.2.1.getD 11 unk)], r40.2.2)).bind fun r43 =>
match r43.1 with
| .normal => j5 C L n0 ((r43.2.1.getD 0 unk)) ((r43.2.1.getD 1 unk)) ((r43.2.1.getD 2 unk)) ((r43.2.1.getD 3 unk)) ((r43.2.1.getD 4 unk)) ((r43.2.1.getD 5 unk)) ((r43.2.1.getD 6 unk)) ((r43.2.1.getD 7 unk)) ((r43.2.1.getD 8 unk)) ((r43.2.1.getD 9 unk)) ((r43.2.1.getD 10 unk)) r43.2.2
| .exit i => some (.inr (.exit i, [(r43.2.1.getD 0 unk), (r43.2.1.getD 1 unk), (r43.2.1.getD 4 unk), (r43.2.1.getD 5 unk), (r43.2.1.getD 6 unk), (r43.2.1.getD 7 unk)], r43.2.2))
| .ret => some (.inr (.ret, [(r43.2.1.getD 0 unk), (r43.2.1.getD 1 unk), (r43.2.1.getD 4 unk), (r43.2.1.getD 5 unk), (r43.2.1.getD 6 unk), (r43.2.1.getD 7 unk)], r43.2.2))) (
some (.inr (.exit 2, [t0, t3, t6, t13, t14, t15], s)))
noncomputable def loop9s (C : Am.Callee) (L : Loops) (n0 : Nat) : List Value × AS → Option ((List Value × AS) ⊕ (AEx × List Value × AS)) := fun s => loop9 C L n0 (s.1.getD 0 unk) (s.1.getD 1 unk) (s.1.getD 2 unk) (s.1.getD 3 unk) (s.1.getD 4 unk) (s.1.getD 5 unk) (s.1.getD 6 unk) (s.1.getD 7 unk) (s.1.getD 8 unk) (s.1.getD 9 unk) (s.1.getD 10 unk) s.2
noncomputable def j7 (C : Am.Callee) (L : Loops) (n0 : Nat) (t0 t3 t6 t13 t14 t15 : Value) (s : AS) : Option (AEx × List Value × AS) :=
(aNil t3).bind fun x47 =>
(aFieldAddr PP 89 x47 2).bind fun x48 =>
(aLoad false 1 s x48).bind fun x49 =>
(bsl PP 87 1 [0] [t6] s).bind fun r50 =>
eBuiltin PP .append #[87, 87] [x49, r50.1] r50.2 fun x51 s52 =>
(aNil t3).bind fun x53 =>
(aFieldAddr PP 89 x53 2).bind fun x54 =>
(aStore 1 s52 x54 x51).bind fun s55 =>
some (AEx.normal, [t0, t3, t13, t14, t15], s55)
noncomputable def j2 (C : Am.Callee) (L : Loops) (n0 : Nat) (t0 t3 t4 t5 t13 t14 t15 : Value) (s : AS) : Option (AEx × List Value × AS) :=
((aLen PP 26 t0 s).bind fun x25 =>
(L n0 (loop9s C L n0) ([t0, t3, t4, t5, .int .u64 0, t13, t14, t15, t0, x25, .int .i64 0], s)).bind fun r45 =>
match r45.1 with
| .normal => some (AEx.normal, [(r45.2.1.getD 0 unk), (r45.2.1.getD 1 unk), (r45.2.1.getD 2 unk), (r45.2.1.getD 3 unk), (r45.2.1.getD 4 unk), (r45.2.1.getD 5 unk)], r45.2.2)
| .exit i => if i = 2 then some (AEx.normal, [(r45.2.1.getD 0 unk), (r45.2.1.getD 1 unk), (r45.2.1.getD 2 unk), (r45.2.1.getD 3 unk), (r45.2.1.getD 4 unk), (r45.2.1.getD 5 unk)], r45.2.2) else some (AEx.exit i, [(r45.2.1.getD 0 unk), (r45.2.1.getD 1 unk), (r45.2.1.getD 2 unk), (r45.2.1.getD 3 unk), (r45.2.1.getD 4 unk), (r45.2.1.getD 5 unk)], r45.2.2)
| .ret => some (AEx.ret, [(r45.2.1.getD 0 unk), (r45.2.1.getD 1 unk), (r45.2.1.getD 2 unk), (r45.2.1.getD 3 unk), (r45.2.1.getD 4 unk), (r45.2.1.getD 5 unk)], r45.2.2)).bind fun r46 =>
match r46.1 with
| .normal => j7 C L n0 ((r46.2.1.getD 0 unk)) ((r46.2.1.getD 1 unk)) ((r46.2.1.getD 2 unk)) ((r46.2.1.getD 3 unk)) ((r46.2.1.getD 4 unk)) ((r46.2.1.getD 5 unk)) r46.2.2
| .exit i => if i = 1 then some (AEx.normal, [(r46.2.1.getD 0 unk), (r46.2.1.getD 1 unk), (r46.2.1.getD 3 unk), (r46.2.1.getD 4 unk), (r46.2.1.getD 5 unk)], r46.2.2) else some (AEx.exit i, [(r46.2.1.getD 0 unk), (r46.2.1.getD 1 unk), (r46.2.1.getD 3 unk), (r46.2.1.getD 4 unk), (r46.2.1.getD 5 unk)], r46.2.2)
| .ret => some (AEx.ret, [(r46.2.1.getD 0 unk), (r46.2.1.getD 1 unk), (r46.2.1.getD 3 unk), (r46.2.1.getD 4 unk), (r46.2.1.getD 5 unk)], r46.2.2)
noncomputable def j8 (C : Am.Callee) (L : Loops) (n0 : Nat) (t0 t3 t13 t14 t15 : Value) (s : AS) : Option ((List Value × AS) ⊕ (AEx × List Value × AS)) :=
(aBin PP .add 3 (.tmp 15) (.const (.int .i64 1)) t15 (.int .i64 1)).bind fun x57 =>
some (.inl ([t0, t3, t13, t14, x57], s))
noncomputable def loop3 (C : Am.Callee) (L : Loops) (n0 : Nat) (t0 t3 t13 t14 t15 : Value) (s : AS) : Option ((List Value × AS) ⊕ (AEx × List Value × AS)) :=
(aBin PP .lss 3 (.tmp 15) (.tmp 14) t15 t14).bind fun x4 =>
bcase x4 (
((aIndexAddr PP 26 t13 t15).bind fun x5 =>
(aLoad true 19 s x5).bind fun x6 =>
(aBox 40 ((zeroP PP 40).getD unk) s).bind fun r7 =>
(aStore 19 r7.2 r7.1 x6).bind fun s8 =>
(((aFieldAddr PP 40 r7.1 0).bind fun x9 =>
(aLoad false 1 s8 x9).bind fun x10 =>
(aUn PP .not x10).bind fun x11 =>
bcase x11 (
some (AEx.normal, [t0, t3, t15, r7.1, t13, t14, t15, .bool true], s8)) (
(aFieldAddr PP 40 r7.1 3).bind fun x12 =>
(aLoad false 1 s8 x12).bind fun x13 =>
(aBin PP .geq 3 (.tmp 25) (.const (.int .i64 0)) x13 (.int .i64 0)).bind fun x14 =>
some (AEx.normal, [t0, t3, t15, r7.1, t13, t14, t15, x14], s8))).bind fun r15 =>
match r15.1 with
| .normal => j1 C L n0 ((r15.2.1.getD 0 unk)) ((r15.2.1.getD 1 unk)) ((r15.2.1.getD 2 unk)) ((r15.2.1.getD 3 unk)) ((r15.2.1.getD 4 unk)) ((r15.2.1.getD 5 unk)) ((r15.2.1.getD 6 unk)) ((r15.2.1.getD 7 unk)) r15.2.2
| .exit i => some (AEx.exit i, [(r15.2.1.getD 0 unk), (r15.2.1.getD 1 unk), (r15.2.1.getD 2 unk), (r15.2.1.getD 3 unk), (r15.2.1.getD 4 unk), (r15.2.1.getD 5 unk), (r15.2.1.getD 6 unk)], r15.2.2)
| .ret => some (AEx.ret, [(r15.2.1.getD 0 unk), (r15.2.1.getD 1 unk), (r15.2.1.getD 2 unk), (r15.2.1.getD 3 unk), (r15.2.1.getD 4 unk), (r15.2.1.getD 5 unk), (r15.2.1.getD 6 unk)], r15.2.2)).bind fun r24 =>
match r24.1 with
| .normal => j2 C L n0 ((r24.2.1.getD 0 unk)) ((r24.2.1.getD 1 unk)) ((r24.2.1.getD 2 unk)) ((r24.2.1.getD 3 unk)) ((r24.2.1.getD 4 unk)) ((r24.2.1.getD 5 unk)) ((r24.2.1.getD 6 unk)) r24.2.2
| .exit i => if i = 1 then some (AEx.normal, [(r24.2.1.getD 0 unk), (r24.2.1.getD 1 unk), (r24.2.1.getD 4 unk), (r24.2.1.getD 5 unk), (r24.2.1.getD 6 unk)], r24.2.2) else some (AEx.exit i, [(r24.2.1.getD 0 unk), (r24.2.1.getD 1 unk), (r24.2.1.getD 4 unk), (r24.2.1.getD 5 unk), (r24.2.1.getD 6 unk)], r24.2.2)
| .ret => some (AEx.ret, [(r24.2.1.getD 0 unk), (r24.2.1.getD 1 unk), (r24.2.1.getD 4 unk), (r24.2.1.getD 5 unk), (r24.2.1.getD 6 unk)], r24.2.2)).bind fun r56 =>
match r56.1 with
| .normal => j8 C L n0 ((r56.2.1.getD 0 unk)) ((r56.2.1.getD 1 unk)) ((r56.2.1.getD 2 unk)) ((r56.2.1.getD 3 unk)) ((r56.2.1.getD 4 unk)) r56.2.2
| .exit i => some (.inr (.exit i, [(r56.2.1.getD 1 unk)], r56.2.2))
| .ret => some (.inr (.ret, [(r56.2.1.getD 1 unk)], r56.2.2))) (
some (.inr (.exit 0, [t3], s)))
noncomputable def loop3s (C : Am.Callee) (L : Loops) (n0 : Nat) : List Value × AS → Option ((List Value × AS) ⊕ (AEx × List Value × AS)) := fun s => loop3 C L n0 (s.1.getD 0 unk) (s.1.getD 1 unk) (s.1.getD 2 unk) (s.1.getD 3 unk) (s.1.getD 4 unk) s.2
noncomputable def j10 (C : Am.Callee) (L : Loops) (n0 : Nat) (t3 : Value) (s : AS) : Option (Value × List Blk × Option Nat) :=
fin PP false n0 [t3] s
noncomputable def sh (C : Am.Callee) (L : Loops) (n0 : Nat) (t0 : Value) (s : AS) : Option (Value × List Blk × Option Nat) :=
(aBuild PP 89 [(0, t0), (3, .map (some s.H.length))]).bind fun x1 =>
(aBox 89 x1 (newBlk s (.map [] 0))).bind fun r2 =>
((aLen PP 26 t0 r2.2).bind fun x3 =>
(L n0 (loop3s C L n0) ([t0, r2.1, t0, x3, .int .i64 0], r2.2)).bind fun r58 =>
match r58.1 with
| .normal => some (AEx.normal, [(r58.2.1.getD 0 unk)], r58.2.2)
| .exit i => if i = 0 then some (AEx.normal, [(r58.2.1.getD 0 unk)], r58.2.2) else some (AEx.exit i, [(r58.2.1.getD 0 unk)], r58.2.2)
| .ret => some (AEx.ret, [(r58.2.1.getD 0 unk)], r58.2.2)).bind fun r59 =>
match r59.1 with
| .normal => j10 C L n0 ((r59.2.1.getD 0 unk)) r59.2.2
| .exit i => none
| .ret => fin PP false n0 [unk] r59.2.2
def T : Tab := ⟨fun i => if i = 3 then some [0, 3, 13, 14, 15] else if i = 9 then some [0, 3, 4, 5, 6, 13, 14, 15, 37, 38, 39] else none, fun i => if i = 3 then some [3] else if i = 9 then some [0, 3, 6, 13, 14, 15] else none, false, fun i => if i = 6 then some [0, 3, 4, 5, 13, 14, 15, 27] else if i = 7 then some [0, 3, 4, 5, 13, 14, 15] else if i = 12 then some [0, 3, 4, 5, 6, 7, 13, 14, 15, 37, 38, 39, 58] else if i = 13 then some [0, 3, 4, 5, 6, 13, 14, 15, 37, 38, 39] else if i = 14 then some [0, 3, 6, 13, 14, 15] else if i = 15 then some [0, 3, 13, 14, 15] else if i = 16 then some [3] else none, fun _ => false, false⟩
end f28
namespace f29
noncomputable def sh (C : Am.Callee) (L : Loops) (n0 : Nat) (t0 t1 : Value) (s : AS) : Option (Value × List Blk × Option Nat) :=
(aBox 66 t0 s).bind fun r1 =>
(aBox 24 t1 r1.2).bind fun r2 =>
(aBox 31 ((zeroP PP 31).getD unk) r2.2).bind fun r3 =>
(aBox 90 ((zeroP PP 90).getD unk) r3.2).bind fun r4 =>
(aStore 1 r4.2 r4.1 (.func (.func 42) (#[]) (#[r1.1, r3.1, r4.1]))).bind fun s5 =>
(aLoad false 1 s5 r4.1).bind fun x6 =>
(aLoad true 16 s5 r2.1).bind fun x7 =>
(aBuild PP 92 [(1, x7)]).bind fun x8 =>
(aFn PP x6 [x8]).bind fun g10 =>
(C g10.1 g10.2 s5.H).bind fun r9 =>
(aUn PP .not r9.1).bind fun x11 =>
bcase x11 (
fin PP false n0 [.slice none 0 0, .bool false] (AS.mk r9.2.1 (joinEsc s5.esc r9.2.2))) (
(aLoad false 1 (AS.mk r9.2.1 (joinEsc s5.esc r9.2.2)) r3.1).bind fun x12 =>
fin PP false n0 [x12, .bool true] (AS.mk r9.2.1 (joinEsc s5.esc r9.2.2)))
def T : Tab := ⟨fun i => none, fun i => none, false, fun i => none, fun _ => false, false⟩
end f29
namespace f30
noncomputable def j1 (C : Am.Callee) (L : Loops) (n0 : Nat) (t0 t1 t3 t6 t10 t20 t21 t35 : Value) (s : AS) : Option (AEx × List Value × AS) :=
bcase t35 (
some (AEx.exit 1, [t0, t1, t3, t6, t10, t20, t21], s)) (
some (AEx.normal, [t0, t1, t3, t6, t10, t20, t21], s))
noncomputable def j3 (C : Am.Callee) (L : Loops) (n0 : Nat) (t0 t1 t3 t6 t10 t11 t20 t21 : Value) (s : AS) : Option (AEx × List Value × AS) :=
(bsl PP 31 0 [] [] s).bind fun r28 =>
eBuiltin PP .append #[31, 31] [r28.1, t1] r28.2 fun x29 s30 =>
(bsl PP 31 1 [0] [t10] s30).bind fun r31 =>
eBuiltin PP .append #[31, 31] [x29, r31.1] r31.2 fun x32 s33 =>
(aLoad true 16 s33 t11).bind fun x34 =>
(C 30 [t0, x32, x34, t3] s33.H).bind fun r35 =>
(pureRun PP (Instr.extract r35.1 0)).bind fun x36 =>
(pureRun PP (Instr.extract r35.1 1)).bind fun x37 =>
bcase x37 (
some (AEx.ret, [t0, t1, t3, t6, x36, .bool true, t20, t21], AS.mk r35.2.1 (joinEsc s33.esc r35.2.2))) (
some (AEx.normal, [t0, t1, t3, t6, unk, unk, t20, t21], AS.mk r35.2.1 (joinEsc s33.esc r35.2.2)))
noncomputable def j2 (C : Am.Callee) (L : Loops) (n0 : Nat) (t0 t1 t3 t6 t10 t20 t21 : Value) (s : AS) : Option (AEx × List Value × AS) :=
(aNil t3).bind fun x12 =>
(aLoad false 1 s x12).bind fun x13 =>
(aBin PP .sub 3 (.tmp 38) (.const (.int .i64 1)) x13 (.int .i64 1)).bind fun x14 =>
(aNil t3).bind fun x15 =>
(aStore 1 s x15 x14).bind fun s16 =>
(aLoad true 16 s16 t6).bind fun x17 =>
(aBox 24 ((zeroP PP 24).getD unk) s16).bind fun r18 =>
(aStore 16 r18.2 r18.1 x17).bind fun s19 =>
((aIndexAddr PP 22 t0 t10).bind fun x20 =>
(aFieldAddr PP 64 x20 0).bind fun x21 =>
(aLoad false 1 s19 x21).bind fun x22 =>
bcase x22 (
(aIndexAddr PP 22 t0 t10).bind fun x23 =>
(aFieldAddr PP 64 x23 1).bind fun x24 =>
(aLoad true 16 s19 x24).bind fun x25 =>
(aStore 16 s19 r18.1 x25).bind fun s26 =>
some (AEx.normal, [t0, t1, t3, t6, t10, r18.1, t20, t21], s26)) (
some (AEx.normal, [t0, t1, t3, t6, t10, r18.1, t20, t21], s19))).bind fun r27 =>
match r27.1 with
| .normal => j3 C L n0 ((r27.2.1.getD 0 unk)) ((r27.2.1.getD 1 unk)) ((r27.2.1.getD 2 unk)) ((r27.2.1.getD 3 unk)) ((r27.2.1.getD 4 unk)) ((r27.2.1.getD 5 unk)) ((r27.2.1.getD 6 unk)) ((r27.2.1.getD 7 unk)) r27.2.2
| .exit i => if i = 1 then some (AEx.normal, [(r27.2.1.getD 0 unk), (r27.2.1.getD 1 unk), (r27.2.1.getD 2 unk), (r27.2.1.getD 3 unk), unk, unk, (r27.2.1.getD 6 unk), (r27.2.1.getD 7 unk)], r27.2.2) else some (AEx.exit i, [(r27.2.1.getD 0 unk), (r27.2.1.getD 1 unk), (r27.2.1.getD 2 unk), (r27.2.1.getD 3 unk), unk, unk, (r27.2.1.getD 6 unk), (r27.2.1.getD 7 unk)], r27.2.2)
| .ret => some (AEx.ret, [(r27.2.1.getD 0 unk), (r27.2.1.getD 1 unk), (r27.2.1.getD 2 unk), (r27.2.1.getD 3 unk), unk, unk, (r27.2.1.getD 6 unk), (r27.2.1.getD 7 unk)], r27.2.2)
noncomputable def j4 (C : Am.Callee) (L : Loops) (n0 : Nat) (t0 t1 t3 t6 t20 t21 : Value) (s : AS) : Option ((List Value × AS) ⊕ (AEx × List Value × AS)) :=
(aBin PP .add 3 (.tmp 21) (.const (.int .i64 1)) t21 (.int .i64 1)).bind fun x39 =>
some (.inl ([t0, t1, t3, t6, t20, x39], s))
noncomputable def loop4 (C : Am.Callee) (L : Loops) (n0 : Nat) (t0 t1 t3 t6 t20 t21 : Value) (s : AS) : Option ((List Value × AS) ⊕ (AEx × List Value × AS)) :=
(aBin PP .lss 3 (.tmp 21) (.tmp 20) t21 t20).bind fun x4 =>
bcase x4 (
(((aNil t3).bind fun x5 =>
(aLoad false 1 s x5).bind fun x6 =>
(aBin PP .leq 3 (.tmp 26) (.const (.int .i64 0)) x6 (.int .i64 0)).bind fun x7 =>
bcase x7 (
j1 C L n0 t0 t1 t3 t6 t21 t20 t21 (.bool true) s) (
(aLoad true 16 s t6).bind fun x8 =>
(C 47 [t0, t1, t21, x8] s.H).bind fun r9 =>
(aUn PP .not r9.1).bind fun x10 =>
j1 C L n0 t0 t1 t3 t6 t21 t20 t21 x10 (AS.mk r9.2.1 (joinEsc s.esc r9.2.2)))).bind fun r11 =>
match r11.1 with
| .normal => j2 C L n0 ((r11.2.1.getD 0 unk)) ((r11.2.1.getD 1 unk)) ((r11.2.1.getD 2 unk)) ((r11.2.1.getD 3 unk)) ((r11.2.1.getD 4 unk)) ((r11.2.1.getD 5 unk)) ((r11.2.1.getD 6 unk)) r11.2.2
| .exit i => if i = 1 then some (AEx.normal, [(r11.2.1.getD 0 unk), (r11.2.1.getD 1 unk), (r11.2.1.getD 2 unk), (r11.2.1.getD 3 unk), unk, unk, (r11.2.1.getD 5 unk), (r11.2.1.getD 6 unk)], r11.2.2) else some (AEx.exit i, [(r11.2.1.getD 0 unk), (r11.2.1.getD 1 unk), (r11.2.1.getD 2 unk), (r11.2.1.getD 3 unk), unk, unk, (r11.2.1.getD 5 unk), (r11.2.1.getD 6 unk)], r11.2.2)
| .ret => some (AEx.ret, [(r11.2.1.getD 0 unk), (r11.2.1.getD 1 unk), (r11.2.1.getD 2 unk), (r11.2.1.getD 3 unk), unk, unk, (r11.2.1.getD 5 unk), (r11.2.1.getD 6 unk)], r11.2.2)).bind fun r38 =>
match r38.1 with
| .normal => j4 C L n0 ((r38.2.1.getD 0 unk)) ((r38.2.1.getD 1 unk)) ((r38.2.1.getD 2 unk)) ((r38.2.1.getD 3 unk)) ((r38.2.1.getD 6 unk)) ((r38.2.1.getD 7 unk)) r38.2.2
| .exit i => some (.inr (.exit i, [(r38.2.1.getD 4 unk), (r38.2.1.getD 5 unk)], r38.2.2))
| .ret => some (.inr (.ret, [(r38.2.1.getD 4 unk), (r38.2.1.getD 5 unk)], r38.2.2))) (
some (.inr (.exit 0, [unk, unk], s)))
noncomputable def loop4s (C : Am.Callee) (L : Loops) (n0 : Nat) : List Value × AS → Option ((List Value × AS) ⊕ (AEx × List Value × AS)) := fun s => loop4 C L n0 (s.1.getD 0 unk) (s.1.getD 1 unk) (s.1.getD 2 unk) (s.1.getD 3 unk) (s.1.getD 4 unk) (s.1.getD 5 unk) s.2
noncomputable def j6 (C : Am.Callee) (L : Loops) (n0 : Nat) (s : AS) : Option (Value × List Blk × Option Nat) :=
fin PP false n0 [.slice none 0 0, .bool false] s
noncomputable def sh (C : Am.Callee) (L : Loops) (n0 : Nat) (t0 t1 t2 t3 : Value) (s : AS) : Option (Value × List Blk × Option Nat) :=
(aBox 24 t2 s).bind fun r1 =>
(C 46 [t0, t1] r1.2.H).bind fun r2 =>
bcase r2.1 (
fin PP false n0 [t1, .bool true] (AS.mk r2.2.1 (joinEsc r1.2.esc r2.2.2))) (
((aLen PP 22 t0 (AS.mk r2.2.1 (joinEsc r1.2.esc r2.2.2))).bind fun x3 =>
(L n0 (loop4s C L n0) ([t0, t1, t3, r1.1, x3, .int .i64 0], AS.mk r2.2.1 (joinEsc r1.2.esc r2.2.2))).bind fun r40 =>
match r40.1 with
| .normal => some (AEx.normal, [(r40.2.1.getD 0 unk), (r40.2.1.getD 1 unk)], r40.2.2)
| .exit i => if i = 0 then some (AEx.normal, [(r40.2.1.getD 0 unk), (r40.2.1.getD 1 unk)], r40.2.2) else some (AEx.exit i, [(r40.2.1.getD 0 unk), (r40.2.1.getD 1 unk)], r40.2.2)
| .ret => some (AEx.ret, [(r40.2.1.getD 0 unk), (r40.2.1.getD 1 unk)], r40.2.2)).bind fun r41 =>
match r41.1 with
| .normal => j6 C L n0  r41.2.2
| .exit i => none
| .ret => fin PP false n0 [(r41.2.1.getD 0 unk), (r41.2.1.getD 1 unk)] r41.2.2)
def T : Tab := ⟨fun i => if i = 4 then some [0, 1, 3, 6, 20, 21] else none, fun i => if i = 4 then some [8, 9] else none, false, fun i => if i = 7 then some [0, 1, 3, 6, 10, 20, 21] else if i = 11 then some [0, 1, 3, 6, 10, 11, 20, 21] else if i = 16 then some [0, 1, 3, 6, 8, 9, 20, 21] else if i = 17 then some [8, 9] else none, fun _ => false, false⟩
end f30
namespace f31
noncomputable def loop2 (C : Am.Callee) (L : Loops) (n0 : Nat) (t1 t7 t8 t9 : Value) (s : AS) : Option ((List Value × AS) ⊕ (AEx × List Value × AS)) :=
(aBin PP .lss 3 (.tmp 9) (.tmp 8) t9 t8).bind fun x2 =>
bcase x2 (
(aIndexAddr PP 31 t7 t9).bind fun x3 =>
(aLoad false 1 s x3).bind fun x4 =>
(aBin PP .eql 3 (.tmp 14) (.tmp 15) x4 t1).bind fun x5 =>
bcase x5 (
some (.inr (.ret, [t9], s))) (
(aBin PP .add 3 (.tmp 9) (.const (.int .i64 1)) t9 (.int .i64 1)).bind fun x6 =>
some (.inl ([t1, t7, t8, x6], s)))) (
some (.inr (.exit 0, [unk], s)))
noncomputable def loop2s (C : Am.Callee) (L : Loops) (n0 : Nat) : List Value × AS → Option ((List Value × AS) ⊕ (AEx × List Value × AS)) := fun s => loop2 C L n0 (s.1.getD 0 unk) (s.1.getD 1 unk) (s.1.getD 2 unk) (s.1.getD 3 unk) s.2
noncomputable def j2 (C : Am.Callee) (L : Loops) (n0 : Nat) (s : AS) : Option (Value × List Blk × Option Nat) :=
fin PP false n0 [.int .i64 (-1)] s
noncomputable def sh (C : Am.Callee) (L : Loops) (n0 : Nat) (t0 t1 : Value) (s : AS) : Option (Value × List Blk × Option Nat) :=
((aLen PP 31 t0 s).bind fun x1 =>
(L n0 (loop2s C L n0) ([t1, t0, x1, .int .i64 0], s)).bind fun r7 =>
match r7.1 with
| .normal => some (AEx.normal, [(r7.2.1.getD 0 unk)], r7.2.2)
| .exit i => if i = 0 then some (AEx.normal, [(r7.2.1.getD 0 unk)], r7.2.2) else some (AEx.exit i, [(r7.2.1.getD 0 unk)], r7.2.2)
| .ret => some (AEx.ret, [(r7.2.1.getD 0 unk)], r7.2.2)).bind fun r8 =>
match r8.1 with
| .normal => j2 C L n0  r8.2.2
| .exit i => none
| .ret => fin PP false n0 [(r8.2.1.getD 0 unk)] r8.2.2
def T : Tab := ⟨fun i => if i = 2 then some [1, 7, 8, 9] else none, fun i => if i = 2 then some [4] else none, false, fun i => if i = 7 then some [4] else none, fun _ => false, false⟩
end f31
namespace f32
noncomputable def sh (C : Am.Callee) (L : Loops) (n0 : Nat) (t0 t1 : Value) (s : AS) : Option (Value × List Blk × Option Nat) :=
(aBox 64 t0 s).bind fun r1 =>
(aBox 64 t1 r1.2).bind fun r2 =>
(aFieldAddr PP 64 r1.1 3).bind fun x3 =>
(aLoad false 1 r2.2 x3).bind fun x4 =>
(aBin PP .geq 3 (.tmp 6) (.const (.int .i64 0)) x4 (.int .i64 0)).bind fun x5 =>
bcase x5 (
(aFieldAddr PP 64 r1.1 3).bind fun x6 =>
(aLoad false 1 r2.2 x6).bind fun x7 =>
(aFieldAddr PP 64 r2.1 2).bind fun x8 =>
(aLoad false 1 r2.2 x8).bind fun x9 =>
(aBin PP .lss 3 (.tmp 10) (.tmp 12) x7 x9).bind fun x10 =>
fin PP false n0 [x10] r2.2) (
fin PP false n0 [.bool false] r2.2)
def T : Tab := ⟨fun i => none, fun i => none, false, fun i => none, fun _ => false, false⟩
end f32
namespace f33
noncomputable def sh (C : Am.Callee) (L : Loops) (n0 : Nat) (t0 : Value) (s : AS) : Option (Value × List Blk × Option Nat) :=
(aBox 64 t0 s).bind fun r1 =>
(aFieldAddr PP 64 r1.1 0).bind fun x2 =>
(aLoad false 1 r1.2 x2).bind fun x3 =>
(aUn PP .not x3).bind fun x4 =>
bcase x4 (
fin PP false n0 [.bool true] r1.2) (
(aFieldAddr PP 64 r1.1 3).bind fun x5 =>
(aLoad false 1 r1.2 x5).bind fun x6 =>
(aBin PP .geq 3 (.tmp 8) (.const (.int .i64 0)) x6 (.int .i64 0)).bind fun x7 =>
fin PP false n0 [x7] r1.2)
def T : Tab := ⟨fun i => none, fun i => none, false, fun i => none, fun _ => false, false⟩
end f33
namespace f42
noncomputable def j1 (C : Am.Callee) (L : Loops) (n0 : Nat) (t1 t4 t6 t46 t47 t48 t67 : Value) (s : AS) : Option (AEx × List Value × AS) :=
bcase t67 (
some (AEx.ret, [t1, t4, .bool true, t6, t46, t47, t48], s)) (
some (AEx.normal, [t1, t4, unk, t6, t46, t47, t48], s))
noncomputable def j2 (C : Am.Callee) (L : Loops) (n0 : Nat) (t1 t4 t6 t46 t47 t48 : Value) (s : AS) : Option ((List Value × AS) ⊕ (AEx × List Value × AS)) :=
(aBin PP .add 3 (.tmp 48) (.const (.int .i64 1)) t48 (.int .i64 1)).bind fun x52 =>
some (.inl ([t1, t4, t6, t46, t47, x52], s))
noncomputable def loop11 (C : Am.Callee) (L : Loops) (n0 : Nat) (t1 t4 t6 t46 t47 t48 : Value) (s : AS) : Option ((List Value × AS) ⊕ (AEx × List Value × AS)) :=
(aBin PP .lss 3 (.tmp 48) (.tmp 47) t48 t47).bind fun x36 =>
bcase x36 (
((aIndexAddr PP 26 t46 t48).bind fun x37 =>
(aLoad true 19 s x37).bind fun x38 =>
(aBox 40 ((zeroP PP 40).getD unk) s).bind fun r39 =>
(aStore 19 r39.2 r39.1 x38).bind fun s40 =>
((aFieldAddr PP 40 r39.1 0).bind fun x41 =>
(aLoad false 1 s40 x41).bind fun x42 =>
bcase x42 (
(aLoad false 1 s40 t1).bind fun x43 =>
(aLoad true 17 s40 t4).bind fun x44 =>
(C 45 [x43, x44, t48] s40.H).bind fun r45 =>
bcase r45.1 (
(aFieldAddr PP 40 r39.1 1).bind fun x46 =>
(aLoad true 16 (AS.mk r45.2.1 (joinEsc s40.esc r45.2.2)) x46).bind fun x47 =>
(aFn PP t6 [t48, x47]).bind fun g49 =>
(C g49.1 g49.2 (AS.mk r45.2.1 (joinEsc s40.esc r45.2.2)).H).bind fun r48 =>
some (AEx.normal, [t1, t4, t6, t46, t47, t48, r48.1], AS.mk r48.2.1 (joinEsc (AS.mk r45.2.1 (joinEsc s40.esc r45.2.2)).esc r48.2.2))) (
some (AEx.normal, [t1, t4, t6, t46, t47, t48, .bool false], AS.mk r45.2.1 (joinEsc s40.esc r45.2.2)))) (
some (AEx.normal, [t1, t4, t6, t46, t47, t48, .bool false], s40))).bind fun r50 =>
match r50.1 with
| .normal => j1 C L n0 ((r50.2.1.getD 0 unk)) ((r50.2.1.getD 1 unk)) ((r50.2.1.getD 2 unk)) ((r50.2.1.getD 3 unk)) ((r50.2.1.getD 4 unk)) ((r50.2.1.getD 5 unk)) ((r50.2.1.getD 6 unk)) r50.2.2
| .exit i => if i = 1 then some (AEx.normal, [(r50.2.1.getD 0 unk), (r50.2.1.getD 1 unk), unk, (r50.2.1.getD 2 unk), (r50.2.1.getD 3 unk), (r50.2.1.getD 4 unk), (r50.2.1.getD 5 unk)], r50.2.2) else some (AEx.exit i, [(r50.2.1.getD 0 unk), (r50.2.1.getD 1 unk), unk, (r50.2.1.getD 2 unk), (r50.2.1.getD 3 unk), (r50.2.1.getD 4 unk), (r50.2.1.getD 5 unk)], r50.2.2)
| .ret => some (AEx.ret, [(r50.2.1.getD 0 unk), (r50.2.1.getD 1 unk), unk, (r50.2.1.getD 2 unk), (r50.2.1.getD 3 unk), (r50.2.1.getD 4 unk), (r50.2.1.getD 5 unk)], r50.2.2)).bind fun r51 =>
match r51.1 with
| .normal => j2 C L n0 ((r51.2.1.getD 0 unk)) ((r51.2.1.getD 1 unk)) ((r51.2.1.getD 3 unk)) ((r51.2.1.getD 4 unk)) ((r51.2.1.getD 5 unk)) ((r51.2.1.getD 6 unk)) r51.2.2
| .exit i => some (.inr (.exit i, [(r51.2.1.getD 2 unk)], r51.2.2))
| .ret => some (.inr (.ret, [(r51.2.1.getD 2 unk)], r51.2.2))) (
some (.inr (.exit 0, [unk], s)))
noncomputable def loop11s (C : Am.Callee) (L : Loops) (n0 : Nat) : List Value × AS → Option ((List Value × AS) ⊕ (AEx × List Value × AS)) := fun s => loop11 C L n0 (s.1.getD 0 unk) (s.1.getD 1 unk) (s.1.getD 2 unk) (s.1.getD 3 unk) (s.1.getD 4 unk) (s.1.getD 5 unk) s.2
noncomputable def j4 (C : Am.Callee) (L : Loops) (n0 : Nat) (s : AS) : Option (Value × List Blk × Option Nat) :=
fin PP false n0 [.bool false] s
noncomputable def sh (C : Am.Callee) (L : Loops) (n0 : Nat) (t0 t1 t2 t3 : Value) (s : AS) : Option (Value × List Blk × Option Nat) :=
(aBox 92 t0 s).bind fun r1 =>
(aLoad false 1 r1.2 t1).bind fun x2 =>
(aNil x2).bind fun x3 =>
(aFieldAddr PP 89 x3 1).bind fun x4 =>
(aLoad false 1 r1.2 x4).bind fun x5 =>
(aFieldAddr PP 92 r1.1 0).bind fun x6 =>
(aLoad false 1 r1.2 x6).bind fun x7 =>
(aBin PP .andNot 86 (.tmp 14) (.tmp 16) x5 x7).bind fun x8 =>
(aBin PP .eql 86 (.tmp 17) (.const (.int .u64 0)) x8 (.int .u64 0)).bind fun x9 =>
bcase x9 (
fin PP false n0 [.bool true] r1.2) (
(aLoad false 1 r1.2 t1).bind fun x10 =>
(aNil x10).bind fun x11 =>
(aFieldAddr PP 89 x11 3).bind fun x12 =>
(aLoad false 1 r1.2 x12).bind fun x13 =>
(aLoad true 17 r1.2 r1.1).bind fun x14 =>
(aLookup PP 85 x13 x14 false r1.2).bind fun x15 =>
bcase x15 (
fin PP false n0 [.bool false] r1.2) (
(aLoad false 1 r1.2 t1).bind fun x16 =>
(aNil x16).bind fun x17 =>
(aFieldAddr PP 89 x17 3).bind fun x18 =>
(aLoad false 1 r1.2 x18).bind fun x19 =>
(aLoad true 17 r1.2 r1.1).bind fun x20 =>
(aMapUpdate PP 85 x19 x20 (.bool true) r1.2).bind fun s21 =>
(aLoad false 1 s21 t1).bind fun x22 =>
(aLoad true 17 s21 r1.1).bind fun x23 =>
(C 44 [x22, x23] s21.H).bind fun r24 =>
(pureRun PP (Instr.extract r24.1 0)).bind fun x25 =>
(pureRun PP (Instr.extract r24.1 1)).bind fun x26 =>
bcase x26 (
(aFieldAddr PP 92 r1.1 1).bind fun x27 =>
(aLoad true 16 (AS.mk r24.2.1 (joinEsc s21.esc r24.2.2)) x27).bind fun x28 =>
(aFn PP (.func (.func 43) (#[]) (#[t2, t3, r1.1])) [x25, x28]).bind fun g30 =>
(C g30.1 g30.2 (AS.mk r24.2.1 (joinEsc s21.esc r24.2.2)).H).bind fun r29 =>
fin PP false n0 [r29.1] (AS.mk r29.2.1 (joinEsc (AS.mk r24.2.1 (joinEsc s21.esc r24.2.2)).esc r29.2.2))) (
((aLoad false 1 (AS.mk r24.2.1 (joinEsc s21.esc r24.2.2)) t1).bind fun x31 =>
(aNil x31).bind fun x32 =>
(aFieldAddr PP 89 x32 0).bind fun x33 =>
(aLoad false 1 (AS.mk r24.2.1 (joinEsc s21.esc r24.2.2)) x33).bind fun x34 =>
(aLen PP 26 x34 (AS.mk r24.2.1 (joinEsc s21.esc r24.2.2))).bind fun x35 =>
(L n0 (loop11s C L n0) ([t1, r1.1, .func (.func 43) (#[]) (#[t2, t3, r1.1]), x34, x35, .int .i64 0], AS.mk r24.2.1 (joinEsc s21.esc r24.2.2))).bind fun r53 =>
match r53.1 with
| .normal => some (AEx.normal, [(r53.2.1.getD 0 unk)], r53.2.2)
| .exit i => if i = 0 then some (AEx.normal, [(r53.2.1.getD 0 unk)], r53.2.2) else some (AEx.exit i, [(r53.2.1.getD 0 unk)], r53.2.2)
| .ret => some (AEx.ret, [(r53.2.1.getD 0 unk)], r53.2.2)).bind fun r54 =>
match r54.1 with
| .normal => j4 C L n0  r54.2.2
| .exit i => none
| .ret => fin PP false n0 [(r54.2.1.getD 0 unk)] r54.2.2)))
def T : Tab := ⟨fun i => if i = 11 then some [1, 4, 6, 46, 47, 48] else none, fun i => if i = 11 then some [5] else none, false, fun i => if i = 14 then some [1, 4, 6, 46, 47, 48, 67] else if i = 15 then some [1, 4, 5, 6, 46, 47, 48] else if i = 16 then some [5] else none, fun _ => false, false⟩
end f42
namespace f43
noncomputable def sh (C : Am.Callee) (L : Loops) (n0 : Nat) (t0 t1 t2 t3 t4 : Value) (s : AS) : Option (Value × List Blk × Option Nat) :=
(aBox 24 t1 s).bind fun r1 =>
(aLoad false 1 r1.2 t2).bind fun x2 =>
(bsl PP 31 1 [0] [t0] r1.2).bind fun r3 =>
eBuiltin PP .append #[31, 31] [x2, r3.1] r3.2 fun x4 s5 =>
(aStore 1 s5 t2 x4).bind fun s6 =>
(aLoad false 1 s6 t3).bind fun x7 =>
(aFieldAddr PP 92 t4 0).bind fun x8 =>
(aLoad false 1 s6 x8).bind fun x9 =>
(aBin PP .shl 86 (.const (.int .u64 1)) (.tmp 15) (.int .u64 1) t0).bind fun x10 =>
(aBin PP .or 86 (.tmp 14) (.tmp 16) x9 x10).bind fun x11 =>
(aLoad true 16 s6 r1.1).bind fun x12 =>
(aBuild PP 92 [(0, x11), (1, x12)]).bind fun x13 =>
(aFn PP x7 [x13]).bind fun g15 =>
(C g15.1 g15.2 s6.H).bind fun r14 =>
bcase r14.1 (
fin PP false n0 [.bool true] (AS.mk r14.2.1 (joinEsc s6.esc r14.2.2))) (
(aLoad false 1 (AS.mk r14.2.1 (joinEsc s6.esc r14.2.2)) t2).bind fun x16 =>
(aLoad false 1 (AS.mk r14.2.1 (joinEsc s6.esc r14.2.2)) t2).bind fun x17 =>
(aLen PP 31 x17 (AS.mk r14.2.1 (joinEsc s6.esc r14.2.2))).bind fun x18 =>
(aBin PP .sub 3 (.tmp 23) (.const (.int .i64 1)) x18 (.int .i64 1)).bind fun x19 =>
(aSlice PP 31 x16 none (some x19) none (AS.mk r14.2.1 (joinEsc s6.esc r14.2.2))).bind fun x20 =>
(aStore 1 (AS.mk r14.2.1 (joinEsc s6.esc r14.2.2)) t2 x20).bind fun s21 =>
fin PP false n0 [.bool false] s21)
def T : Tab := ⟨fun i => none, fun i => none, false, fun i => none, fun _ => false, false⟩
end f43
namespace f44
noncomputable def j1 (C : Am.Callee) (L : Loops) (n0 : Nat) (t0 t3 t6 t11 t12 t13 t33 : Value) (s : AS) : Option (AEx × List Value × AS) :=
bcase t33 (
some (AEx.ret, [t0, t3, t6, .bool true, t11, t12, t13], s)) (
some (AEx.normal, [t0, t3, unk, unk, t11, t12, t13], s))
noncomputable def j2 (C : Am.Callee) (L : Loops) (n0 : Nat) (t0 t3 t11 t12 t13 : Value) (s : AS) : Option ((List Value × AS) ⊕ (AEx × List Value × AS)) :=
(aBin PP .add 3 (.tmp 13) (.const (.int .i64 1)) t13 (.int .i64 1)).bind fun x23 =>
some (.inl ([t0, t3, t11, t12, x23], s))
noncomputable def loop2 (C : Am.Callee) (L : Loops) (n0 : Nat) (t0 t3 t11 t12 t13 : Value) (s : AS) : Option ((List Value × AS) ⊕ (AEx × List Value × AS)) :=
(aBin PP .lss 3 (.tmp 13) (.tmp 12) t13 t12).bind fun x6 =>
bcase x6 (
((aIndexAddr PP 26 t11 t13).bind fun x7 =>
(aLoad true 19 s x7).bind fun x8 =>
(aBox 40 ((zeroP PP 40).getD unk) s).bind fun r9 =>
(aStore 19 r9.2 r9.1 x8).bind fun s10 =>
((aFieldAddr PP 40 r9.1 0).bind fun x11 =>
(aLoad false 1 s10 x11).bind fun x12 =>
(aUn PP .not x12).bind fun x13 =>
bcase x13 (
(aFieldAddr PP 40 r9.1 1).bind fun x14 =>
(aLoad true 16 s10 x14).bind fun x15 =>
(aFieldAddr PP 92 t3 1).bind fun x16 =>
(aLoad true 16 s10 x16).bind fun x17 =>
(aBin PP .eql 24 (.tmp 23) (.tmp 25) x15 x17).bind fun x18 =>
bcase x18 (
(aLoad true 17 s10 t3).bind fun x19 =>
(C 45 [t0, x19, t13] s10.H).bind fun r20 =>
some (AEx.normal, [t0, t3, t13, t11, t12, t13, r20.1], AS.mk r20.2.1 (joinEsc s10.esc r20.2.2))) (
some (AEx.normal, [t0, t3, t13, t11, t12, t13, .bool false], s10))) (
some (AEx.normal, [t0, t3, t13, t11, t12, t13, .bool false], s10))).bind fun r21 =>
match r21.1 with
| .normal => j1 C L n0 ((r21.2.1.getD 0 unk)) ((r21.2.1.getD 1 unk)) ((r21.2.1.getD 2 unk)) ((r21.2.1.getD 3 unk)) ((r21.2.1.getD 4 unk)) ((r21.2.1.getD 5 unk)) ((r21.2.1.getD 6 unk)) r21.2.2
| .exit i => if i = 1 then some (AEx.normal, [(r21.2.1.getD 0 unk), (r21.2.1.getD 1 unk), unk, unk, (r21.2.1.getD 3 unk), (r21.2.1.getD 4 unk), (r21.2.1.getD 5 unk)], r21.2.2) else some (AEx.exit i, [(r21.2.1.getD 0 unk), (r21.2.1.getD 1 unk), unk, unk, (r21.2.1.getD 3 unk), (r21.2.1.getD 4 unk), (r21.2.1.getD 5 unk)], r21.2.2)
| .ret => some (AEx.ret, [(r21.2.1.getD 0 unk), (r21.2.1.getD 1 unk), unk, unk, (r21.2.1.getD 3 unk), (r21.2.1.getD 4 unk), (r21.2.1.getD 5 unk)], r21.2.2)).bind fun r22 =>
match r22.1 with
| .normal => j2 C L n0 ((r22.2.1.getD 0 unk)) ((r22.2.1.getD 1 unk)) ((r22.2.1.getD 4 unk)) ((r22.2.1.getD 5 unk)) ((r22.2.1.getD 6 unk)) r22.2.2
| .exit i => some (.inr (.exit i, [(r22.2.1.getD 2 unk), (r22.2.1.getD 3 unk)], r22.2.2))
| .ret => some (.inr (.ret, [(r22.2.1.getD 2 unk), (r22.2.1.getD 3 unk)], r22.2.2))) (
some (.inr (.exit 0, [unk, unk], s)))
noncomputable def loop2s (C : Am.Callee) (L : Loops) (n0 : Nat) : List Value × AS → Option ((List Value × AS) ⊕ (AEx × List Value × AS)) := fun s => loop2 C L n0 (s.1.getD 0 unk) (s.1.getD 1 unk) (s.1.getD 2 unk) (s.1.getD 3 unk) (s.1.getD 4 unk) s.2
noncomputable def j4 (C : Am.Callee) (L : Loops) (n0 : Nat) (s : AS) : Option (Value × List Blk × Option Nat) :=
fin PP false n0 [.int .i64 0, .bool false] s
noncomputable def sh (C : Am.Callee) (L : Loops) (n0 : Nat) (t0 t1 : Value) (s : AS) : Option (Value × List Blk × Option Nat) :=
(aBox 92 t1 s).bind fun r1 =>
((aNil t0).bind fun x2 =>
(aFieldAddr PP 89 x2 0).bind fun x3 =>
(aLoad false 1 r1.2 x3).bind fun x4 =>
(aLen PP 26 x4 r1.2).bind fun x5 =>
(L n0 (loop2s C L n0) ([t0, r1.1, x4, x5, .int .i64 0], r1.2)).bind fun r24 =>
match r24.1 with
| .normal => some (AEx.normal, [(r24.2.1.getD 0 unk), (r24.2.1.getD 1 unk)], r24.2.2)
| .exit i => if i = 0 then some (AEx.normal, [(r24.2.1.getD 0 unk), (r24.2.1.getD 1 unk)], r24.2.2) else some (AEx.exit i, [(r24.2.1.getD 0 unk), (r24.2.1.getD 1 unk)], r24.2.2)
| .ret => some (AEx.ret, [(r24.2.1.getD 0 unk), (r24.2.1.getD 1 unk)], r24.2.2)).bind fun r25 =>
match r25.1 with
| .normal => j4 C L n0  r25.2.2
| .exit i => none
| .ret => fin PP false n0 [(r25.2.1.getD 0 unk), (r25.2.1.getD 1 unk)] r25.2.2
def T : Tab := ⟨fun i => if i = 2 then some [0, 3, 11, 12, 13] else none, fun i => if i = 2 then some [4, 5] else none, false, fun i => if i = 5 then some [0, 3, 6, 11, 12, 13, 33] else if i = 6 then some [0, 3, 4, 5, 11, 12, 13] else if i = 7 then some [4, 5] else none, fun _ => false, false⟩
end f44
namespace f45
noncomputable def sh (C : Am.Callee) (L : Loops) (n0 : Nat) (t0 t1 t2 : Value) (s : AS) : Option (Value × List Blk × Option Nat) :=
(aBox 92 t1 s).bind fun r1 =>
(aFieldAddr PP 92 r1.1 0).bind fun x2 =>
(aLoad false 1 r1.2 x2).bind fun x3 =>
(aBin PP .shr 86 (.tmp 8) (.tmp 9) x3 t2).bind fun x4 =>
(aBin PP .and 86 (.tmp 10) (.const (.int .u64 1)) x4 (.int .u64 1)).bind fun x5 =>
(aBin PP .eql 86 (.tmp 11) (.const (.int .u64 0)) x5 (.int .u64 0)).bind fun x6 =>
bcase x6 (
(aNil t0).bind fun x7 =>
(aFieldAddr PP 89 x7 2).bind fun x8 =>
(aLoad false 1 r1.2 x8).bind fun x9 =>
(aIndexAddr PP 87 x9 t2).bind fun x10 =>
(aLoad false 1 r1.2 x10).bind fun x11 =>
(aFieldAddr PP 92 r1.1 0).bind fun x12 =>
(aLoad false 1 r1.2 x12).bind fun x13 =>
(aBin PP .andNot 86 (.tmp 20) (.tmp 22) x11 x13).bind fun x14 =>
(aBin PP .eql 86 (.tmp 23) (.const (.int .u64 0)) x14 (.int .u64 0)).bind fun x15 =>
fin PP false n0 [x15] r1.2) (
fin PP false n0 [.bool false] r1.2)
def T : Tab := ⟨fun i => none, fun i => none, false, fun i => none, fun _ => false, false⟩
end f45
namespace f46
noncomputable def j1 (C : Am.Callee) (L : Loops) (n0 : Nat) (t1 t7 t8 t9 t21 : Value) (s : AS) : Option (AEx × List Value × AS) :=
bcase t21 (
some (AEx.ret, [t1, .bool false, t7, t8, t9], s)) (
some (AEx.normal, [t1, unk, t7, t8, t9], s))
noncomputable def j2 (C : Am.Callee) (L : Loops) (n0 : Nat) (t1 t7 t8 t9 : Value) (s : AS) : Option ((List Value × AS) ⊕ (AEx × List Value × AS)) :=
(aBin PP .add 3 (.tmp 9) (.const (.int .i64 1)) t9 (.int .i64 1)).bind fun x13 =>
some (.inl ([t1, t7, t8, x13], s))
noncomputable def loop2 (C : Am.Callee) (L : Loops) (n0 : Nat) (t1 t7 t8 t9 : Value) (s : AS) : Option ((List Value × AS) ⊕ (AEx × List Value × AS)) :=
(aBin PP .lss 3 (.tmp 9) (.tmp 8) t9 t8).bind fun x2 =>
bcase x2 (
((aIndexAddr PP 22 t7 t9).bind fun x3 =>
(aLoad true 19 s x3).bind fun x4 =>
(aBox 64 ((zeroP PP 64).getD unk) s).bind fun r5 =>
(aStore 19 r5.2 r5.1 x4).bind fun s6 =>
((aLoad true 19 s6 r5.1).bind fun x7 =>
(C 33 [x7] s6.H).bind fun r8 =>
bcase r8.1 (
(C 31 [t1, t9] (AS.mk r8.2.1 (joinEsc s6.esc r8.2.2)).H).bind fun r9 =>
(aBin PP .lss 3 (.tmp 19) (.const (.int .i64 0)) r9.1 (.int .i64 0)).bind fun x10 =>
some (AEx.normal, [t1, t7, t8, t9, x10], AS.mk r9.2.1 (joinEsc (AS.mk r8.2.1 (joinEsc s6.esc r8.2.2)).esc r9.2.2))) (
some (AEx.normal, [t1, t7, t8, t9, .bool false], AS.mk r8.2.1 (joinEsc s6.esc r8.2.2)))).bind fun r11 =>
match r11.1 with
| .normal => j1 C L n0 ((r11.2.1.getD 0 unk)) ((r11.2.1.getD 1 unk)) ((r11.2.1.getD 2 unk)) ((r11.2.1.getD 3 unk)) ((r11.2.1.getD 4 unk)) r11.2.2
| .exit i => if i = 1 then some (AEx.normal, [(r11.2.1.getD 0 unk), unk, (r11.2.1.getD 1 unk), (r11.2.1.getD 2 unk), (r11.2.1.getD 3 unk)], r11.2.2) else some (AEx.exit i, [(r11.2.1.getD 0 unk), unk, (r11.2.1.getD 1 unk), (r11.2.1.getD 2 unk), (r11.2.1.getD 3 unk)], r11.2.2)
| .ret => some (AEx.ret, [(r11.2.1.getD 0 unk), unk, (r11.2.1.getD 1 unk), (r11.2.1.getD 2 unk), (r11.2.1.getD 3 unk)], r11.2.2)).bind fun r12 =>
match r12.1 with
| .normal => j2 C L n0 ((r12.2.1.getD 0 unk)) ((r12.2.1.getD 2 unk)) ((r12.2.1.getD 3 unk)) ((r12.2.1.getD 4 unk)) r12.2.2
| .exit i => some (.inr (.exit i, [(r12.2.1.getD 1 unk)], r12.2.2))
| .ret => some (.inr (.ret, [(r12.2.1.getD 1 unk)], r12.2.2))) (
some (.inr (.exit 0, [unk], s)))
noncomputable def loop2s (C : Am.Callee) (L : Loops) (n0 : Nat) : List Value × AS → Option ((List Value × AS) ⊕ (AEx × List Value × AS)) := fun s => loop2 C L n0 (s.1.getD 0 unk) (s.1.getD 1 unk) (s.1.getD 2 unk) (s.1.getD 3 unk) s.2
noncomputable def j4 (C : Am.Callee) (L : Loops) (n0 : Nat) (s : AS) : Option (Value × List Blk × Option Nat) :=
fin PP false n0 [.bool true] s
noncomputable def sh (C : Am.Callee) (L : Loops) (n0 : Nat) (t0 t1 : Value) (s : AS) : Option (Value × List Blk × Option Nat) :=
((aLen PP 22 t0 s).bind fun x1 =>
(L n0 (loop2s C L n0) ([t1, t0, x1, .int .i64 0], s)).bind fun r14 =>
match r14.1 with
| .normal => some (AEx.normal, [(r14.2.1.getD 0 unk)], r14.2.2)
| .exit i => if i = 0 then some (AEx.normal, [(r14.2.1.getD 0 unk)], r14.2.2) else some (AEx.exit i, [(r14.2.1.getD 0 unk)], r14.2.2)
| .ret => some (AEx.ret, [(r14.2.1.getD 0 unk)], r14.2.2)).bind fun r15 =>
match r15.1 with
| .normal => j4 C L n0  r15.2.2
| .exit i => none
| .ret => fin PP false n0 [(r15.2.1.getD 0 unk)] r15.2.2
def T : Tab := ⟨fun i => if i = 2 then some [1, 7, 8, 9] else none, fun i => if i = 2 then some [4] else none, false, fun i => if i = 5 then some [1, 7, 8, 9, 21] else if i = 6 then some [1, 4, 7, 8, 9] else if i = 7 then some [4] else none, fun _ => false, false⟩
end f46
namespace f47
noncomputable def j0 (C : Am.Callee) (L : Loops) (n0 : Nat) (t0 t1 t2 t31 : Value) (s : AS) : Option (AEx × List Value × AS) :=
bcase t31 (
some (AEx.ret, [t0, t1, t2, .bool false], s)) (
some (AEx.normal, [t0, t1, t2, unk], s))
noncomputable def j3 (C : Am.Callee) (L : Loops) (n0 : Nat) (t0 t1 t2 t32 t33 t34 t55 : Value) (s : AS) : Option (AEx × List Value × AS) :=
bcase t55 (
some (AEx.ret, [t0, t1, t2, .bool false, t32, t33, t34], s)) (
some (AEx.normal, [t0, t1, t2, unk, t32, t33, t34], s))
noncomputable def j4 (C : Am.Callee) (L : Loops) (n0 : Nat) (t0 t1 t2 t32 t33 t34 : Value) (s : AS) : Option ((List Value × AS) ⊕ (AEx × List Value × AS)) :=
(aBin PP .add 3 (.tmp 34) (.const (.int .i64 1)) t34 (.int .i64 1)).bind fun x30 =>
some (.inl ([t0, t1, t2, t32, t33, x30], s))
noncomputable def loop4 (C : Am.Callee) (L : Loops) (n0 : Nat) (t0 t1 t2 t32 t33 t34 : Value) (s : AS) : Option ((List Value × AS) ⊕ (AEx × List Value × AS)) :=
(aBin PP .lss 3 (.tmp 34) (.tmp 33) t34 t33).bind fun x16 =>
bcase x16 (
((aIndexAddr PP 22 t32 t34).bind fun x17 =>
(aLoad true 19 s x17).bind fun x18 =>
(aBox 64 ((zeroP PP 64).getD unk) s).bind fun r19 =>
(aStore 19 r19.2 r19.1 x18).bind fun s20 =>
((aBin PP .neq 3 (.tmp 39) (.tmp 40) t34 t2).bind fun x21 =>
bcase x21 (
(aLoad true 19 s20 r19.1).bind fun x22 =>
(aIndexAddr PP 22 t0 t2).bind fun x23 =>
(aLoad true 19 s20 x23).bind fun x24 =>
(C 32 [x22, x24] s20.H).bind fun r25 =>
bcase r25.1 (
(C 31 [t1, t34] (AS.mk r25.2.1 (joinEsc s20.esc r25.2.2)).H).bind fun r26 =>
(aBin PP .lss 3 (.tmp 53) (.const (.int .i64 0)) r26.1 (.int .i64 0)).bind fun x27 =>
some (AEx.normal, [t0, t1, t2, t32, t33, t34, x27], AS.mk r26.2.1 (joinEsc (AS.mk r25.2.1 (joinEsc s20.esc r25.2.2)).esc r26.2.2))) (
some (AEx.normal, [t0, t1, t2, t32, t33, t34, .bool false], AS.mk r25.2.1 (joinEsc s20.esc r25.2.2)))) (
some (AEx.normal, [t0, t1, t2, t32, t33, t34, .bool false], s20))).bind fun r28 =>
match r28.1 with
| .normal => j3 C L n0 ((r28.2.1.getD 0 unk)) ((r28.2.1.getD 1 unk)) ((r28.2.1.getD 2 unk)) ((r28.2.1.getD 3 unk)) ((r28.2.1.getD 4 unk)) ((r28.2.1.getD 5 unk)) ((r28.2.1.getD 6 unk)) r28.2.2
| .exit i => if i = 1 then some (AEx.normal, [(r28.2.1.getD 0 unk), (r28.2.1.getD 1 unk), (r28.2.1.getD 2 unk), unk, (r28.2.1.getD 3 unk), (r28.2.1.getD 4 unk), (r28.2.1.getD 5 unk)], r28.2.2) else some (AEx.exit i, [(r28.2.1.getD 0 unk), (r28.2.1.getD 1 unk), (r28.2.1.getD 2 unk), unk, (r28.2.1.getD 3 unk), (r28.2.1.getD 4 unk), (r28.2.1.getD 5 unk)], r28.2.2)
| .ret => some (AEx.ret, [(r28.2.1.getD 0 unk), (r28.2.1.getD 1 unk), (r28.2.1.getD 2 unk), unk, (r28.2.1.getD 3 unk), (r28.2.1.getD 4 unk), (r28.2.1.getD 5 unk)], r28.2.2)).bind fun r29 =>
match r29.1 with
| .normal => j4 C L n0 ((r29.2.1.getD 0 unk)) ((r29.2.1.getD 1 unk)) ((r29.2.1.getD 2 unk)) ((r29.2.1.getD 4 unk)) ((r29.2.1.getD 5 unk)) ((r29.2.1.getD 6 unk)) r29.2.2
| .exit i => some (.inr (.exit i, [(r29.2.1.getD 3 unk)], r29.2.2))
| .ret => some (.inr (.ret, [(r29.2.1.getD 3 unk)], r29.2.2))) (
some (.inr (.exit 0, [unk], s)))
noncomputable def loop4s (C : Am.Callee) (L : Loops) (n0 : Nat) : List Value × AS → Option ((List Value × AS) ⊕ (AEx × List Value × AS)) := fun s => loop4 C L n0 (s.1.getD 0 unk) (s.1.getD 1 unk) (s.1.getD 2 unk) (s.1.getD 3 unk) (s.1.getD 4 unk) (s.1.getD 5 unk) s.2
noncomputable def j6 (C : Am.Callee) (L : Loops) (n0 : Nat) (s : AS) : Option (Value × List Blk × Option Nat) :=
fin PP false n0 [.bool true] s
noncomputable def j1 (C : Am.Callee) (L : Loops) (n0 : Nat) (t0 t1 t2 : Value) (s : AS) : Option (Value × List Blk × Option Nat) :=
((aLen PP 22 t0 s).bind fun x15 =>
(L n0 (loop4s C L n0) ([t0, t1, t2, t0, x15, .int .i64 0], s)).bind fun r31 =>
match r31.1 with
| .normal => some (AEx.normal, [(r31.2.1.getD 0 unk)], r31.2.2)
| .exit i => if i = 0 then some (AEx.normal, [(r31.2.1.getD 0 unk)], r31.2.2) else some (AEx.exit i, [(r31.2.1.getD 0 unk)], r31.2.2)
| .ret => some (AEx.ret, [(r31.2.1.getD 0 unk)], r31.2.2)).bind fun r32 =>
match r32.1 with
| .normal => j6 C L n0  r32.2.2
| .exit i => none
| .ret => fin PP false n0 [(r32.2.1.getD 0 unk)] r32.2.2
noncomputable def sh (C : Am.Callee) (L : Loops) (n0 : Nat) (t0 t1 t2 t3 : Value) (s : AS) : Option (Value × List Blk × Option Nat) :=
(aBox 24 t3 s).bind fun r1 =>
(((C 31 [t1, t2] r1.2.H).bind fun r2 =>
(aBin PP .geq 3 (.tmp 13) (.const (.int .i64 0)) r2.1 (.int .i64 0)).bind fun x3 =>
bcase x3 (
some (AEx.normal, [t0, t1, t2, .bool true], AS.mk r2.2.1 (joinEsc r1.2.esc r2.2.2))) (
(aIndexAddr PP 22 t0 t2).bind fun x4 =>
(aFieldAddr PP 64 x4 0).bind fun x5 =>
(aLoad false 1 (AS.mk r2.2.1 (joinEsc r1.2.esc r2.2.2)) x5).bind fun x6 =>
(aUn PP .not x6).bind fun x7 =>
bcase x7 (
(aIndexAddr PP 22 t0 t2).bind fun x8 =>
(aFieldAddr PP 64 x8 1).bind fun x9 =>
(aLoad true 16 (AS.mk r2.2.1 (joinEsc r1.2.esc r2.2.2)) x9).bind fun x10 =>
(aLoad true 16 (AS.mk r2.2.1 (joinEsc r1.2.esc r2.2.2)) r1.1).bind fun x11 =>
(aBin PP .neq 24 (.tmp 27) (.tmp 28) x10 x11).bind fun x12 =>
some (AEx.normal, [t0, t1, t2, x12], AS.mk r2.2.1 (joinEsc r1.2.esc r2.2.2))) (
some (AEx.normal, [t0, t1, t2, .bool false], AS.mk r2.2.1 (joinEsc r1.2.esc r2.2.2))))).bind fun r13 =>
match r13.1 with
| .normal => j0 C L n0 ((r13.2.1.getD 0 unk)) ((r13.2.1.getD 1 unk)) ((r13.2.1.getD 2 unk)) ((r13.2.1.getD 3 unk)) r13.2.2
| .exit i => some (AEx.exit i, [(r13.2.1.getD 0 unk), (r13.2.1.getD 1 unk), (r13.2.1.getD 2 unk), unk], r13.2.2)
| .ret => some (AEx.ret, [(r13.2.1.getD 0 unk), (r13.2.1.getD 1 unk), (r13.2.1.getD 2 unk), unk], r13.2.2)).bind fun r14 =>
match r14.1 with
| .normal => j1 C L n0 ((r14.2.1.getD 0 unk)) ((r14.2.1.getD 1 unk)) ((r14.2.1.getD 2 unk)) r14.2.2
| .exit i => none
| .ret => fin PP false n0 [(r14.2.1.getD 3 unk)] r14.2.2
def T : Tab := ⟨fun i => if i = 4 then some [0, 1, 2, 32, 33, 34] else none, fun i => if i = 4 then some [8] else none, false, fun i => if i = 2 then some [0, 1, 2, 31] else if i = 3 then some [0, 1, 2, 8] else if i = 7 then some [0, 1, 2, 32, 33, 34, 55] else if i = 8 then some [0, 1, 2, 8, 32, 33, 34] else if i = 9 then some [8] else none, fun _ => false, false⟩
end f47
def TT : FuncId → Tab := fun f => if f = 3 then f3.T else if f = 4 then f4.T else if f = 9 then f9.T else if f = 10 then f10.T else if f = 11 then f11.T else if f = 12 then f12.T else if f = 13 then f13.T else if f = 14 then f14.T else if f = 28 then f28.T else if f = 29 then f29.T else if f = 30 then f30.T else if f = 31 then f31.T else if f = 32 then f32.T else if f = 33 then f33.T else if f = 42 then f42.T else if f = 43 then f43.T else if f = 44 then f44.T else if f = 45 then f45.T else if f = 46 then f46.T else if f = 47 then f47.T else ⟨fun _ => none, fun _ => none, false, fun _ => none, fun _ => false, false⟩
def TT1 : FuncId → Tab := fun f => { TT f with lives := false }
theorem f3.eq (C : Am.Callee) (L : Loops) (t0 t1 : Value) (H : List Blk) : ebody PP TT C L 3 [t0, t1] H = f3.sh C L H.length t0 t1 ⟨H, none⟩ := by kernel_rfl
theorem f4.eq (C : Am.Callee) (L : Loops) (t0 t1 t2 : Value) (H : List Blk) : ebody PP TT C L 4 [t0, t1, t2] H = f4.sh C L H.length t0 t1 t2 ⟨H, none⟩ := by kernel_rfl
theorem f9.eq (H : List Blk) : acall PP TT 9 [] H = some (.bool true, H, none) := by rw [acall_eq]; kernel_rfl
theorem f9.lives : Lives PP 9 := lives_of (T := TT1) (fun _ => rfl) (n := 40) (by kernel_rfl)
theorem f10.eq (C : Am.Callee) (L : Loops) (t0 : Value) (H : List Blk) : ebody PP TT C L 10 [t0] H = f10.sh C L H.length t0 ⟨H, none⟩ := by kernel_rfl
theorem f11.eq (C : Am.Callee) (L : Loops) (t0 t1 : Value) (H : List Blk) : ebody PP TT C L 11 [t0, t1] H = f11.sh C L H.length t0 t1 ⟨H, none⟩ := by kernel_rfl
theorem f12.eq (C : Am.Callee) (L : Loops) (t0 t1 : Value) (H : List Blk) : ebody PP TT C L 12 [t0, t1] H = f12.sh C L H.length t0 t1 ⟨H, none⟩ := by kernel_rfl
theorem f13.eq (C : Am.Callee) (L : Loops) (t0 t1 : Value) (H : List Blk) : ebody PP TT C L 13 [t0, t1] H = f13.sh C L H.length t0 t1 ⟨H, none⟩ := by kernel_rfl
theorem f14.eq (C : Am.Callee) (L : Loops) (t0 t1 t2 : Value) (H : List Blk) : ebody PP TT C L 14 [t0, t1, t2] H = f14.sh C L H.length t0 t1 t2 ⟨H, none⟩ := by kernel_rfl
theorem f28.eq (C : Am.Callee) (L : Loops) (t0 : Value) (H : List Blk) : ebody PP TT C L 28 [t0] H = f28.sh C L H.length t0 ⟨H, none⟩ := by kernel_rfl
theorem f29.eq (C : Am.Callee) (L : Loops) (t0 t1 : Value) (H : List Blk) : ebody PP TT C L 29 [t0, t1] H = f29.sh C L H.length t0 t1 ⟨H, none⟩ := by kernel_rfl
theorem f30.eq (C : Am.Callee) (L : Loops) (t0 t1 t2 t3 : Value) (H : List Blk) : ebody PP TT C L 30 [t0, t1, t2, t3] H = f30.sh C L H.length t0 t1 t2 t3 ⟨H, none⟩ := by kernel_rfl
theorem f31.eq (C : Am.Callee) (L : Loops) (t0 t1 : Value) (H : List Blk) : ebody PP TT C L 31 [t0, t1] H = f31.sh C L H.length t0 t1 ⟨H, none⟩ := by kernel_rfl
theorem f32.eq (C : Am.Callee) (L : Loops) (t0 t1 : Value) (H : List Blk) : ebody PP TT C L 32 [t0, t1] H = f32.sh C L H.length t0 t1 ⟨H, none⟩ := by kernel_rfl
theorem f33.eq (C : Am.Callee) (L : Loops) (t0 : Value) (H : List Blk) : ebody PP TT C L 33 [t0] H = f33.sh C L H.length t0 ⟨H, none⟩ := by kernel_rfl
theorem f42.eq (C : Am.Callee) (L : Loops) (t0 t1 t2 t3 : Value) (H : List Blk) : ebody PP TT C L 42 [t0, t1, t2, t3] H = f42.sh C L H.length t0 t1 t2 t3 ⟨H, none⟩ := by kernel_rfl
theorem f43.eq (C : Am.Callee) (L : Loops) (t0 t1 t2 t3 t4 : Value) (H : List Blk) : ebody PP TT C L 43 [t0, t1, t2, t3, t4] H = f43.sh C L H.length t0 t1 t2 t3 t4 ⟨H, none⟩ := by kernel_rfl
theorem f44.eq (C : Am.Callee) (L : Loops) (t0 t1 : Value) (H : List Blk) : ebody PP TT C L 44 [t0, t1] H = f44.sh C L H.length t0 t1 ⟨H, none⟩ := by kernel_rfl
theorem f45.eq (C : Am.Callee) (L : Loops) (t0 t1 t2 : Value) (H : List Blk) : ebody PP TT C L 45 [t0, t1, t2] H = f45.sh C L H.length t0 t1 t2 ⟨H, none⟩ := by kernel_rfl
theorem f46.eq (C : Am.Callee) (L : Loops) (t0 t1 : Value) (H : List Blk) : ebody PP TT C L 46 [t0, t1] H = f46.sh C L H.length t0 t1 ⟨H, none⟩ := by kernel_rfl
theorem f47.eq (C : Am.Callee) (L : Loops) (t0 t1 t2 t3 : Value) (H : List Blk) : ebody PP TT C L 47 [t0, t1, t2, t3] H = f47.sh C L H.length t0 t1 t2 t3 ⟨H, none⟩ := by kernel_rfl
theorem TT_lives : ∀ f, (TT f).lives = true → Lives PP f := by
  intro f h
  unfold TT at h
  by_cases h3 : f = 3
  · subst h3; simp [f3.T] at h
  simp only [h3, if_false] at h
  by_cases h4 : f = 4
  · subst h4; simp [f4.T] at h
  simp only [h4, if_false] at h
  by_cases h9 : f = 9
  · subst h9; exact f9.lives
  simp only [h9, if_false] at h
  by_cases h10 : f = 10
  · subst h10; simp [f10.T] at h
  simp only [h10, if_false] at h
  by_cases h11 : f = 11
  · subst h11; simp [f11.T] at h
  simp only [h11, if_false] at h
  by_cases h12 : f = 12
  · subst h12; simp [f12.T] at h
  simp only [h12, if_false] at h
  by_cases h13 : f = 13
  · subst h13; simp [f13.T] at h
  simp only [h13, if_false] at h
  by_cases h14 : f = 14
  · subst h14; simp [f14.T] at h
  simp only [h14, if_false] at h
  by_cases h28 : f = 28
  · subst h28; simp [f28.T] at h
  simp only [h28, if_false] at h
  by_cases h29 : f = 29
  · subst h29; simp [f29.T] at h
  simp only [h29, if_false] at h
  by_cases h30 : f = 30
  · subst h30; simp [f30.T] at h
  simp only [h30, if_false] at h
  by_cases h31 : f = 31
  · subst h31; simp [f31.T] at h
  simp only [h31, if_false] at h
  by_cases h32 : f = 32
  · subst h32; simp [f32.T] at h
  simp only [h32, if_false] at h
  by_cases h33 : f = 33
  · subst h33; simp [f33.T] at h
  simp only [h33, if_false] at h
  by_cases h42 : f = 42
  · subst h42; simp [f42.T] at h
  simp only [h42, if_false] at h
  by_cases h43 : f = 43
  · subst h43; simp [f43.T] at h
  simp only [h43, if_false] at h
  by_cases h44 : f = 44
  · subst h44; simp [f44.T] at h
  simp only [h44, if_false] at h
  by_cases h45 : f = 45
  · subst h45; simp [f45.T] at h
  simp only [h45, if_false] at h
  by_cases h46 : f = 46
  · subst h46; simp [f46.T] at h
  simp only [h46, if_false] at h
  by_cases h47 : f = 47
  · subst h47; simp [f47.T] at h
  simp only [h47, if_false] at h
  simp at h
end Go.Proofs.Ytkinmkjalipbpaa
