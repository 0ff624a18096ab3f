/- A part of the proof: Cmp1, Cmp2, Cmp3, Cmp4, Cmp5a. Its conditions: none. -/
import Derived.Test.YtadllcgmimbjdaaGreatDk1
import Derived.Test.YtadllcgmimbjdaaGreatDskP
import Derived.Test.YtadllcgmimbjdaaGreatAm32
set_option linter.all false
set_option linter.unusedVariables false
set_option linter.unusedSimpArgs false
set_option linter.unnecessarySimpa false
section
namespace Go.Proofs.YtadllcgmimbjdaaGreat
open Go Go.Am Go.Dsk
set_option linter.unusedVariables false
namespace DK

theorem in_ok (n : Int) (H : List Blk) : acall PP TT n_bits_in [.int .i64 n] H = some (.bool (decide (0 ≤ n ∧ n < 64)), H, none) := by
  rw [acall_eq, bits_in.eq]
  by_cases h0 : 0 ≤ n
  · simp only [bits_in.sh, mach, Nat.reduceAdd, Nat.reduceLeDiff, Int.reduceEq, Int.reduceLT, Int.reduceLE, h0]
    exact fin_lit0 rfl rfl
  · simp only [bits_in.sh, mach, Nat.reduceAdd, Nat.reduceLeDiff, Int.reduceEq, Int.reduceLT, Int.reduceLE, h0, false_and]
    exact fin_lit0 rfl rfl
theorem one_ok (n : Nat) (H : List Blk) : acall PP TT n_bits_One [.int .i64 (n : Int)] H = some (.int .u64 (one n), H, none) := by
  rw [acall_eq, bits_One.eq]
  by_cases h : n < 64
  · have h' : (0 : Int) ≤ n ∧ (n : Int) < 64 := by omega
    simp only [bits_One.sh, mach, Nat.reduceAdd, Nat.reduceLeDiff, Int.reduceEq, Int.reduceLT, Int.reduceLE, in_ok, h', bin_bit h, one, h]
    exact fin_lit0 rfl rfl
  · have h' : ¬ ((0 : Int) ≤ n ∧ (n : Int) < 64) := by omega
    simp only [bits_One.sh, mach, Nat.reduceAdd, Nat.reduceLeDiff, Int.reduceEq, Int.reduceLT, Int.reduceLE, in_ok, h', one, h]
    exact fin_lit0 rfl rfl
theorem with_ok {x : Nat} (hx : x < 2 ^ 64) (n : Nat) (H : List Blk) : acall PP TT n_bits_With [.int .u64 x, .int .i64 (n : Int)] H = some (.int .u64 ((x ||| one n : Nat) : Int), H, none) := by
  rw [acall_eq, bits_With.eq]
  simp only [bits_With.sh, mach, Nat.reduceAdd, Nat.reduceLeDiff, Int.reduceEq, Int.reduceLT, Int.reduceLE, one_ok, bin_or hx (one_lt n)]
  exact fin_lit0 rfl rfl

def stepsV : List Value := crcRow.map fun n : Nat => Value.int .u32 (n : Int)
theorem half_ok (x : Nat) (H : List Blk) : acall PP TT n_crc_half [.int .u8 ((x % 256 : Nat) : Int)] H = some (.int .u32 (crcHalf x), H, none) := by
  rw [acall_eq, crc_half.eq]
  have hm : x % 256 < 2 ^ 8 := Nat.mod_lt _ (by decide)
  have ha : (x % 256) &&& 15 = x % 16 := by
    rw [show (15 : Nat) = 2 ^ 4 - 1 from rfl, Nat.and_two_pow_sub_one_eq_mod]; omega
  have hand : ∀ (ox oy : Operand), aBin PP .and t_uint8 ox oy (.int .u8 ((x % 256 : Nat) : Int)) (.int .u8 15) = some (.int .u8 ((x % 16 : Nat) : Int)) := by
    intro ox oy
    have := bin_and8 (P := PP) (t := t_uint8) (ox := ox) (oy := oy) hm (show 15 < 2 ^ 8 by decide)
    rw [ha] at this
    exact this
  have hlt : x % 16 < 16 := Nat.mod_lt _ (by decide)
  have hb : aBuild PP t_A16_uint32 [(0, .int .u32 0), (1, .int .u32 498536548), (2, .int .u32 997073096), (3, .int .u32 651767980), (4, .int .u32 1994146192), (5, .int .u32 1802195444), (6, .int .u32 1303535960), (7, .int .u32 1342533948), (8, .int .u32 3988292384), (9, .int .u32 4027552580), (10, .int .u32 3604390888), (11, .int .u32 3412177804), (12, .int .u32 2607071920), (13, .int .u32 2262029012), (14, .int .u32 2685067896), (15, .int .u32 3183342108)] = some (.agg stepsV.toArray) := by kernel_rfl
  have hix : aIndexAddr PP t_A16_uint32 (.pointer (some ⟨H.length, 0, none⟩)) (.int .u8 ((x % 16 : Nat) : Int)) = some (.pointer (some ⟨H.length, x % 16, none⟩)) := by
    have := ix_arr (j := .u8) (b := H.length) (o := 0) u_A16_uint32 sz_uint32 hlt
    rwa [Nat.zero_add, Nat.mul_one] at this
  have hc : allCells stepsV = true := by kernel_rfl
  have hl : stepsV.length = 16 := by kernel_rfl
  have hst : storeL ⟨H ++ [.cells z_A16_uint32 t_A16_uint32 true], none⟩ H.length 0 stepsV = some ⟨H ++ [.cells stepsV t_A16_uint32 true], none⟩ := by
    simp only [storeL_app0, storeL, List.getElem?_cons_zero, hl, zl_A16_uint32, hc]
    rw [show lrefs stepsV = [] by kernel_rfl]
    simp [putCells_all (show stepsV.length = z_A16_uint32.length by rw [hl, zl_A16_uint32]), escOf_nil, zl_A16_uint32]
  have hget : stepsV[x % 16]? = some (.int .u32 (crcHalf x)) := by
    have h1 : stepsV[x % 16]? = (crcRow[x % 16]?).map fun n : Nat => Value.int .u32 (n : Int) := by simp [stepsV]
    have h2 : x % 16 < crcRow.length := hlt
    rw [h1, crcHalf, List.getD, List.getElem?_eq_getElem h2]; rfl
  simp only [crc_half.sh, mach, Nat.reduceAdd, Nat.reduceLeDiff, Int.reduceEq, Int.reduceLT, Int.reduceLE, hb, zg_A16_uint32, box_lit, za_A16_uint32, hl, hst, hand, hix, cellAt_app0, cellAt_z, hget]
  exact fin_lit rfl rfl rfl
theorem step_ok {x : Nat} (hx : x < 2 ^ 32) (b : UInt8) (H : List Blk) : acall PP TT n_crc_Step [.int .u32 x, .int .u8 b.toNat] H = some (.int .u32 (crcStep x b.toNat), H, none) := by
  have hb := byte_lt b
  have h0 := Nat.xor_lt_two_pow hx hb
  have hc1 : ∀ st, aConv PP t_uint8 t_uint32 (.int .u8 b.toNat) st = some (.int .u32 (b.toNat : Nat), st) := by
    intro st
    simp only [aConv, u_uint8, u_uint32]
    rw [wrap32_nat hb]
  have hc2 : ∀ (n : Nat) st, aConv PP t_uint32 t_uint8 (.int .u32 (n : Int)) st = some (.int .u8 ((n % 256 : Nat) : Int), st) := by
    intro n st
    simp only [aConv, u_uint8, u_uint32]
    rw [wrap8_nat]
  have hl := loop_upto (n0 := H.length) (step := crc_Step.loop3s (acall PP TT) loopG H.length) (len := 2) (σ := Nat) (fun i y => ([.int .u32 y, .int .i64 i], ⟨H, none⟩)) (fun _ y => crcFour y) (fun _ y => y < 2 ^ 32) (fun y => (.exit 0, [.int .u32 y], ⟨H, none⟩))
    (fun i y hi hy => by
      have h4 := crcFour_lt hy
      have hs : y >>> 4 < 2 ^ 32 := Nat.lt_of_le_of_lt (Nat.shiftRight_le _ _) hy
      have hlt : (i : Int) < 2 := by omega
      have hq : ∀ ox oy, aBin PP .shr t_uint32 ox oy (.int .u32 y) (.int .u64 4) = some (.int .u32 ((y >>> 4 : Nat) : Int)) := fun ox oy => bin_shr32 (i := 4) (by decide) hy
      refine ⟨_, _, ?_, gc_same (by simp), h4⟩
      simp only [crc_Step.loop3s, crc_Step.loop3, mach, Nat.reduceAdd, Nat.reduceLeDiff, Int.reduceEq, Int.reduceLT, Int.reduceLE, hlt, hq, hc2, half_ok, bin_xor32 hs (crcHalf_lt y), wrap_add1 (show i < 4611686018427387904 by omega)]
      rfl)
    (fun y hy => by simp only [crc_Step.loop3s, crc_Step.loop3, mach, Nat.reduceAdd, Nat.reduceLeDiff, Int.reduceEq, Int.reduceLT, Int.reduceLE]; rfl) (x ^^^ b.toNat) [.int .u32 ((x ^^^ b.toNat : Nat) : Int), .int .i64 0] ⟨H, none⟩ h0 (gc_same (by simp))
  rw [acall_eq, crc_Step.eq]
  simp only [crc_Step.sh, mach, Nat.reduceAdd, Nat.reduceLeDiff, Int.reduceEq, Int.reduceLT, Int.reduceLE, hc1, bin_xor32 hx hb, hl, crc_Step.j2]
  exact fin_lit0 rfl rfl

theorem more_ok {x : Nat} (hx : x < 2 ^ 32) {v : Value} {l : List UInt8} {H : List Blk} (hr : Rd H v l.length (bytesV l)) (hv : ∀ r ∈ vrefs v, r < H.length) (hl : l.length < 1000000) : acall PP TT n_crc_More [.int .u32 x, v] H = some (.int .u32 (crcMore x l), H, none) := by
  have h0 : x ^^^ 4294967295 < 2 ^ 32 := Nat.xor_lt_two_pow hx (by decide)
  have hlen := hr.len (P := PP) u_L_uint8 ⟨H, none⟩
  have hfold : upto (fun i y => crcStep y (l.getD i 0).toNat) l.length (x ^^^ 4294967295) = l.foldl (fun x b => crcStep x b.toNat) (x ^^^ 4294967295) := by
    have key : ∀ n, n ≤ l.length → upto (fun i y => crcStep y (l.getD i 0).toNat) n (x ^^^ 4294967295) = (l.take n).foldl (fun x b => crcStep x b.toNat) (x ^^^ 4294967295) := by
      intro n
      induction n with
      | zero => intro _; simp [upto]
      | succ n ih =>
        intro hn
        rw [upto, ih (by omega), List.take_succ, List.getElem?_eq_getElem (by omega), List.foldl_append]
        simp [List.getD, List.getElem?_eq_getElem (show n < l.length by omega)]
    rw [key _ (Nat.le_refl _), List.take_length]
  have hloop := loop_upto (n0 := H.length) (step := crc_More.loop3s (acall PP TT) loopG H.length) (len := l.length) (σ := Nat) (fun i y => ([v, .int .u32 y, .int .i64 l.length, .int .i64 i], ⟨H, none⟩)) (fun i y => crcStep y (l.getD i 0).toNat) (fun _ y => y < 2 ^ 32) (fun y => (.exit 0, [.int .u32 y], ⟨H, none⟩))
    (fun i y hi hy => by
      have hlt : (i : Int) < (l.length : Int) := by omega
      have hg : (bytesV l)[i]? = some (.int .u8 (l.getD i 0).toNat) := by simp [bytesV, List.getD, List.getElem?_eq_getElem hi]
      obtain ⟨p, hp1, hp2⟩ : ∃ p, aIndexAddr PP t_L_uint8 v (.int .i64 (i : Int)) = some p ∧ aLoad false 1 ⟨H, none⟩ p = some (.int .u8 (l.getD i 0).toNat) := by
        refine ⟨rdPtr v i, ?_, hr.load1 (by omega) hg none⟩
        have := hr.index (P := PP) (k := .i64) u_L_uint8 sz_uint8 (i := (i : Int)) (by omega) (by omega)
        simpa using this
      refine ⟨_, _, ?_, gc_same (by simpa using hv), crcStep_lt hy (byte_lt _)⟩
      simp only [crc_More.loop3s, crc_More.loop3, mach, Nat.reduceAdd, Nat.reduceLeDiff, Int.reduceEq, Int.reduceLT, Int.reduceLE, hlt, hp1, hp2, step_ok hy, wrap_add1 (show i < 4611686018427387904 by omega)])
    (fun y hy => by simp only [crc_More.loop3s, crc_More.loop3, mach, Nat.reduceAdd, Nat.reduceLeDiff, Int.reduceEq, Int.reduceLT, Int.reduceLE, Int.lt_irrefl]) (x ^^^ 4294967295) [v, .int .u32 ((x ^^^ 4294967295 : Nat) : Int), .int .i64 l.length, .int .i64 0] ⟨H, none⟩ h0 (gc_same (by simpa using hv))
  have hq : ∀ (y : Nat) ox oy, y < 2 ^ 32 → aBin PP .xor t_uint32 ox oy (.int .u32 y) (.int .u32 4294967295) = some (.int .u32 ((y ^^^ 4294967295 : Nat) : Int)) := fun y ox oy hy => bin_xor32 hy (by decide)
  rw [acall_eq, crc_More.eq]
  rw [hfold] at hloop
  simp only [crc_More.sh, mach, Nat.reduceAdd, Nat.reduceLeDiff, Int.reduceEq, Int.reduceLT, Int.reduceLE, hq x _ _ hx, hlen, hloop, crc_More.j2, hq _ _ _ (fold_lt h0 l)]
  exact fin_lit0 rfl rfl
end DK
end Go.Proofs.YtadllcgmimbjdaaGreat

end
section
namespace Go.Proofs.YtadllcgmimbjdaaGreat
open Go Go.Am Go.Dsk
set_option linter.unusedVariables false
namespace DK
section
variable {H : List Blk} {b kr km : Nat} {d : Dk}

def Dk.secs (d : Dk) : Nat := d.safe.length - 8
theorem sectors_ok (h : At H b kr km d) : acall PP TT n_data_Sectors [ptr b] H = some (.int .i64 (Dk.secs d : Nat), H, none) := by
  have hf := h.ok.few
  have hw : IntKind.i64.wrap ((d.safe.length : Int) - 8) = (d.safe.length : Int) - 8 := wrap_i64 ⟨by omega, by omega⟩
  have hm : (if (0 : Int) > (d.safe.length : Int) - 8 then (0 : Int) else (d.safe.length : Int) - 8) = ((Dk.secs d : Nat) : Int) := by
    unfold Dk.secs; split <;> omega
  rw [acall_eq, data_Sectors.eq]
  simp only [data_Sectors.sh, mach, Nat.reduceAdd, Nat.reduceLeDiff, Int.reduceEq, Int.reduceLT, Int.reduceLE, size_ok h, hw, hm]
  exact fin_lit0 rfl rfl
theorem at_ok (h : At H b kr km d) (s : Nat) (hs : s < 1000000) : acall PP TT n_compare_at [ptr b, .int .i64 (s : Int)] H = some (.agg (d.durable ((8 + s : Nat) : Int)).cells.toArray, H, none) := by
  have hx := h.app [Blk.cells z_api_Sector t_api_Sector true]
  have hw : IntKind.i64.wrap (8 + (s : Int)) = ((8 + s : Nat) : Int) := by rw [wrap_i64 ⟨by omega, by omega⟩]; omega
  rw [acall_eq, compare_at.eq]
  simp only [compare_at.sh, mach, Nat.reduceAdd, Nat.reduceLeDiff, Int.reduceEq, Int.reduceLT, Int.reduceLE, zg_api_Sector, box_lit, za_api_Sector, hw, durable_ok hx, (d.durable ((8 + s : Nat) : Int)).len, box_sec rfl z_api_Sector zl_api_Sector, cellsAt_app0, take_sec]
  exact fin_sec rfl _
theorem whole_ok (e : Nat) (he : e < 64) (H : List Blk) : acall PP TT n_span_Whole [.int .i64 (e : Int)] H = some (.agg [Value.int .i64 ((4 * e : Nat) : Int), .int .i64 4].toArray, H, none) := by
  have h1 : ¬ (e : Int) < 0 := by omega
  have h2 : ¬ (e : Int) ≥ 64 := by omega
  have h2' : ¬ (64 : Int) ≤ (e : Int) := by omega
  have hw : IntKind.i64.wrap ((e : Int) * 4) = ((4 * e : Nat) : Int) := by rw [wrap_i64 ⟨by omega, by omega⟩]; omega
  have hb : ∀ n : Int, aBuild PP t_api_Span [(0, .int .i64 n), (1, .int .i64 4)] = some (.agg [Value.int .i64 n, .int .i64 4].toArray) := fun n => by kernel_rfl
  rw [acall_eq, span_Whole.eq]
  simp only [span_Whole.sh, span_Whole.j0, span_Whole.j1, mach, Nat.reduceAdd, Nat.reduceLeDiff, Int.reduceEq, Int.reduceLT, Int.reduceLE, zg_api_Span, box_lit, za_api_Span, h1, h2, h2', hw, hb, zl_api_Span, z_api_Span]
  exact fin_lit rfl rfl rfl
theorem extents_ok (h : At H b kr km d) : acall PP TT n_compare_extents [ptr b] H = some (.int .i64 (min (Dk.secs d / 4) 64 : Nat), H, none) := by
  have hf := h.ok.few
  have hlt : Dk.secs d ≤ 1024 := by unfold Dk.secs; omega
  have hq : ∀ ox oy, aBin PP .quo t_int ox oy (.int .i64 (Dk.secs d : Nat)) (.int .i64 4) = some (.int .i64 ((Dk.secs d / 4 : Nat) : Int)) := fun ox oy => bin_quo_nat (y := 4) (by decide) (fun n hn => wrap_nat (by omega))
  have hm : (if (64 : Int) < ((Dk.secs d / 4 : Nat) : Int) then (64 : Int) else ((Dk.secs d / 4 : Nat) : Int)) = ((min (Dk.secs d / 4) 64 : Nat) : Int) := by
    split <;> omega
  rw [acall_eq, compare_extents.eq]
  simp only [compare_extents.sh, mach, Nat.reduceAdd, Nat.reduceLeDiff, Int.reduceEq, Int.reduceLT, Int.reduceLE, sectors_ok h, hq, hm]
  exact fin_lit0 rfl rfl

/-- an extent's sum, of its four sectors -/
def sumOf (d : Dk) (e : Nat) : Nat := upto (fun i x => crcMore x (d.durable ((8 + (4 * e + i) : Nat) : Int)).val) 4 (crcMore 0 [])
theorem sumOf_lt (d : Dk) (e : Nat) : sumOf d e < 2 ^ 32 := crcMore_lt (crcMore_lt (crcMore_lt (crcMore_lt (crcMore_lt (by decide) _) _) _) _) _
theorem slice_sec {b : Nat} {st : AS} : aSlice PP t_api_Sector (.pointer (some ⟨b, 0, none⟩)) none none none st = some (.slice (some ⟨b, 0, none⟩) 16 16) := by
  simp [aSlice, u_api_Sector, sz_uint8, aBounds, UNK, Addr.add]
end
end DK
end Go.Proofs.YtadllcgmimbjdaaGreat

end
section
namespace Go.Proofs.YtadllcgmimbjdaaGreat
open Go Go.Am Go.Dsk
set_option linter.unusedVariables false
namespace DK
section
variable {H : List Blk} {b kr km : Nat} {d : Dk}
theorem put_sec (s : Sec) : putCells z_api_Sector 0 s.cells = s.cells := putCells_all (by rw [s.len, zl_api_Sector])
theorem put2 (a b c d : Value) : putCells [a, b] 0 [c, d] = [c, d] := by simp [putCells]
theorem csum_ok (x : Value) (l : List UInt8) {H : List Blk} (hr : Rd H x l.length (bytesV l)) (hv : ∀ r ∈ vrefs x, r < H.length) (hl : l.length < 1000000) : acall PP TT n_crc_Sum [x] H = some (.int .u32 (crcMore 0 l), H, none) := by
  have := more_ok (x := 0) (by decide) hr hv hl
  rw [acall_eq, crc_Sum.eq]
  rw [show ((0 : Nat) : Int) = 0 from rfl] at this
  simp only [crc_Sum.sh, mach, Nat.reduceAdd, Nat.reduceLeDiff, Int.reduceEq, Int.reduceLT, Int.reduceLE, this]
  exact fin_lit0 rfl rfl
abbrev spB (e : Nat) : Blk := .cells [.int .i64 ((4 * e : Nat) : Int), .int .i64 4] t_api_Span true
theorem sum_ok (h : At H b kr km d) (e : Nat) (he : e < 64) : acall PP TT n_compare_sum [ptr b, .int .i64 (e : Int)] H = some (.int .u32 (sumOf d e), H, none) := by
  have hx := h.app [spB e]
  have hb := blk_lt h.hb
  have hsec : ∀ i : Nat, Rd (H ++ [spB e, Blk.cells (d.durable ((8 + (4 * e + i) : Nat) : Int)).cells t_api_Sector true]) (.slice (some ⟨H.length + 1, 0, none⟩) 16 16) (d.durable ((8 + (4 * e + i) : Nat) : Int)).val.length (bytesV (d.durable ((8 + (4 * e + i) : Nat) : Int)).val) := by
    intro i
    rw [(d.durable ((8 + (4 * e + i) : Nat) : Int)).2]
    exact .own (bs := (d.durable ((8 + (4 * e + i) : Nat) : Int)).cells) (t := t_api_Sector) (own := true) (by simp) (by simp) (by rw [List.drop_zero]; exact List.take_length)
  have hloop := loop_upto (n0 := H.length) (step := compare_sum.loop4s (acall PP TT) loopG H.length) (len := 4) (σ := Nat) (fun i y => ([ptr b, ptr H.length, .int .u32 y, .int .i64 4, .int .i64 i], ⟨H ++ [spB e], none⟩)) (fun i x => crcMore x (d.durable ((8 + (4 * e + i) : Nat) : Int)).val) (fun _ y => y < 2 ^ 32) (fun y => (.exit 0, [.int .u32 y], ⟨H ++ [spB e], none⟩))
    (fun i y hi hy => by
      have hlt : (i : Int) < 4 := by omega
      have hw : IntKind.i64.wrap (((4 * e : Nat) : Int) + (i : Int)) = ((4 * e + i : Nat) : Int) := by rw [wrap_i64 ⟨by omega, by omega⟩]; omega
      have hm := more_ok hy (hsec i) (by simp) (by rw [(d.durable ((8 + (4 * e + i) : Nat) : Int)).2]; decide)
      refine ⟨_, _, ?_, gc_one (vs := [ptr b, ptr H.length, .int .u32 ((crcMore y (d.durable ((8 + (4 * e + i) : Nat) : Int)).val : Nat) : Int), .int .i64 4, .int .i64 ((i + 1 : Nat) : Int)]) (G := [Blk.cells (d.durable ((8 + (4 * e + i) : Nat) : Int)).cells t_api_Sector true]) (by simp; omega) (by simp) (by simp) (by simp), crcMore_lt hy _⟩
      simp only [compare_sum.loop4s, compare_sum.loop4, mach, Nat.reduceAdd, Nat.reduceLeDiff, Int.reduceEq, Int.reduceLT, Int.reduceLE, hlt, fa_api_Span_0, hw, at_ok hx (4 * e + i) (by omega), zg_api_Sector, box_lit, za_api_Sector, (d.durable ((8 + (4 * e + i) : Nat) : Int)).len]
      simp only [zl_api_Sector, sec_all, sec_refs, put_sec, mach, Nat.reduceAdd, Nat.reduceLeDiff, Int.reduceEq, Int.reduceLT, Int.reduceLE, slice_sec, hm, wrap_add1 (show i < 4611686018427387904 by omega)])
    (fun y hy => by simp only [compare_sum.loop4s, compare_sum.loop4, mach, Nat.reduceAdd, Nat.reduceLeDiff, Int.reduceEq, Int.reduceLT, Int.reduceLE, Int.lt_irrefl]; rfl) (crcMore 0 []) [ptr b, ptr H.length, .int .u32 ((crcMore 0 [] : Nat) : Int), .int .i64 4, .int .i64 0] ⟨H ++ [spB e], none⟩ (crcMore_lt (by decide) _) (gc_one (G := []) (by simp; omega) (by simp) (by simp) (by simp))
  have h0 := csum_ok (.slice none 0 0) [] (H := H ++ [spB e]) .nil (by simp) (by decide)
  rw [acall_eq, compare_sum.eq]
  simp only [compare_sum.sh, mach, Nat.reduceAdd, Nat.reduceLeDiff, Int.reduceEq, Int.reduceLT, Int.reduceLE, whole_ok e he, zg_api_Span, box_lit, za_api_Span, zl_api_Span, z_api_Span, put2, h0, fa_api_Span_1, hloop, compare_sum.j2]
  exact fin_lit rfl rfl rfl

/-- the sums, as a row -/
def u32s (l : List Nat) : List (List Value) := l.map fun n : Nat => [Value.int .u32 (n : Int)]
def u32V (l : List Nat) : List Value := l.map fun n : Nat => Value.int .u32 (n : Int)
theorem u32s_rows (l : List Nat) : RowsOf 1 (u32s l) := by
  refine ⟨fun r hr => ?_, fun r hr => ?_, fun r hr => ?_, fun r hr => ?_⟩ <;> (obtain ⟨s, _, rfl⟩ := List.mem_map.1 hr) <;> rfl
theorem u32s_flat (l : List Nat) : (u32s l).flatten = u32V l := by
  induction l with
  | nil => rfl
  | cons x xs ih => simp only [u32s, List.map_cons, List.flatten_cons, u32V] at *; rw [ih]; rfl
theorem u32V_refs (l : List Nat) : lrefs (u32V l) = [] := by rw [← u32s_flat]; exact (u32s_rows l).frefs
theorem u32V_len (l : List Nat) : (u32V l).length = l.length := by simp [u32V]
theorem u32V_noSl (l : List Nat) : (u32V l).all noSl = true := by rw [← u32s_flat]; exact (u32s_rows l).fflat

def sums (d : Dk) : List Nat := (List.range (min (Dk.secs d / 4) 64)).map (sumOf d)
/-- a row of words that grows: nil, or a block of its own -/
def rowU (n0 : Nat) (l : List Nat) : Value := if l = [] then .slice none 0 0 else .slice (some ⟨n0, 0, none⟩) l.length UNK
def blkU (l : List Nat) : List Blk := if l = [] then [] else [.cells (u32V l) t_uint32 true]
theorem bsl_u32 (n : Nat) (st : AS) : bsl PP t_L_uint32 1 [0] [.int .u32 (n : Int)] st = some (.slice (some ⟨st.H.length, 0, none⟩) 1 1, ⟨st.H ++ [.cells [.int .u32 (n : Int)] t_uint32 true], st.esc⟩) := by
  kernel_rfl
theorem sums_ok (h : At H b kr km d) : acall PP TT n_compare_Sums [ptr b] H = some (tSl (sums d).length (u32V (sums d)), H, none) := by
  have hb := blk_lt h.hb
  have hlen : (sums d).length = min (Dk.secs d / 4) 64 := by simp [sums]
  have hle : min (Dk.secs d / 4) 64 ≤ 64 := Nat.min_le_right _ _
  have hloop := loop_upto (n0 := H.length) (step := compare_Sums.loop3s (acall PP TT) loopG H.length) (len := min (Dk.secs d / 4) 64) (σ := List Nat) (fun i l => ([ptr b, rowU H.length l, .int .i64 (min (Dk.secs d / 4) 64 : Nat), .int .i64 i], ⟨H ++ blkU l, none⟩)) (fun i l => l ++ [sumOf d i]) (fun i l => l.length = i) (fun l => (.exit 0, [rowU H.length l], ⟨H ++ blkU l, none⟩))
    (fun i l hi hl => by
      have hlt : (i : Int) < ((min (Dk.secs d / 4) 64 : Nat) : Int) := by omega
      have hs := sum_ok (h.app (blkU l)) i (by omega)
      subst hl
      have hadd : IntKind.i64.wrap ((l.length : Int) + 1) = ((l.length + 1 : Nat) : Int) := wrap_add1 (by omega)
      by_cases he : l = []
      · subst he
        have hp := fun F => push_nil (P := PP) (R := (List Value × AS) ⊕ (AEx × List Value × AS)) (H0 := H) (l := []) (e := none) (r := [.int .u32 (sumOf d 0 : Nat)]) (v := .int .u32 (sumOf d 0 : Nat)) (F := F) el_L_uint32 rfl (fun H' e' => bsl_u32 _ ⟨H', e'⟩)
        simp only [blkU, if_true, List.append_nil, List.length_nil] at hs hp hlt hadd
        refine ⟨_, _, ?_, (gc_rowk (vs := [ptr b, .slice (some ⟨H.length + 1, 0, none⟩) 1 UNK, .int .i64 (min (Dk.secs d / 4) 64 : Nat), .int .i64 ((0 + 1 : Nat) : Int)]) (k := 1) (l := [.cells [.int .u32 (sumOf d 0 : Nat)] t_uint32 true, .cells [.int .u32 (sumOf d 0 : Nat)] t_uint32 true]) (cs := [.int .u32 (sumOf d 0 : Nat)]) (t := t_uint32) (o := true) (e := none) rfl (by simp [hb]) (by simp) (by simp) (by simp) rfl).trans ?_, by simp⟩
        · simp only [compare_Sums.loop3s, compare_Sums.loop3, mach, Nat.reduceAdd, Nat.reduceLeDiff, Int.reduceEq, Int.reduceLT, Int.reduceLE, rowU, blkU, List.append_nil, hlt, hs, hp, hadd]
        · simp [lren, vren, mv_eq, mv_lt (show b < H.length + 1 by omega), rowU, blkU, u32V]
      · have hp := fun F => push_more0 (P := PP) (R := (List Value × AS) ⊕ (AEx × List Value × AS)) (H0 := H) (l := [.cells (u32V l) t_uint32 true]) (e := none) (m := l.length) (r := [.int .u32 (sumOf d l.length : Nat)]) (v := .int .u32 (sumOf d l.length : Nat)) (F := F) el_L_uint32 rfl (fun H' e' => bsl_u32 _ ⟨H', e'⟩) rfl (by rw [u32V_len, Nat.mul_one]) (by omega)
        have hu : u32V l ++ [.int .u32 (sumOf d l.length : Nat)] = u32V (l ++ [sumOf d l.length]) := by simp [u32V]
        simp only [blkU, he, if_false] at hs
        simp only [hu] at hp
        refine ⟨_, _, ?_, (gc_rowk (vs := [ptr b, .slice (some ⟨H.length + 2, 0, none⟩) (l.length + 1) UNK, .int .i64 (min (Dk.secs d / 4) 64 : Nat), .int .i64 ((l.length + 1 : Nat) : Int)]) (k := 2) (l := [.dead, .cells [.int .u32 (sumOf d l.length : Nat)] t_uint32 true, .cells (u32V (l ++ [sumOf d l.length])) t_uint32 true]) (cs := u32V (l ++ [sumOf d l.length])) (t := t_uint32) (o := true) (e := none) rfl (by simp [hb]) (by simp) (u32V_refs _) (by simp) rfl).trans ?_, by simp⟩
        · simp only [compare_Sums.loop3s, compare_Sums.loop3, mach, Nat.reduceAdd, Nat.reduceLeDiff, Int.reduceEq, Int.reduceLT, Int.reduceLE, rowU, blkU, he, hlt, hs, hp, hadd]
          rfl
        · simp [lren, vren, mv_eq, mv_lt (show b < H.length + 2 by omega), rowU, blkU])
    (fun l hl => by simp only [compare_Sums.loop3s, compare_Sums.loop3, mach, Nat.reduceAdd, Nat.reduceLeDiff, Int.reduceEq, Int.reduceLT, Int.reduceLE, Int.lt_irrefl]) [] [ptr b, .slice none 0 0, .int .i64 (min (Dk.secs d / 4) 64 : Nat), .int .i64 0] ⟨H, none⟩ rfl (by simp [rowU, blkU]; exact gc_same (by simp [hb]))
  have hup : ∀ n, upto (fun i l => l ++ [sumOf d i]) n [] = (List.range n).map (sumOf d) := by
    intro n
    induction n with
    | zero => rfl
    | succ n ih => rw [upto, ih, List.range_succ, List.map_append]; rfl
  rw [hup] at hloop
  rw [acall_eq, compare_Sums.eq]
  simp only [compare_Sums.sh, mach, Nat.reduceAdd, Nat.reduceLeDiff, Int.reduceEq, Int.reduceLT, Int.reduceLE, extents_ok h, hloop, compare_Sums.j2]
  change fin PP false H.length [rowU H.length (sums d)] ⟨H ++ blkU (sums d), none⟩ = _
  by_cases he : sums d = []
  · rw [he]
    simp only [rowU, blkU, if_true, List.append_nil]
    exact fin_nil0
  · simp only [rowU, blkU, he, if_false]
    exact fin_row0 (l := [.cells (u32V (sums d)) t_uint32 true]) rfl sz_uint32 (by rw [u32V_len, Nat.mul_one]) (u32V_noSl _) (u32V_refs _) rfl

/-! ### Suspect -/
theorem u32_ix {l : List Nat} {k : Nat} (hk : k < l.length) : aIndexAddr PP t_L_uint32 (tSl l.length (u32V l)) (.int .i64 (k : Int)) = some (tPtr k (u32V l).toArray) := by
  have := tsl_index (n := l.length) (row := u32V l) (j := .i64) u_L_uint32 sz_uint32 hk
  rw [Nat.mul_one] at this
  exact this
theorem u32_ld {l : List Nat} {k x : Nat} (hk : l[k]? = some x) (st : AS) : aLoad false 1 st (tPtr k (u32V l).toArray) = some (.int .u32 (x : Int)) := by
  have := tptr_get (n := 1) (st := st) (off := 0) (v := .int .u32 (x : Int)) (u32s_rows l) (r := [.int .u32 (x : Int)]) (k := k) (by simp [u32s, hk]) rfl
  rw [u32s_flat, Nat.mul_one] at this
  exact this
def suspect (p q : List Nat) : Nat := upto (fun i x => if p.getD i 0 = q.getD i 0 then x else x ||| one i) (min (min p.length q.length) 64) 0
theorem suspect_ok (p q : List Nat) (hp : p.length < 1000000) (hq : q.length < 1000000) (H : List Blk) : acall PP TT n_compare_Suspect [tSl p.length (u32V p), tSl q.length (u32V q)] H = some (.int .u64 (suspect p q), H, none) := by
  have hloop := loop_upto (n0 := H.length) (step := compare_Suspect.loop3s (acall PP TT) loopG H.length) (len := min (min p.length q.length) 64) (σ := Nat) (fun i x => ([tSl p.length (u32V p), tSl q.length (u32V q), .int .u64 x, .int .i64 (min (min p.length q.length) 64 : Nat), .int .i64 i], ⟨H, none⟩)) (fun i x => if p.getD i 0 = q.getD i 0 then x else x ||| one i) (fun i x => x < 2 ^ 64) (fun x => (.exit 0, [.int .u64 x], ⟨H, none⟩))
    (fun i x hi hx => by
      have hlt : (i : Int) < ((min (min p.length q.length) 64 : Nat) : Int) := by omega
      have hip : i < p.length := by omega
      have hiq : i < q.length := by omega
      have gp : p[i]? = some (p.getD i 0) := by simp [List.getD, hip]
      have gq : q[i]? = some (q.getD i 0) := by simp [List.getD, hiq]
      have hadd : IntKind.i64.wrap ((i : Int) + 1) = ((i + 1 : Nat) : Int) := wrap_add1 (by omega)
      have hgc : ∀ y : Nat, gc H.length [tSl p.length (u32V p), tSl q.length (u32V q), .int .u64 (y : Int), .int .i64 (min (min p.length q.length) 64 : Nat), .int .i64 ((i + 1 : Nat) : Int)] ⟨H, none⟩ = ([tSl p.length (u32V p), tSl q.length (u32V q), .int .u64 (y : Int), .int .i64 (min (min p.length q.length) 64 : Nat), .int .i64 ((i + 1 : Nat) : Int)], ⟨H, none⟩) := fun y => gc_same (by simp [u32V_refs])
      by_cases hpq : p.getD i 0 = q.getD i 0
      · refine ⟨_, _, ?_, (hgc x).trans (by simp only [hpq, if_true]), by simpa only [hpq, if_true] using hx⟩
        simp only [compare_Suspect.loop3s, compare_Suspect.loop3, compare_Suspect.j1, mach, Nat.reduceAdd, Nat.reduceLeDiff, Int.reduceEq, Int.reduceLT, Int.reduceLE, hlt, u32_ix hip, u32_ix hiq, u32_ld gp, u32_ld gq, hpq, hadd]
      · refine ⟨_, _, ?_, (hgc (x ||| one i)).trans (by simp only [hpq, if_false]), by simpa only [hpq, if_false] using Nat.or_lt_two_pow hx (one_lt i)⟩
        have hne : ¬ (((p.getD i 0 : Nat) : Int) = ((q.getD i 0 : Nat) : Int)) := by omega
        simp only [compare_Suspect.loop3s, compare_Suspect.loop3, compare_Suspect.j1, mach, Nat.reduceAdd, Nat.reduceLeDiff, Int.reduceEq, Int.reduceLT, Int.reduceLE, hlt, u32_ix hip, u32_ix hiq, u32_ld gp, u32_ld gq, hne, with_ok hx, hadd])
    (fun x hx => by simp only [compare_Suspect.loop3s, compare_Suspect.loop3, mach, Nat.reduceAdd, Nat.reduceLeDiff, Int.reduceEq, Int.reduceLT, Int.reduceLE, Int.lt_irrefl]) 0 [tSl p.length (u32V p), tSl q.length (u32V q), .int .u64 0, .int .i64 (min (min p.length q.length) 64 : Nat), .int .i64 0] ⟨H, none⟩ (by decide) (gc_same (by simp [u32V_refs]))
  have hmin : ∀ (k : Value → AS → Option (AEx × List Value × AS)) st, eBuiltin PP .min #[t_int, t_int, t_int] [.int .i64 p.length, .int .i64 q.length, .int .i64 64] st k = k (.int .i64 (min (min p.length q.length) 64 : Nat)) st := by
    intro k st
    have hm : (if (64 : Int) < (if (q.length : Int) < (p.length : Int) then (q.length : Int) else (p.length : Int)) then (64 : Int) else (if (q.length : Int) < (p.length : Int) then (q.length : Int) else (p.length : Int))) = ((min (min p.length q.length) 64 : Nat) : Int) := by
      split <;> split <;> omega
    have hr : aMinMax false [.int .i64 p.length, .int .i64 q.length, .int .i64 64] = some (.int .i64 (if (64 : Int) < (if (q.length : Int) < (p.length : Int) then (q.length : Int) else (p.length : Int)) then (64 : Int) else (if (q.length : Int) < (p.length : Int) then (q.length : Int) else (p.length : Int)))) := by
      simp [aMinMax, List.foldlM_cons, List.foldlM_nil]
    simp only [eBuiltin, hr, hm, Option.bind_some]
  rw [acall_eq, compare_Suspect.eq]
  simp only [compare_Suspect.sh, mach, Nat.reduceAdd, Nat.reduceLeDiff, Int.reduceEq, Int.reduceLT, Int.reduceLE, tsl_len u_L_uint32, hmin, hloop, compare_Suspect.j3]
  exact fin_lit0 rfl rfl

/-! ### Unlike -/
def dur (d : Dk) (s : Nat) : Sec := d.durable ((8 + s : Nat) : Int)
def unlike (a b : Dk) : Nat := upto (fun s x => if dur a s = dur b s then x else x ||| one (s / 4)) (min (Dk.secs a) (Dk.secs b)) 0
theorem fa_sec : FlatAgg PP t_api_Sector := ⟨by kernel_rfl, by kernel_rfl, by kernel_rfl⟩
theorem bytes_flat (l : List UInt8) : (l.map fun b => [Value.int .u8 b.toNat]).flatten = bytesV l := by
  induction l with
  | nil => rfl
  | cons x xs ih => simp only [List.map_cons, List.flatten_cons, ih]; rfl
theorem tok_byte (b : UInt8) : TOk PP t_uint8 [.int .u8 b.toNat] := by
  have h1 : IntKind.u8.min = 0 := by kernel_rfl
  have h2 : IntKind.u8.max = 255 := by kernel_rfl
  have := b.toNat_lt
  exact .int _ u_uint8 ⟨by rw [h1]; omega, by rw [h2]; omega⟩
theorem tok_sec (s : Sec) : TOk PP t_api_Sector s.cells := by
  have := TOk.array (P := PP) (s.val.map fun b => [Value.int .u8 b.toNat]) u_api_Sector (by simp [s.2]) (fun p hp => by
    obtain ⟨b, _, rfl⟩ := List.mem_map.1 hp
    exact tok_byte b)
  rw [bytes_flat] at this
  exact this
theorem neq_sec (s s' : Sec) (ox oy : Operand) : aBin PP .neq t_api_Sector ox oy (.agg s.cells.toArray) (.agg s'.cells.toArray) = some (.bool (!decide (s = s'))) := by
  have := bin_neq_flat (ox := ox) (oy := oy) fa_sec (tok_sec s) (tok_sec s')
  rw [this]
  simp [Sec.inj]
theorem unlike_ok {a ka ma : Nat} {da : Dk} (ha : At H a ka ma da) (h : At H b kr km d) : acall PP TT n_compare_Unlike [ptr a, ptr b] H = some (.int .u64 (unlike da d), H, none) := by
  have hla := blk_lt ha.hb
  have hlb := blk_lt h.hb
  have hsm : min (Dk.secs da) (Dk.secs d) ≤ 1024 := by have := h.ok.few; unfold Dk.secs; omega
  have hloop := loop_upto (n0 := H.length) (step := compare_Unlike.loop3s (acall PP TT) loopG H.length) (len := min (Dk.secs da) (Dk.secs d)) (σ := Nat) (fun i x => ([ptr a, ptr b, .int .u64 x, .int .i64 (min (Dk.secs da) (Dk.secs d) : Nat), .int .i64 i], ⟨H, none⟩)) (fun s x => if dur da s = dur d s then x else x ||| one (s / 4)) (fun i x => x < 2 ^ 64) (fun x => (.exit 0, [.int .u64 x], ⟨H, none⟩))
    (fun i x hi hx => by
      have hlt : (i : Int) < ((min (Dk.secs da) (Dk.secs d) : Nat) : Int) := by omega
      have hadd : IntKind.i64.wrap ((i : Int) + 1) = ((i + 1 : Nat) : Int) := wrap_add1 (by omega)
      have hq : ∀ ox oy, aBin PP .quo t_int ox oy (.int .i64 (i : Int)) (.int .i64 4) = some (.int .i64 ((i / 4 : Nat) : Int)) := fun ox oy => bin_quo_nat (y := 4) (by decide) (fun n hn => wrap_nat (by omega))
      have hgc : ∀ y : Nat, gc H.length [ptr a, ptr b, .int .u64 (y : Int), .int .i64 (min (Dk.secs da) (Dk.secs d) : Nat), .int .i64 ((i + 1 : Nat) : Int)] ⟨H, none⟩ = ([ptr a, ptr b, .int .u64 (y : Int), .int .i64 (min (Dk.secs da) (Dk.secs d) : Nat), .int .i64 ((i + 1 : Nat) : Int)], ⟨H, none⟩) := fun y => gc_same (by simp [hla, hlb])
      have h1 := at_ok ha i (by omega)
      have h2 := at_ok h i (by omega)
      by_cases he : dur da i = dur d i
      · refine ⟨_, _, ?_, (hgc x).trans (by simp only [he, if_true]), by simpa only [he, if_true] using hx⟩
        have he' : da.durable ((8 + i : Nat) : Int) = d.durable ((8 + i : Nat) : Int) := he
        simp only [compare_Unlike.loop3s, compare_Unlike.loop3, compare_Unlike.j1, mach, Nat.reduceAdd, Nat.reduceLeDiff, Int.reduceEq, Int.reduceLT, Int.reduceLE, hlt, h1, h2, neq_sec, he', hadd]
      · refine ⟨_, _, ?_, (hgc (x ||| one (i / 4))).trans (by simp only [he, if_false]), by simpa only [he, if_false] using Nat.or_lt_two_pow hx (one_lt _)⟩
        have he' : ¬ da.durable ((8 + i : Nat) : Int) = d.durable ((8 + i : Nat) : Int) := he
        simp only [compare_Unlike.loop3s, compare_Unlike.loop3, compare_Unlike.j1, mach, Nat.reduceAdd, Nat.reduceLeDiff, Int.reduceEq, Int.reduceLT, Int.reduceLE, hlt, h1, h2, neq_sec, he', hq, with_ok hx, hadd])
    (fun x hx => by simp only [compare_Unlike.loop3s, compare_Unlike.loop3, mach, Nat.reduceAdd, Nat.reduceLeDiff, Int.reduceEq, Int.reduceLT, Int.reduceLE, Int.lt_irrefl]) 0 [ptr a, ptr b, .int .u64 0, .int .i64 (min (Dk.secs da) (Dk.secs d) : Nat), .int .i64 0] ⟨H, none⟩ (by decide) (gc_same (by simp [hla, hlb]))
  have hm : (if ((Dk.secs d : Nat) : Int) < ((Dk.secs da : Nat) : Int) then ((Dk.secs d : Nat) : Int) else ((Dk.secs da : Nat) : Int)) = ((min (Dk.secs da) (Dk.secs d) : Nat) : Int) := by
    split <;> omega
  rw [acall_eq, compare_Unlike.eq]
  simp only [compare_Unlike.sh, mach, Nat.reduceAdd, Nat.reduceLeDiff, Int.reduceEq, Int.reduceLT, Int.reduceLE, sectors_ok ha, sectors_ok h, hm, hloop, compare_Unlike.j3]
  exact fin_lit0 rfl rfl
end
end DK
end Go.Proofs.YtadllcgmimbjdaaGreat

end
section
namespace Go.Proofs.YtadllcgmimbjdaaGreat
open Go Go.Am Go.Dsk
set_option linter.unusedVariables false
namespace DK

/-! ### The plain law -/
theorem upto_le {σ : Type} {f : Nat → σ → σ} {R : σ → σ → Prop} (h0 : ∀ s, R s s) (ht : ∀ a b c, R a b → R b c → R a c) (hf : ∀ i s, R s (f i s)) : ∀ n m s, n ≤ m → R (upto f n s) (upto f m s)
  | n, 0, s, h => by have : n = 0 := by omega
                     subst this; exact h0 _
  | n, m + 1, s, h => by
    by_cases hn : n = m + 1
    · subst hn; exact h0 _
    · exact ht _ _ _ (upto_le h0 ht hf n m s (by omega)) (hf m _)
theorem or_bit {P : Nat → Prop} [DecidablePred P] {g : Nat → Nat} : ∀ (n : Nat) (k : Nat), (upto (fun i x => if P i then x else x ||| one (g i)) n 0).testBit k = true ↔ ∃ i, i < n ∧ ¬ P i ∧ (one (g i)).testBit k = true
  | 0, k => by simp [upto]
  | n + 1, k => by
    have ih := or_bit (P := P) (g := g) n k
    simp only [upto]
    by_cases h : P n
    · rw [if_pos h, ih]
      constructor
      · rintro ⟨i, h1, h2, h3⟩; exact ⟨i, by omega, h2, h3⟩
      · rintro ⟨i, h1, h2, h3⟩
        refine ⟨i, ?_, h2, h3⟩
        have : i ≠ n := fun e => h2 (e ▸ h)
        omega
    · rw [if_neg h, Nat.testBit_or, Bool.or_eq_true, ih]
      constructor
      · rintro (⟨i, h1, h2, h3⟩ | h3)
        · exact ⟨i, by omega, h2, h3⟩
        · exact ⟨n, by omega, h, h3⟩
      · rintro ⟨i, h1, h2, h3⟩
        by_cases hi : i = n
        · subst hi; exact .inr h3
        · exact .inl ⟨i, by omega, h2, h3⟩
theorem one_bit (n k : Nat) : (one n).testBit k = true ↔ n < 64 ∧ n = k := by
  unfold one
  split
  · rw [Nat.testBit_two_pow]; simp; omega
  · simp; omega
theorem or_lt {P : Nat → Prop} [DecidablePred P] {g : Nat → Nat} : ∀ n, upto (fun i x => if P i then x else x ||| one (g i)) n 0 < 2 ^ 64
  | 0 => by simp [upto]
  | n + 1 => by
    have ih := or_lt (P := P) (g := g) n
    simp only [upto]
    split
    · exact ih
    · exact Nat.or_lt_two_pow ih (one_lt _)
theorem unlike_lt (a d : Dk) : unlike a d < 2 ^ 64 := or_lt _
theorem suspect_lt (p q : List Nat) : suspect p q < 2 ^ 64 := or_lt _
theorem unlike_bit (a d : Dk) (k : Nat) : (unlike a d).testBit k = true ↔ k < 64 ∧ ∃ s, s < min (Dk.secs a) (Dk.secs d) ∧ dur a s ≠ dur d s ∧ s / 4 = k := by
  unfold unlike
  rw [or_bit]
  constructor
  · rintro ⟨i, h1, h2, h3⟩
    obtain ⟨h4, h5⟩ := (one_bit _ _).1 h3
    exact ⟨by omega, i, h1, h2, h5⟩
  · rintro ⟨h0, i, h1, h2, h3⟩
    exact ⟨i, h1, h2, (one_bit _ _).2 ⟨by omega, h3⟩⟩
theorem unlike_symm (a d : Dk) : unlike d a = unlike a d := by
  apply Nat.eq_of_testBit_eq
  intro k
  rw [Bool.eq_iff_iff, unlike_bit, unlike_bit, Nat.min_comm]
  constructor
  · rintro ⟨h0, s, h1, h2, h3⟩; exact ⟨h0, s, h1, Ne.symm h2, h3⟩
  · rintro ⟨h0, s, h1, h2, h3⟩; exact ⟨h0, s, h1, Ne.symm h2, h3⟩
theorem unlike_self (a : Dk) : unlike a a = 0 := by
  apply Nat.eq_of_testBit_eq
  intro k
  rw [Nat.zero_testBit]
  cases h : (unlike a a).testBit k with
  | false => rfl
  | true =>
    obtain ⟨_, s, _, h2, _⟩ := (unlike_bit a a k).1 h
    exact absurd rfl h2
theorem sum_same {a d : Dk} {e : Nat} (h : ∀ i, i < 4 → dur a (4 * e + i) = dur d (4 * e + i)) : sumOf a e = sumOf d e := by
  have h0 := h 0 (by decide); have h1 := h 1 (by decide); have h2 := h 2 (by decide); have h3 := h 3 (by decide)
  unfold dur at h0 h1 h2 h3
  unfold sumOf
  simp only [upto, h0, h1, h2, h3]
theorem sums_less (a d : Dk) : lessBits (suspect (sums a) (sums d)) (unlike a d) = 0 := by
  rw [lessBits_zero (suspect_lt _ _) (unlike_lt _ _)]
  intro k hk
  unfold suspect at hk
  rw [or_bit] at hk
  obtain ⟨e, h1, h2, h3⟩ := hk
  obtain ⟨h4, rfl⟩ := (one_bit _ _).1 h3
  have l1 : (sums a).length = min (Dk.secs a / 4) 64 := by simp [sums]
  have l2 : (sums d).length = min (Dk.secs d / 4) 64 := by simp [sums]
  have g1 : (sums a).getD e 0 = sumOf a e := by simp [sums, List.getD, show e < min (Dk.secs a / 4) 64 by omega]
  have g2 : (sums d).getD e 0 = sumOf d e := by simp [sums, List.getD, show e < min (Dk.secs d / 4) 64 by omega]
  rw [g1, g2] at h2
  rw [unlike_bit]
  refine ⟨h4, ?_⟩
  by_cases hn : ∃ i, i < 4 ∧ dur a (4 * e + i) ≠ dur d (4 * e + i)
  · obtain ⟨i, hi, hne⟩ := hn
    exact ⟨4 * e + i, by omega, hne, by omega⟩
  · exact absurd (sum_same fun i hi => by
      by_cases he : dur a (4 * e + i) = dur d (4 * e + i)
      · exact he
      · exact absurd ⟨i, hi, he⟩ hn) h2
end DK
end Go.Proofs.YtadllcgmimbjdaaGreat

end
section
namespace Go.Proofs.YtadllcgmimbjdaaGreat
open Go Go.Am Go.Dsk
set_option linter.unusedVariables false
namespace DK

/-! ### Sectors, and what is filled, as arguments -/
theorem ints_of : ∀ (ps : List (List Value)), (∀ p ∈ ps, TOk PP t_uint8 p) → ∃ l : List UInt8, l.length = ps.length ∧ ps.flatten = bytesV l
  | [], _ => ⟨[], rfl, rfl⟩
  | p :: ps, h => by
    obtain ⟨l, h1, h2⟩ := ints_of ps (fun q hq => h q (by simp [hq]))
    obtain ⟨n, rfl, hn⟩ := (h p (by simp)).int_inv u_uint8
    have e1 : IntKind.u8.min = 0 := by kernel_rfl
    have e2 : IntKind.u8.max = 255 := by kernel_rfl
    rw [e1, e2] at hn
    refine ⟨UInt8.ofNat n.toNat :: l, by simp [h1], ?_⟩
    rw [List.flatten_cons, h2]
    have : ((UInt8.ofNat n.toNat).toNat : Int) = n := by
      rw [UInt8.toNat_ofNat']
      omega
    simp only [bytesV, List.map_cons, this]
    rfl
theorem sec_of {r : List Value} (h : TOk PP t_api_Sector r) : ∃ s : Sec, r = s.cells := by
  obtain ⟨ps, rfl, hl, hp⟩ := h.array_inv u_api_Sector
  obtain ⟨l, h1, h2⟩ := ints_of ps hp
  exact ⟨⟨l, by rw [h1, hl]⟩, h2⟩
theorem int_of {r : List Value} (h : TOk PP t_int r) : ∃ n, r = [.int .i64 n] ∧ -9223372036854775808 ≤ n ∧ n ≤ 9223372036854775807 := by
  obtain ⟨n, rfl, hn⟩ := h.int_inv u_int
  have e1 : IntKind.i64.min = -9223372036854775808 := by decide
  have e2 : IntKind.i64.max = 9223372036854775807 := by decide
  rw [e1, e2] at hn
  exact ⟨n, rfl, hn⟩

structure Fl where
  b : Bool
  at_ : Int
  s : Sec
def Fl.cells (f : Fl) : List Value := .bool f.b :: .int .i64 f.at_ :: f.s.cells
def flRow (l : List Fl) : List Value := (l.map Fl.cells).flatten
theorem fl_of {r : List Value} (h : TOk PP t_twainlaw46_Fill r) : ∃ f : Fl, r = f.cells := by
  obtain ⟨ps, rfl, hp⟩ := h.struct_inv us_twainlaw46_Fill
  rw [ty_twainlaw46_Fill] at hp
  match ps, hp with
  | [a, b, c], ⟨ha, hb, hc, _⟩ =>
    obtain ⟨d, rfl⟩ := ha.bool_inv u_bool
    obtain ⟨o, rfl, _⟩ := int_of hb
    obtain ⟨s, rfl⟩ := sec_of hc
    exact ⟨⟨d, o, s⟩, by simp [Fl.cells]⟩
theorem fls_of : ∀ (rows : List (List Value)), (∀ r ∈ rows, TOk PP t_twainlaw46_Fill r) → ∃ l : List Fl, rows = l.map Fl.cells
  | [], _ => ⟨[], rfl⟩
  | r :: rs, h => by
    obtain ⟨l, h2⟩ := fls_of rs (fun x hx => h x (by simp [hx]))
    obtain ⟨a, rfl⟩ := fl_of (h r (by simp))
    exact ⟨a :: l, by rw [h2]; rfl⟩
theorem fls_arg {w : List Value} (h : TOk PP t_L_twainlaw46_Fill w) : ∃ l : List Fl, argV PP t_L_twainlaw46_Fill w = tSl l.length (flRow l) := by
  obtain ⟨rows, rfl, hm, hr⟩ := h.slice_inv u_L_twainlaw46_Fill
  obtain ⟨l, rfl⟩ := fls_of rows hr
  refine ⟨l, ?_⟩
  unfold argV
  rw [u_L_twainlaw46_Fill, List.length_map]
  rfl
theorem fl_len (f : Fl) : f.cells.length = 18 := by simp [Fl.cells, f.s.len]
theorem fl_rows (l : List Fl) : RowsOf 18 (l.map Fl.cells) := by
  refine ⟨fun r hr => ?_, fun r hr => ?_, fun r hr => ?_, fun r hr => ?_⟩ <;> (obtain ⟨f, _, rfl⟩ := List.mem_map.1 hr)
  · exact fl_len f
  · simp [Fl.cells, sec_refs]
  · simp only [Fl.cells, List.all_cons]; rw [show f.s.cells.all cellV = true from sec_all f.s]; rfl
  · simp only [Fl.cells, List.all_cons]; rw [sec_noSl f.s]; rfl
theorem fl_refs (l : List Fl) : lrefs (flRow l) = [] := (fl_rows l).frefs
theorem fl_all (f : Fl) : allCells f.cells = true := (fl_rows [f]).cells _ (by simp)
theorem fl_lr (f : Fl) : lrefs f.cells = [] := (fl_rows [f]).refs _ (by simp)
theorem fl_ix {l : List Fl} {k : Nat} (hk : k < l.length) : aIndexAddr PP t_L_twainlaw46_Fill (tSl l.length (flRow l)) (.int .i64 (k : Int)) = some (tPtr (k * 18) (flRow l).toArray) :=
  tsl_index u_L_twainlaw46_Fill (by kernel_rfl) hk
theorem fl_ld {l : List Fl} {k : Nat} {f : Fl} (hk : l[k]? = some f) (st : AS) : aLoad true 18 st (tPtr (k * 18) (flRow l).toArray) = some (.agg f.cells.toArray) :=
  tptr_load (fl_rows l) (by simp [hk])
theorem fl_put (f : Fl) : putCells z_twainlaw46_Fill 0 f.cells = f.cells := putCells_all (by rw [fl_len, zl_twainlaw46_Fill])
theorem fl_part (f : Fl) : List.take 16 (List.drop 2 f.cells) = f.s.cells := by simp only [Fl.cells, List.drop_succ_cons, List.drop_zero]; exact take_sec f.s
theorem fl_0 (f : Fl) : f.cells[0]? = some (.bool f.b) := rfl
theorem fl_1 (f : Fl) : f.cells[1]? = some (.int .i64 f.at_) := rfl

/-! ### Under new names -/
theorem keep_map {σ : Nat → Nat} {fresh : List (Int × Sec)} {es : List MapEntry} {c : Nat} (h : MapIs KF VF fresh es c) : renBlk σ (.map es c) = .map es c := by
  simp only [renBlk]
  congr 1
  rw [show es = es.map id by simp, List.map_map]
  refine List.map_congr_left fun e he => ?_
  obtain ⟨j, hj⟩ := List.getElem?_of_mem (show e ∈ es by simpa using he)
  obtain ⟨x, _, h1, h2⟩ := h.get hj
  have e1 : vren σ e.key = e.key := by rw [h1]; rfl
  have e2 : vren σ e.val = e.val := by rw [h2]; exact vren_none (by simp [sec_refs])
  simp only [Function.comp, id, e1, e2]
section
variable {H : List Blk} {b k m : Nat} {d : Dk}
theorem At.ren {H' : List Blk} {σ : Nat → Nat} {l : List Nat} (h : At H b k m d) (hb : Rch H l b) (g : ∀ r, Rch H l r → ∀ x, H[r]? = some x → H'[σ r]? = some (renBlk σ x)) : Rch H l k ∧ Rch H l m ∧ At H' (σ b) (σ k) (σ m) d := by
  obtain ⟨es, c, h1, h2⟩ := h.hm
  have hk : Rch H l k := .step hb h.hb (by simp [blkRefs])
  have hm : Rch H l m := .step hb h.hb (by simp [blkRefs])
  refine ⟨hk, hm, ?_, ?_, ⟨es, c, ?_, h2⟩, h.ok⟩
  · have := g b hb _ h.hb
    simpa [renBlk, lren, vren] using this
  · have := g k hk _ h.hr
    rwa [renBlk_cells, lren_none (rows_of d.safe).frefs] at this
  · have := g m hm _ h1
    rwa [keep_map h2] at this
theorem At.apart {b' k' m' : Nat} {d' : Dk} (h : At H b k m d) (h' : At H b' k' m' d') : b ≠ k' ∧ b ≠ m' ∧ k ≠ b' ∧ k ≠ m' ∧ m ≠ b' ∧ m ≠ k' := by
  obtain ⟨es, c, h1, _⟩ := h.hm
  obtain ⟨es', c', h1', _⟩ := h'.hm
  refine ⟨fun e => ?_, fun e => ?_, fun e => ?_, fun e => ?_, fun e => ?_, fun e => ?_⟩
  · have := h.hb; rw [e, h'.hr] at this; simp at this; exact absurd this.2 (by decide)
  · have := h.hb; rw [e, h1'] at this; simp at this
  · have := h.hr; rw [e, h'.hb] at this; simp at this; exact absurd this.2 (by decide)
  · have := h.hr; rw [e, h1'] at this; simp at this
  · rw [e, h'.hb] at h1; simp at h1
  · rw [e, h'.hr] at h1; simp at h1
theorem At.keep {H' : List Blk} {b' k' m' : Nat} (h : At H b k m d) (hf : Fr H H' b' k' m') (h1 : b ≠ b' ∧ b ≠ k' ∧ b ≠ m') (h2 : k ≠ b' ∧ k ≠ k' ∧ k ≠ m') (h3 : m ≠ b' ∧ m ≠ k' ∧ m ≠ m') : At H' b k m d := by
  obtain ⟨es, c, g1, g2⟩ := h.hm
  exact ⟨by rw [hf.2 b h1.1 h1.2.1 h1.2.2]; exact h.hb, by rw [hf.2 k h2.1 h2.2.1 h2.2.2]; exact h.hr, ⟨es, c, by rw [hf.2 m h3.1 h3.2.1 h3.2.2]; exact g1, g2⟩, h.ok⟩

/-- two disks, apart -/
structure Two (H : List Blk) (b1 k1 m1 : Nat) (a : Dk) (b2 k2 m2 : Nat) (d : Dk) : Prop where
  fst : At H b1 k1 m1 a
  snd : At H b2 k2 m2 d
  nb : b1 ≠ b2
  nk : k1 ≠ k2
  nm : m1 ≠ m2
variable {b1 k1 m1 b2 k2 m2 : Nat} {a : Dk}
theorem Two.app (h : Two H b1 k1 m1 a b2 k2 m2 d) (l : List Blk) : Two (H ++ l) b1 k1 m1 a b2 k2 m2 d := ⟨h.fst.app l, h.snd.app l, h.nb, h.nk, h.nm⟩
theorem Two.one {H' : List Blk} {a' : Dk} (h : Two H b1 k1 m1 a b2 k2 m2 d) (h1 : At H' b1 k1 m1 a') (hf : Fr H H' b1 k1 m1) : Two H' b1 k1 m1 a' b2 k2 m2 d := by
  obtain ⟨p1, p2, p3, p4, p5, p6⟩ := h.snd.apart h.fst
  exact ⟨h1, h.snd.keep hf ⟨Ne.symm h.nb, p1, p2⟩ ⟨p3, Ne.symm h.nk, p4⟩ ⟨p5, p6, Ne.symm h.nm⟩, h.nb, h.nk, h.nm⟩
theorem Two.two {H' : List Blk} {d' : Dk} (h : Two H b1 k1 m1 a b2 k2 m2 d) (h1 : At H' b2 k2 m2 d') (hf : Fr H H' b2 k2 m2) : Two H' b1 k1 m1 a b2 k2 m2 d' := by
  obtain ⟨p1, p2, p3, p4, p5, p6⟩ := h.fst.apart h.snd
  exact ⟨h.fst.keep hf ⟨h.nb, p1, p2⟩ ⟨p3, h.nk, p4⟩ ⟨p5, p6, h.nm⟩, h1, h.nb, h.nk, h.nm⟩
theorem Two.gc {vs : List Value} {st : AS} (h : Two st.H b1 k1 m1 a b2 k2 m2 d) (hb1 : b1 ∈ lrefs vs) (hb2 : b2 ∈ lrefs vs) : ∃ σ, (gc 0 vs st).1 = lren σ vs ∧ Two (gc 0 vs st).2.H (σ b1) (σ k1) (σ m1) a (σ b2) (σ k2) (σ m2) d := by
  obtain ⟨σ, g1, g2, g3⟩ := gc0_spec vs st
  obtain ⟨q1, q2, q3⟩ := h.fst.ren (.here hb1) g2
  obtain ⟨r1, r2, r3⟩ := h.snd.ren (.here hb2) g2
  exact ⟨σ, g1, q3, r3, fun e => h.nb (g3 _ _ (.here hb1) (.here hb2) e), fun e => h.nk (g3 _ _ q1 r1 e), fun e => h.nm (g3 _ _ q2 r2 e)⟩

end
end DK
end Go.Proofs.YtadllcgmimbjdaaGreat

end
