/- A part of the proof: Nm1, Nm2, Nm3, Sl1, Sl2. Its conditions: none. -/
import Derived.Test.YtadllcgmimbjdaaGreatRk1
import Derived.Test.YtadllcgmimbjdaaGreatDskP
import Derived.Test.YtadllcgmimbjdaaGreatAm32
set_option linter.all false
set_option linter.unusedVariables false
set_option linter.unusedSimpArgs false
set_option linter.unnecessarySimpa false
section
namespace Go.Proofs.YtadllcgmimbjdaaGreat
open Go Go.Am Go.Dsk
set_option linter.unusedVariables false
namespace DK
section
variable {H : List Blk}
theorem by_noSl (l : List UInt8) : (bytesV l).all noSl = true := bytesV_all _ (fun _ => rfl) _
theorem by_cell (l : List UInt8) : (bytesV l).all cellV = true := bytesV_all _ (fun _ => rfl) _
theorem by_all (l : List UInt8) : allCells (bytesV l) = true := by_cell l
theorem rd_tree (l : List UInt8) : Rd H (tSl l.length (bytesV l)) l.length (bytesV l) := .tree _ _
theorem tree_refs (l : List UInt8) : ∀ r ∈ vrefs (tSl l.length (bytesV l)), r < H.length := by simp [bytesV_refs]
theorem make_by {n : Nat} (m : Nat) (hm : m ≤ n) (hn : n ≤ 100000) (st : AS) : aMakeSlice PP t_L_uint8 (.int .i64 (m : Int)) (.int .i64 (n : Int)) st = some (.slice (some ⟨st.H.length, 0, none⟩) m n, newBlk st (byB (List.replicate n 0))) := by
  have h1 : bytesV (List.replicate n 0) = (List.replicate n [Value.int .u8 0]).flatten := by
    simp [bytesV]
  unfold byB
  rw [h1]
  unfold aMakeSlice
  simp only [u_L_uint8, sz_uint8, by_uint8, zv_uint8]
  rw [if_pos ⟨by omega, by omega, by omega, by omega, by kernel_rfl, by omega, by kernel_rfl, by kernel_rfl⟩]
  simp only [aRow, Int.toNat_natCast]
  rfl

/-- bytes are appended where there is room -/
theorem app_room {R : Type} {st : AS} {k n cap : Nat} {cs new : List Value} {y : Value} {m : Nat} (F : Value → AS → Option R) (hk : st.H[k]? = some (.cells cs t_uint8 true)) (hy : srcCells 1 st.H y = some (m, new)) (hm : new.length = m) (hc : new.all cellV = true) (hr : lrefs new = []) (hcap : n + m ≤ cap) (hu : cap ≠ UNK) (hcs : cap ≤ cs.length) (hb : n + m ≤ 65536) :
    eBuiltin PP .append #[t_L_uint8, t_L_uint8] [.slice (some ⟨k, 0, none⟩) n cap, y] st F = F (.slice (some ⟨k, 0, none⟩) (n + m) cap) ⟨st.H.set k (.cells (putCells cs n new) t_uint8 true), st.esc⟩ := by
  obtain ⟨Hh, e⟩ := st
  have hst : storeL ⟨Hh, e⟩ k (0 + n * 1) new = some ⟨Hh.set k (.cells (putCells cs n new) t_uint8 true), e⟩ := by
    rw [storeL_eq hk, if_pos ⟨by omega, hc⟩, hr, Nat.zero_add, Nat.mul_one]; rfl
  have hbm : (n + m) * 1 ≤ 140737488355328 := by omega
  by_cases h0 : m = 0
  · subst h0
    have hnew : new = [] := List.eq_nil_of_length_eq_zero hm
    subst hnew
    have hs : Hh.set k (.cells (putCells cs n []) t_uint8 true) = Hh := by
      rw [show putCells cs n [] = cs by simp [putCells]]; exact set_same hk
    simp only [eBuiltin, aAppend, List.toList_toArray, u_L_uint8, sz_uint8, by_uint8, zv_uint8, Option.getD_some, hy]
    simp [hs]
    rfl
  · simp only [eBuiltin, aAppend, List.toList_toArray, u_L_uint8, sz_uint8, by_uint8, zv_uint8, Option.getD_some, hy]
    simp only [hu, ne_eq, not_false_eq_true, if_true, h0, if_false, hbm, hcap, hst]
    simp [Value.cells]

theorem join_ok {v w : Value} {a c : List UInt8} (hv : Rd H v a.length (bytesV a)) (hw : Rd H w c.length (bytesV c)) (hl : a.length + c.length ≤ 60000) : acall PP TT n_num_join [v, w] H = some (tSl (a ++ c).length (bytesV (a ++ c)), H, none) := by
  have hla := hv.len (P := PP) u_L_uint8 ⟨H, none⟩
  have hlc := hw.len (P := PP) u_L_uint8 ⟨H, none⟩
  have hwr : IntKind.i64.wrap ((a.length : Int) + (c.length : Int)) = ((a.length + c.length : Nat) : Int) := by rw [wrap_i64 ⟨by omega, by omega⟩]; omega
  have hmk := make_by (n := a.length + c.length) 0 (by omega) (by omega) ⟨H, none⟩
  have hz : (bytesV (List.replicate (a.length + c.length) 0)).length = a.length + c.length := by simp [bytesV_len]
  have s1 := ((hv.app (l := [byB (List.replicate (a.length + c.length) 0)])).src (size := 1) (by rw [bytesV_len, Nat.mul_one]) (by_cell a))
  have a1 := fun F => app_room (R := Value × List Blk × Option Nat) (st := ⟨H ++ [byB (List.replicate (a.length + c.length) 0)], none⟩) (k := H.length) (n := 0) (cap := a.length + c.length) (cs := bytesV (List.replicate (a.length + c.length) 0)) F (by simp) s1 (bytesV_len a) (by_cell a) (bytesV_refs a) (by omega) (by unfold UNK; omega) (by rw [hz]; omega) (by omega)
  have e1 : putCells (bytesV (List.replicate (a.length + c.length) 0)) 0 (bytesV a) = bytesV (a ++ List.replicate c.length 0) := by
    have hd : (bytesV (List.replicate (a.length + c.length) 0)).drop a.length = bytesV (List.replicate c.length 0) := by
      unfold bytesV
      rw [← List.map_drop, List.drop_replicate]
      rw [show a.length + c.length - a.length = c.length by omega]
    unfold putCells
    rw [bytesV_app, bytesV_len, Nat.zero_add, hd]
    rfl
  have hset1 : (H ++ [byB (List.replicate (a.length + c.length) 0)]).set H.length (byB (a ++ List.replicate c.length 0)) = H ++ [byB (a ++ List.replicate c.length 0)] := by rw [set_app0]; rfl
  have s2 := ((hw.app (l := [byB (a ++ List.replicate c.length 0)])).src (size := 1) (by rw [bytesV_len, Nat.mul_one]) (by_cell c))
  have a2 := fun F => app_room (R := Value × List Blk × Option Nat) (st := ⟨H ++ [byB (a ++ List.replicate c.length 0)], none⟩) (k := H.length) (n := a.length) (cap := a.length + c.length) (cs := bytesV (a ++ List.replicate c.length 0)) F (by simp) s2 (bytesV_len c) (by_cell c) (bytesV_refs c) (by omega) (by unfold UNK; omega) (by rw [bytesV_len]; simp) (by omega)
  have e2 : putCells (bytesV (a ++ List.replicate c.length 0)) a.length (bytesV c) = bytesV (a ++ c) := by
    simp only [putCells, bytesV_app]
    rw [List.take_append_of_le_length (by rw [bytesV_len]; exact Nat.le_refl _), List.take_of_length_le (by rw [bytesV_len]; exact Nat.le_refl _), List.drop_of_length_le (by simp [bytesV_len])]
    simp
  have hset2 : (H ++ [byB (a ++ List.replicate c.length 0)]).set H.length (byB (a ++ c)) = H ++ [byB (a ++ c)] := by rw [set_app0]; rfl
  simp only [Nat.zero_add, e1, hset1] at a1
  simp only [e2, hset2] at a2
  rw [acall_eq, num_join.eq]
  rw [show ((0 : Nat) : Int) = 0 from rfl] at hmk
  simp only [num_join.sh, mach, Nat.reduceAdd, Nat.reduceLeDiff, Int.reduceEq, Int.reduceLT, Int.reduceLE, hla, hlc, hwr, hmk, newBlk_bare, a1, a2]
  rw [List.length_append]
  exact fin_row0 (l := [byB (a ++ c)]) (n := a.length + c.length) rfl sz_uint8 (by rw [bytesV_len]; simp) (by_noSl _) (bytesV_refs _) rfl

theorem put_uint32_ok {v : Value} {a : List UInt8} (hv : Rd H v a.length (bytesV a)) (hr : ∀ r ∈ vrefs v, r < H.length) (hl : a.length ≤ 1000) {x : Nat} (hx : x < 2 ^ 32) {size : Nat} (hs0 : 0 < size) (hs : size ≤ 8) : acall PP TT n_num_put_uint32 [v, .int .u32 x, .int .i64 (size : Int)] H = some (tSl (a ++ be x size).length (bytesV (a ++ be x size)), H, none) := by
  have hmk := make_by (n := size) size (Nat.le_refl _) (by omega) ⟨H, none⟩
  have hw0 : IntKind.i64.wrap ((size : Int) - 1) = (size : Int) - 1 := wrap_i64 ⟨by omega, by omega⟩
  have hxs : ∀ (j : Nat) (p : Nat × List UInt8), p.1 ≤ x → (beNext p).1 ≤ x := fun j p hp => by simp only [beNext]; omega
  have hloop := loop_upto (n0 := H.length) (step := num_put_uint32.loop3s (acall PP TT) loopG H.length) (len := size) (σ := Nat × List UInt8) (fun j p => ([v, .int .u32 p.1, .slice (some ⟨H.length, 0, none⟩) size size, .int .i64 ((size : Int) - 1 - j)], ⟨H ++ [byB (List.replicate (size - j) 0 ++ p.2)], none⟩)) (fun _ => beNext) (fun j p => p.1 ≤ x ∧ p.2.length = j ∧ j ≤ size) (fun p => (.exit 0, [v, .slice (some ⟨H.length, 0, none⟩) size size], ⟨H ++ [byB p.2], none⟩))
    (fun j p hj ⟨hp, hpl, _⟩ => by
      obtain ⟨y, tl⟩ := p
      simp only at hp hpl
      have hge : (size : Int) - 1 - (j : Int) ≥ 0 := by omega
      have hge' : (0 : Int) ≤ (size : Int) - 1 - (j : Int) := by omega
      have hi : (size : Int) - 1 - (j : Int) = ((size - 1 - j : Nat) : Int) := by omega
      have hix : aIndexAddr PP t_L_uint8 (.slice (some ⟨H.length, 0, none⟩) size size) (.int .i64 ((size : Int) - 1 - (j : Int))) = some (.pointer (some ⟨H.length, size - 1 - j, none⟩)) := by
        have := ix_sl (j := .i64) (b := H.length) (o := 0) (k := size) (c := size) (n := size - 1 - j) u_L_uint8 sz_uint8 (by omega)
        rw [Nat.zero_add, Nat.mul_one] at this
        rw [hi]; exact this
      have hc : ∀ st, aConv PP t_uint32 t_uint8 (.int .u32 (y : Int)) st = some (.int .u8 ((y % 256 : Nat) : Int), st) := by
        intro st
        simp only [aConv, u_uint32, u_uint8]
        rw [wrap8_nat]
      have hsh : ∀ ox oy, aBin PP .shr t_uint32 ox oy (.int .u32 (y : Int)) (.int .u64 8) = some (.int .u32 ((y / 256 : Nat) : Int)) := by
        intro ox oy
        have : y >>> 8 = y / 256 := by rw [Nat.shiftRight_eq_div_pow]
        rw [← this]
        exact bin_shr32 (i := 8) (by decide) (by omega)
      have hsub : IntKind.i64.wrap ((size : Int) - 1 - (j : Int) - 1) = (size : Int) - 1 - ((j + 1 : Nat) : Int) := by rw [wrap_i64 ⟨by omega, by omega⟩]; omega
      have hlen : (bytesV (List.replicate (size - j) 0 ++ tl)).length = size := by simp [bytesV_len, hpl]; omega
      have hle : size - 1 - j + 1 ≤ (bytesV (List.replicate (size - j) 0 ++ tl)).length := by rw [hlen]; omega
      have hput : putCells (bytesV (List.replicate (size - j) 0 ++ tl)) (size - 1 - j) [.int .u8 ((y % 256 : Nat) : Int)] = bytesV (List.replicate (size - (j + 1)) 0 ++ UInt8.ofNat (y % 256) :: tl) := by
        rw [putCells_set (by rw [hlen]; omega)]
        rw [show size - j = (size - (j + 1)) + 1 by omega, List.replicate_succ', List.append_assoc, bytesV_app, bytesV_app, List.set_append, bytesV_len, List.length_replicate, if_neg (by omega), show size - 1 - j - (size - (j + 1)) = 0 by omega]
        simp only [bytesV, List.map_append, List.map_cons, List.map_nil, List.cons_append, List.nil_append, List.set_cons_zero, ofNat_toNat]
      refine ⟨_, _, ?_, gc_one (vs := [v, .int .u32 ((y / 256 : Nat) : Int), .slice (some ⟨H.length, 0, none⟩) size size, .int .i64 ((size : Int) - 1 - ((j + 1 : Nat) : Int))]) (G := []) (t := t_uint8) (o := true) (by
        intro r hr'
        simp only [lrefs_cons, lrefs_nil, vrefs_int, vrefs_slice, List.mem_append, List.append_nil, List.nil_append, List.mem_singleton] at hr'
        rcases hr' with hr' | hr'
        · exact .inl (hr r hr')
        · exact .inr hr') (by simp) (bytesV_refs _) (by
        have := hv.few (bytesV_refs _)
        simp; omega), hxs j (y, tl) hp, by simp [beNext, hpl], hj⟩
      simp only [num_put_uint32.loop3s, num_put_uint32.loop3, mach, Nat.reduceAdd, Nat.reduceLeDiff, Int.reduceEq, Int.reduceLT, Int.reduceLE, hge, hge', hc, hix, hle, hput, hsh, hsub]
      rfl)
    (fun p ⟨hp, hpl, _⟩ => by
      have hge : ¬ (size : Int) - 1 - (size : Int) ≥ 0 := by omega
      have hge' : ¬ (0 : Int) ≤ (size : Int) - 1 - (size : Int) := by omega
      simp only [num_put_uint32.loop3s, num_put_uint32.loop3, mach, Nat.reduceAdd, Nat.reduceLeDiff, Int.reduceEq, Int.reduceLT, Int.reduceLE, hge, hge', Nat.sub_self, List.replicate_zero, List.nil_append]) (x, []) [v, .int .u32 x, .slice (some ⟨H.length, 0, none⟩) size size, .int .i64 ((size : Int) - 1)] ⟨H ++ [byB (List.replicate size 0)], none⟩ ⟨Nat.le_refl _, rfl, Nat.zero_le _⟩ (by
      have := gc_one (vs := [v, .int .u32 x, .slice (some ⟨H.length, 0, none⟩) size size, .int .i64 ((size : Int) - 1)]) (H := H) (cs := bytesV (List.replicate size 0)) (G := []) (t := t_uint8) (o := true) (by
        intro r hr'
        simp only [lrefs_cons, lrefs_nil, vrefs_int, vrefs_slice, List.mem_append, List.append_nil, List.nil_append, List.mem_singleton] at hr'
        rcases hr' with hr' | hr'
        · exact .inl (hr r hr')
        · exact .inr hr') (by simp) (bytesV_refs _) (by
        have := hv.few (bytesV_refs _)
        simp; omega)
      simpa using this)
  have hbe : (upto (fun _ => beNext) size (x, [])).2 = be x size := rfl
  have hj := join_ok (H := H ++ [byB (be x size)]) (v := v) (w := .slice (some ⟨H.length, 0, none⟩) size size) (a := a) (c := be x size) hv.app (by
    rw [be_len]
    exact .own (bs := bytesV (be x size)) (t := t_uint8) (own := true) (by simp) (by simp) (by rw [List.drop_zero]; exact List.take_length)) (by rw [be_len]; omega)
  rw [acall_eq, num_put_uint32.eq]
  simp only [hbe] at hloop
  simp only [num_put_uint32.sh, mach, Nat.reduceAdd, Nat.reduceLeDiff, Int.reduceEq, Int.reduceLT, Int.reduceLE, hmk, newBlk_bare, hw0, hloop, num_put_uint32.j2, hj]
  have := fin_app (P := PP) (vs := [tSl (a ++ be x size).length (bytesV (a ++ be x size))]) (H := H) (l := [byB (be x size)]) (n0 := H.length) rfl rfl (by simp [bytesV_refs]) (e := none) rfl
  exact this
theorem Put32_ok {v : Value} {a : List UInt8} (hv : Rd H v a.length (bytesV a)) (hr : ∀ r ∈ vrefs v, r < H.length) (hl : a.length ≤ 1000) {x : Nat} (hx : x < 2 ^ 32) : acall PP TT n_num_Put32 [v, .int .u32 x] H = some (tSl (a ++ be x 4).length (bytesV (a ++ be x 4)), H, none) := by
  have h := put_uint32_ok hv hr hl hx (size := 4) (by decide) (by decide)
  rw [acall_eq, num_Put32.eq]
  rw [show ((4 : Nat) : Int) = 4 from rfl] at h
  simp only [num_Put32.sh, mach, Nat.reduceAdd, Nat.reduceLeDiff, Int.reduceEq, Int.reduceLT, Int.reduceLE, h]
  exact fin_old (P := PP) (vs := [tSl (a ++ be x 4).length (bytesV (a ++ be x 4))]) rfl rfl (by simp [bytesV_refs])

theorem put_uint64_ok {v : Value} {a : List UInt8} (hv : Rd H v a.length (bytesV a)) (hr : ∀ r ∈ vrefs v, r < H.length) (hl : a.length ≤ 1000) {x : Nat} (hx : x < 2 ^ 64) {size : Nat} (hs0 : 0 < size) (hs : size ≤ 8) : acall PP TT n_num_put_uint64 [v, .int .u64 x, .int .i64 (size : Int)] H = some (tSl (a ++ be x size).length (bytesV (a ++ be x size)), H, none) := by
  have hmk := make_by (n := size) size (Nat.le_refl _) (by omega) ⟨H, none⟩
  have hw0 : IntKind.i64.wrap ((size : Int) - 1) = (size : Int) - 1 := wrap_i64 ⟨by omega, by omega⟩
  have hxs : ∀ (j : Nat) (p : Nat × List UInt8), p.1 ≤ x → (beNext p).1 ≤ x := fun j p hp => by simp only [beNext]; omega
  have hloop := loop_upto (n0 := H.length) (step := num_put_uint64.loop3s (acall PP TT) loopG H.length) (len := size) (σ := Nat × List UInt8) (fun j p => ([v, .int .u64 p.1, .slice (some ⟨H.length, 0, none⟩) size size, .int .i64 ((size : Int) - 1 - j)], ⟨H ++ [byB (List.replicate (size - j) 0 ++ p.2)], none⟩)) (fun _ => beNext) (fun j p => p.1 ≤ x ∧ p.2.length = j ∧ j ≤ size) (fun p => (.exit 0, [v, .slice (some ⟨H.length, 0, none⟩) size size], ⟨H ++ [byB p.2], none⟩))
    (fun j p hj ⟨hp, hpl, _⟩ => by
      obtain ⟨y, tl⟩ := p
      simp only at hp hpl
      have hge : (size : Int) - 1 - (j : Int) ≥ 0 := by omega
      have hge' : (0 : Int) ≤ (size : Int) - 1 - (j : Int) := by omega
      have hi : (size : Int) - 1 - (j : Int) = ((size - 1 - j : Nat) : Int) := by omega
      have hix : aIndexAddr PP t_L_uint8 (.slice (some ⟨H.length, 0, none⟩) size size) (.int .i64 ((size : Int) - 1 - (j : Int))) = some (.pointer (some ⟨H.length, size - 1 - j, none⟩)) := by
        have := ix_sl (j := .i64) (b := H.length) (o := 0) (k := size) (c := size) (n := size - 1 - j) u_L_uint8 sz_uint8 (by omega)
        rw [Nat.zero_add, Nat.mul_one] at this
        rw [hi]; exact this
      have hc : ∀ st, aConv PP t_uint64 t_uint8 (.int .u64 (y : Int)) st = some (.int .u8 ((y % 256 : Nat) : Int), st) := by
        intro st
        simp only [aConv, u_uint64, u_uint8]
        rw [wrap8_nat]
      have hsh : ∀ ox oy, aBin PP .shr t_uint64 ox oy (.int .u64 (y : Int)) (.int .u64 8) = some (.int .u64 ((y / 256 : Nat) : Int)) := by
        intro ox oy
        have : y >>> 8 = y / 256 := by rw [Nat.shiftRight_eq_div_pow]
        rw [← this]
        exact bin_shr (i := 8) (by decide)
      have hsub : IntKind.i64.wrap ((size : Int) - 1 - (j : Int) - 1) = (size : Int) - 1 - ((j + 1 : Nat) : Int) := by rw [wrap_i64 ⟨by omega, by omega⟩]; omega
      have hlen : (bytesV (List.replicate (size - j) 0 ++ tl)).length = size := by simp [bytesV_len, hpl]; omega
      have hle : size - 1 - j + 1 ≤ (bytesV (List.replicate (size - j) 0 ++ tl)).length := by rw [hlen]; omega
      have hput : putCells (bytesV (List.replicate (size - j) 0 ++ tl)) (size - 1 - j) [.int .u8 ((y % 256 : Nat) : Int)] = bytesV (List.replicate (size - (j + 1)) 0 ++ UInt8.ofNat (y % 256) :: tl) := by
        rw [putCells_set (by rw [hlen]; omega)]
        rw [show size - j = (size - (j + 1)) + 1 by omega, List.replicate_succ', List.append_assoc, bytesV_app, bytesV_app, List.set_append, bytesV_len, List.length_replicate, if_neg (by omega), show size - 1 - j - (size - (j + 1)) = 0 by omega]
        simp only [bytesV, List.map_append, List.map_cons, List.map_nil, List.cons_append, List.nil_append, List.set_cons_zero, ofNat_toNat]
      refine ⟨_, _, ?_, gc_one (vs := [v, .int .u64 ((y / 256 : Nat) : Int), .slice (some ⟨H.length, 0, none⟩) size size, .int .i64 ((size : Int) - 1 - ((j + 1 : Nat) : Int))]) (G := []) (t := t_uint8) (o := true) (by
        intro r hr'
        simp only [lrefs_cons, lrefs_nil, vrefs_int, vrefs_slice, List.mem_append, List.append_nil, List.nil_append, List.mem_singleton] at hr'
        rcases hr' with hr' | hr'
        · exact .inl (hr r hr')
        · exact .inr hr') (by simp) (bytesV_refs _) (by
        have := hv.few (bytesV_refs _)
        simp; omega), hxs j (y, tl) hp, by simp [beNext, hpl], hj⟩
      simp only [num_put_uint64.loop3s, num_put_uint64.loop3, mach, Nat.reduceAdd, Nat.reduceLeDiff, Int.reduceEq, Int.reduceLT, Int.reduceLE, hge, hge', hc, hix, hle, hput, hsh, hsub]
      rfl)
    (fun p ⟨hp, hpl, _⟩ => by
      have hge : ¬ (size : Int) - 1 - (size : Int) ≥ 0 := by omega
      have hge' : ¬ (0 : Int) ≤ (size : Int) - 1 - (size : Int) := by omega
      simp only [num_put_uint64.loop3s, num_put_uint64.loop3, mach, Nat.reduceAdd, Nat.reduceLeDiff, Int.reduceEq, Int.reduceLT, Int.reduceLE, hge, hge', Nat.sub_self, List.replicate_zero, List.nil_append]) (x, []) [v, .int .u64 x, .slice (some ⟨H.length, 0, none⟩) size size, .int .i64 ((size : Int) - 1)] ⟨H ++ [byB (List.replicate size 0)], none⟩ ⟨Nat.le_refl _, rfl, Nat.zero_le _⟩ (by
      have := gc_one (vs := [v, .int .u64 x, .slice (some ⟨H.length, 0, none⟩) size size, .int .i64 ((size : Int) - 1)]) (H := H) (cs := bytesV (List.replicate size 0)) (G := []) (t := t_uint8) (o := true) (by
        intro r hr'
        simp only [lrefs_cons, lrefs_nil, vrefs_int, vrefs_slice, List.mem_append, List.append_nil, List.nil_append, List.mem_singleton] at hr'
        rcases hr' with hr' | hr'
        · exact .inl (hr r hr')
        · exact .inr hr') (by simp) (bytesV_refs _) (by
        have := hv.few (bytesV_refs _)
        simp; omega)
      simpa using this)
  have hbe : (upto (fun _ => beNext) size (x, [])).2 = be x size := rfl
  have hj := join_ok (H := H ++ [byB (be x size)]) (v := v) (w := .slice (some ⟨H.length, 0, none⟩) size size) (a := a) (c := be x size) hv.app (by
    rw [be_len]
    exact .own (bs := bytesV (be x size)) (t := t_uint8) (own := true) (by simp) (by simp) (by rw [List.drop_zero]; exact List.take_length)) (by rw [be_len]; omega)
  rw [acall_eq, num_put_uint64.eq]
  simp only [hbe] at hloop
  simp only [num_put_uint64.sh, mach, Nat.reduceAdd, Nat.reduceLeDiff, Int.reduceEq, Int.reduceLT, Int.reduceLE, hmk, newBlk_bare, hw0, hloop, num_put_uint64.j2, hj]
  have := fin_app (P := PP) (vs := [tSl (a ++ be x size).length (bytesV (a ++ be x size))]) (H := H) (l := [byB (be x size)]) (n0 := H.length) rfl rfl (by simp [bytesV_refs]) (e := none) rfl
  exact this
theorem Put64_ok {v : Value} {a : List UInt8} (hv : Rd H v a.length (bytesV a)) (hr : ∀ r ∈ vrefs v, r < H.length) (hl : a.length ≤ 1000) {x : Nat} (hx : x < 2 ^ 64) : acall PP TT n_num_Put64 [v, .int .u64 x] H = some (tSl (a ++ be x 8).length (bytesV (a ++ be x 8)), H, none) := by
  have h := put_uint64_ok hv hr hl hx (size := 8) (by decide) (by decide)
  rw [acall_eq, num_Put64.eq]
  rw [show ((8 : Nat) : Int) = 8 from rfl] at h
  simp only [num_Put64.sh, mach, Nat.reduceAdd, Nat.reduceLeDiff, Int.reduceEq, Int.reduceLT, Int.reduceLE, h]
  exact fin_old (P := PP) (vs := [tSl (a ++ be x 8).length (bytesV (a ++ be x 8))]) rfl rfl (by simp [bytesV_refs])

end
end DK
end Go.Proofs.YtadllcgmimbjdaaGreat

end
section
namespace Go.Proofs.YtadllcgmimbjdaaGreat
open Go Go.Am Go.Dsk
set_option linter.unusedVariables false
namespace DK
section
variable {H : List Blk}

/-- what is read, of a part of a row -/
theorem get_uint32_ok {k o n c : Nat} {bs : List Value} {t : TypeId} {own : Bool} {l : List UInt8} (hk : H[k]? = some (.cells bs t own)) (ho : o ≤ bs.length) (hl : (bs.drop o).take n = bytesV l) (hn : l.length = n) (hc : n ≤ c) (hcu : c < 100000) {size : Nat} (hs : size ≤ 4) (hsn : size ≤ n) : acall PP TT n_num_get_uint32 [.slice (some ⟨k, o, none⟩) n c, .int .i64 (size : Int)] H = some (.tuple #[.int .u32 (getN (l.take size)), .bool true], H, none) := by
  have hkl := blk_lt hk
  have h1 : ¬ (n : Int) < (size : Int) := by omega
  have hsl := fun st => slice_to (P := PP) (t := t_L_uint8) (b := k) (o := o) (n := n) (c := c) (m := size) (j := .i64) (st := st) u_L_uint8 sz_uint8 hsn hc (by unfold UNK; omega)
  have hlt : (l.take size).length = size := by simp; omega
  have hcs : (bs.drop o).take size = bytesV (l.take size) := by
    have : (bs.drop o).take size = ((bs.drop o).take n).take size := by rw [List.take_take, Nat.min_eq_left hsn]
    rw [this, hl]
    simp [bytesV, List.map_take]
  have hrd : Rd H (.slice (some ⟨k, o, none⟩) size c) (l.take size).length (bytesV (l.take size)) := by
    rw [hlt]
    exact .own hk ho (by rw [bytesV_len, hlt]; exact hcs)
  have hloop := loop_upto (n0 := H.length) (step := num_get_uint32.loop5s (acall PP TT) loopG H.length) (len := size) (σ := Unit) (fun i _ => ([.int .u32 (getN (l.take i)), .slice (some ⟨k, o, none⟩) size c, .int .i64 size, .int .i64 i], ⟨H, none⟩)) (fun _ u => u) (fun _ _ => True) (fun _ => (.exit 0, [.int .u32 (getN (l.take size))], ⟨H, none⟩))
    (fun i _ hi _ => by
      have hlt' : (i : Int) < (size : Int) := by omega
      have hw := wrap_add1 (show i < 4611686018427387904 by omega)
      have hil : i < l.length := by omega
      have hb : getN (l.take i) < 256 ^ i := by
        have := getN_lt (l.take i)
        rwa [List.length_take, Nat.min_eq_left (by omega)] at this
      have hb2 : getN (l.take i) * 256 < 2 ^ 32 := by
        have h2 : (256 : Nat) ^ (i + 1) ≤ 256 ^ 4 := Nat.pow_le_pow_right (by decide) (by omega)
        have h3 : (256 : Nat) ^ 4 = 2 ^ 32 := by decide
        rw [Nat.pow_succ] at h2
        omega
      have hby : (l.getD i 0).toNat < 256 := (l.getD i 0).toNat_lt
      have hg : (bytesV (l.take size))[i]? = some (.int .u8 (l.getD i 0).toNat) := by
        rw [bytesV_get (by omega)]
        simp [List.getD, List.getElem?_take, hi]
      obtain ⟨p, hp1, hp2⟩ : ∃ p, aIndexAddr PP t_L_uint8 (.slice (some ⟨k, o, none⟩) size c) (.int .i64 (i : Int)) = some p ∧ aLoad false 1 ⟨H, none⟩ p = some (.int .u8 (l.getD i 0).toNat) := by
        refine ⟨rdPtr (.slice (some ⟨k, o, none⟩) size c) i, ?_, hrd.load1 (by omega) hg none⟩
        have := hrd.index (P := PP) (k := .i64) u_L_uint8 sz_uint8 (i := (i : Int)) (by omega) (by omega)
        simpa using this
      have hcv : ∀ st, aConv PP t_uint8 t_uint32 (.int .u8 (l.getD i 0).toNat) st = some (.int .u32 (((l.getD i 0).toNat : Nat) : Int), st) := by
        intro st
        simp only [aConv, u_uint8, u_uint32]
        rw [wrap32_nat (Nat.lt_trans hby (by decide))]
      have hor : getN (l.take i) * 256 ||| (l.getD i 0).toNat = getN (l.take (i + 1)) := by rw [shl_or _ _ hby, getN_take l i hil]
      have hgc : gc H.length [.int .u32 (getN (l.take (i + 1))), .slice (some ⟨k, o, none⟩) size c, .int .i64 size, .int .i64 ((i + 1 : Nat) : Int)] ⟨H, none⟩ = ([.int .u32 (getN (l.take (i + 1))), .slice (some ⟨k, o, none⟩) size c, .int .i64 size, .int .i64 ((i + 1 : Nat) : Int)], ⟨H, none⟩) := gc_same (by simp [hkl])
      refine ⟨_, _, ?_, hgc, trivial⟩
      simp only [num_get_uint32.loop5s, num_get_uint32.loop5, mach, Nat.reduceAdd, Nat.reduceLeDiff, Int.reduceEq, Int.reduceLT, Int.reduceLE, hlt', hp1, hp2, bin_shl8_32 hb2, hcv, bin_or32 hb2 (Nat.lt_trans hby (by decide)), hor, hw])
    (fun _ _ => by simp only [num_get_uint32.loop5s, num_get_uint32.loop5, mach, Nat.reduceAdd, Nat.reduceLeDiff, Int.reduceEq, Int.reduceLT, Int.reduceLE, Int.lt_irrefl]) () [.int .u32 0, .slice (some ⟨k, o, none⟩) size c, .int .i64 size, .int .i64 0] ⟨H, none⟩ trivial (gc_same (by simp [hkl]))
  rw [acall_eq, num_get_uint32.eq]
  simp only [num_get_uint32.sh, mach, Nat.reduceAdd, Nat.reduceLeDiff, Int.reduceEq, Int.reduceLT, Int.reduceLE, sl_len u_L_uint8, h1, hsl, hloop, num_get_uint32.j2]
  exact fin_lit0 rfl rfl
theorem Get32_ok {k o n c : Nat} {bs : List Value} {t : TypeId} {own : Bool} {l : List UInt8} (hk : H[k]? = some (.cells bs t own)) (ho : o ≤ bs.length) (hl : (bs.drop o).take n = bytesV l) (hn : l.length = n) (hc : n ≤ c) (hcu : c < 100000) (hsn : 4 ≤ n) : acall PP TT n_num_Get32 [.slice (some ⟨k, o, none⟩) n c] H = some (.tuple #[.int .u32 (getN (l.take 4)), .bool true], H, none) := by
  have h := get_uint32_ok hk ho hl hn hc hcu (size := 4) (Nat.le_refl _) hsn
  rw [acall_eq, num_Get32.eq]
  rw [show ((4 : Nat) : Int) = 4 from rfl] at h
  simp only [num_Get32.sh, mach, Nat.reduceAdd, Nat.reduceLeDiff, Int.reduceEq, Int.reduceLT, Int.reduceLE, h]
  exact fin_lit0 rfl rfl

/-- what is read, of a part of a row -/
theorem get_uint64_ok {k o n c : Nat} {bs : List Value} {t : TypeId} {own : Bool} {l : List UInt8} (hk : H[k]? = some (.cells bs t own)) (ho : o ≤ bs.length) (hl : (bs.drop o).take n = bytesV l) (hn : l.length = n) (hc : n ≤ c) (hcu : c < 100000) {size : Nat} (hs : size ≤ 8) (hsn : size ≤ n) : acall PP TT n_num_get_uint64 [.slice (some ⟨k, o, none⟩) n c, .int .i64 (size : Int)] H = some (.tuple #[.int .u64 (getN (l.take size)), .bool true], H, none) := by
  have hkl := blk_lt hk
  have h1 : ¬ (n : Int) < (size : Int) := by omega
  have hsl := fun st => slice_to (P := PP) (t := t_L_uint8) (b := k) (o := o) (n := n) (c := c) (m := size) (j := .i64) (st := st) u_L_uint8 sz_uint8 hsn hc (by unfold UNK; omega)
  have hlt : (l.take size).length = size := by simp; omega
  have hcs : (bs.drop o).take size = bytesV (l.take size) := by
    have : (bs.drop o).take size = ((bs.drop o).take n).take size := by rw [List.take_take, Nat.min_eq_left hsn]
    rw [this, hl]
    simp [bytesV, List.map_take]
  have hrd : Rd H (.slice (some ⟨k, o, none⟩) size c) (l.take size).length (bytesV (l.take size)) := by
    rw [hlt]
    exact .own hk ho (by rw [bytesV_len, hlt]; exact hcs)
  have hloop := loop_upto (n0 := H.length) (step := num_get_uint64.loop5s (acall PP TT) loopG H.length) (len := size) (σ := Unit) (fun i _ => ([.int .u64 (getN (l.take i)), .slice (some ⟨k, o, none⟩) size c, .int .i64 size, .int .i64 i], ⟨H, none⟩)) (fun _ u => u) (fun _ _ => True) (fun _ => (.exit 0, [.int .u64 (getN (l.take size))], ⟨H, none⟩))
    (fun i _ hi _ => by
      have hlt' : (i : Int) < (size : Int) := by omega
      have hw := wrap_add1 (show i < 4611686018427387904 by omega)
      have hil : i < l.length := by omega
      have hb : getN (l.take i) < 256 ^ i := by
        have := getN_lt (l.take i)
        rwa [List.length_take, Nat.min_eq_left (by omega)] at this
      have hb2 : getN (l.take i) * 256 < 2 ^ 64 := by
        have h2 : (256 : Nat) ^ (i + 1) ≤ 256 ^ 8 := Nat.pow_le_pow_right (by decide) (by omega)
        have h3 : (256 : Nat) ^ 8 = 2 ^ 64 := by decide
        rw [Nat.pow_succ] at h2
        omega
      have hby : (l.getD i 0).toNat < 256 := (l.getD i 0).toNat_lt
      have hg : (bytesV (l.take size))[i]? = some (.int .u8 (l.getD i 0).toNat) := by
        rw [bytesV_get (by omega)]
        simp [List.getD, List.getElem?_take, hi]
      obtain ⟨p, hp1, hp2⟩ : ∃ p, aIndexAddr PP t_L_uint8 (.slice (some ⟨k, o, none⟩) size c) (.int .i64 (i : Int)) = some p ∧ aLoad false 1 ⟨H, none⟩ p = some (.int .u8 (l.getD i 0).toNat) := by
        refine ⟨rdPtr (.slice (some ⟨k, o, none⟩) size c) i, ?_, hrd.load1 (by omega) hg none⟩
        have := hrd.index (P := PP) (k := .i64) u_L_uint8 sz_uint8 (i := (i : Int)) (by omega) (by omega)
        simpa using this
      have hcv : ∀ st, aConv PP t_uint8 t_uint64 (.int .u8 (l.getD i 0).toNat) st = some (.int .u64 (((l.getD i 0).toNat : Nat) : Int), st) := by
        intro st
        simp only [aConv, u_uint8, u_uint64]
        rw [wrap64_nat (Nat.lt_trans hby (by decide))]
      have hor : getN (l.take i) * 256 ||| (l.getD i 0).toNat = getN (l.take (i + 1)) := by rw [shl_or _ _ hby, getN_take l i hil]
      have hgc : gc H.length [.int .u64 (getN (l.take (i + 1))), .slice (some ⟨k, o, none⟩) size c, .int .i64 size, .int .i64 ((i + 1 : Nat) : Int)] ⟨H, none⟩ = ([.int .u64 (getN (l.take (i + 1))), .slice (some ⟨k, o, none⟩) size c, .int .i64 size, .int .i64 ((i + 1 : Nat) : Int)], ⟨H, none⟩) := gc_same (by simp [hkl])
      refine ⟨_, _, ?_, hgc, trivial⟩
      simp only [num_get_uint64.loop5s, num_get_uint64.loop5, mach, Nat.reduceAdd, Nat.reduceLeDiff, Int.reduceEq, Int.reduceLT, Int.reduceLE, hlt', hp1, hp2, bin_shl8_64 hb2, hcv, bin_or hb2 (Nat.lt_trans hby (by decide)), hor, hw])
    (fun _ _ => by simp only [num_get_uint64.loop5s, num_get_uint64.loop5, mach, Nat.reduceAdd, Nat.reduceLeDiff, Int.reduceEq, Int.reduceLT, Int.reduceLE, Int.lt_irrefl]) () [.int .u64 0, .slice (some ⟨k, o, none⟩) size c, .int .i64 size, .int .i64 0] ⟨H, none⟩ trivial (gc_same (by simp [hkl]))
  rw [acall_eq, num_get_uint64.eq]
  simp only [num_get_uint64.sh, mach, Nat.reduceAdd, Nat.reduceLeDiff, Int.reduceEq, Int.reduceLT, Int.reduceLE, sl_len u_L_uint8, h1, hsl, hloop, num_get_uint64.j2]
  exact fin_lit0 rfl rfl
theorem Get64_ok {k o n c : Nat} {bs : List Value} {t : TypeId} {own : Bool} {l : List UInt8} (hk : H[k]? = some (.cells bs t own)) (ho : o ≤ bs.length) (hl : (bs.drop o).take n = bytesV l) (hn : l.length = n) (hc : n ≤ c) (hcu : c < 100000) (hsn : 8 ≤ n) : acall PP TT n_num_Get64 [.slice (some ⟨k, o, none⟩) n c] H = some (.tuple #[.int .u64 (getN (l.take 8)), .bool true], H, none) := by
  have h := get_uint64_ok hk ho hl hn hc hcu (size := 8) (Nat.le_refl _) hsn
  rw [acall_eq, num_Get64.eq]
  rw [show ((8 : Nat) : Int) = 8 from rfl] at h
  simp only [num_Get64.sh, mach, Nat.reduceAdd, Nat.reduceLeDiff, Int.reduceEq, Int.reduceLT, Int.reduceLE, h]
  exact fin_lit0 rfl rfl

/-! ### A sum's bytes -/
theorem zero4 : z_A4_uint8 = bytesV [0, 0, 0, 0] := by kernel_rfl
theorem four_of {l : List UInt8} (h : l.length = 4) : ∃ a b c d, l = [a, b, c, d] := by
  match l, h with
  | [a, b, c, d], _ => exact ⟨a, b, c, d, rfl⟩
theorem csum_ok' {x : Value} {l : List UInt8} {H : List Blk} (hr : Rd H x l.length (bytesV l)) (hv : ∀ r ∈ vrefs x, r < H.length) (hl : l.length < 1000000) : acall PP TT n_crc_Sum [x] H = some (.int .u32 (crcMore 0 l), H, none) := csum_ok x l hr hv hl
theorem fin_arr {H l : List Blk} {n0 : Nat} (hn : H.length = n0) (b : List UInt8) : fin PP false n0 [.agg (bytesV b).toArray] ⟨H ++ l, none⟩ = some (.agg (bytesV b).toArray, H, none) := by
  subst hn
  refine fin_of (l := l) (l' := l) (vs' := [.agg (bytesV b).toArray]) ?_ (by simp [bytesV_refs]) rfl
  simp only [frzL, frz_agg _ 7 _ _ (by_noSl b)]
theorem ix4 (n k : Nat) (h : k < 4) {j : IntKind} : aIndexAddr PP t_A4_uint8 (.pointer (some ⟨n, 0, none⟩)) (.int j (k : Int)) = some (.pointer (some ⟨n, k, none⟩)) := by
  have := ix_arr (j := j) (b := n) (o := 0) (k := 4) (n := k) u_A4_uint8 sz_uint8 h
  rwa [Nat.zero_add, Nat.mul_one] at this
theorem sseal_ok {v : Value} {l : List UInt8} (hv : Rd H v l.length (bytesV l)) (hr : ∀ r ∈ vrefs v, r < H.length) (hl : l.length ≤ 1000) : acall PP TT n_seal_sum [v] H = some (.agg (bytesV (le4 (crcMore 0 l))).toArray, H, none) := by
  have hH : ∀ G : List Blk, ∀ r ∈ vrefs v, r < (H ++ G).length := fun G r h => by have := hr r h; simp; omega
  have h1 := csum_ok' (hv.app (l := [.cells z_A4_uint8 t_A4_uint8 true, .cells z_A4_uint8 t_A4_uint8 true])) (hH _) (by omega)
  have h2 := Put32_ok (H := H ++ [.cells z_A4_uint8 t_A4_uint8 true, .cells z_A4_uint8 t_A4_uint8 true]) (v := .slice none 0 0) (a := []) .nil (by simp) (by decide) (crcMore_lt (by decide : (0 : Nat) < 2 ^ 32) l)
  obtain ⟨a, b, c, d, hbe⟩ := four_of (be_len (crcMore 0 l) 4)
  have hle : le4 (crcMore 0 l) = [d, c, b, a] := by unfold le4; rw [hbe]; rfl
  rw [hbe] at h2
  have hsl : ∀ (n : Nat) (st : AS), aSlice PP t_A4_uint8 (.pointer (some ⟨n, 0, none⟩)) none none none st = some (.slice (some ⟨n, 0, none⟩) 4 4) := fun n st => slice_all u_A4_uint8 sz_uint8 (by unfold UNK; omega)
  have hcp : ∀ (F : Value → AS → Option (Value × List Blk × Option Nat)), eBuiltin PP .copy #[t_L_uint8, t_L_uint8] [.slice (some ⟨H.length + 1, 0, none⟩) 4 4, tSl ([] ++ [a, b, c, d]).length (bytesV ([] ++ [a, b, c, d]))] ⟨H ++ [.cells z_A4_uint8 t_A4_uint8 true, .cells z_A4_uint8 t_A4_uint8 true], none⟩ F = F (.int .i64 4) ⟨H ++ [.cells z_A4_uint8 t_A4_uint8 true, .cells (bytesV [a, b, c, d]) t_A4_uint8 true], none⟩ := by
    intro F
    have hsrc : srcCells 1 (H ++ [Blk.cells z_A4_uint8 t_A4_uint8 true, .cells z_A4_uint8 t_A4_uint8 true]) (tSl ([] ++ [a, b, c, d]).length (bytesV ([] ++ [a, b, c, d]))) = some (4, bytesV [a, b, c, d]) := src_tree rfl rfl
    have := copy_own (P := PP) (t := t_L_uint8) (t' := t_L_uint8) (st := ⟨H ++ [Blk.cells z_A4_uint8 t_A4_uint8 true, .cells z_A4_uint8 t_A4_uint8 true], none⟩) (k := H.length + 1) (o := 0) (len := 4) (c := 4) (q := 4) (cs := z_A4_uint8) (et := t_A4_uint8) F u_L_uint8 sz_uint8 (by simp) hsrc rfl rfl (by decide) (by rw [zl_A4_uint8]; exact Nat.le_refl _) rfl (bytesV_refs _)
    rw [this, List.take_of_length_le (by rw [bytesV_len]; exact Nat.le_refl _), putCells_all (by rfl), set_app]
    rfl
  have e3 : ∀ n, aIndexAddr PP t_A4_uint8 (.pointer (some ⟨n, 0, none⟩)) (.int .i64 3) = some (.pointer (some ⟨n, 3, none⟩)) := fun n => ix4 n 3 (by decide)
  have e2 : ∀ n, aIndexAddr PP t_A4_uint8 (.pointer (some ⟨n, 0, none⟩)) (.int .i64 2) = some (.pointer (some ⟨n, 2, none⟩)) := fun n => ix4 n 2 (by decide)
  have e1 : ∀ n, aIndexAddr PP t_A4_uint8 (.pointer (some ⟨n, 0, none⟩)) (.int .i64 1) = some (.pointer (some ⟨n, 1, none⟩)) := fun n => ix4 n 1 (by decide)
  have e0 : ∀ n, aIndexAddr PP t_A4_uint8 (.pointer (some ⟨n, 0, none⟩)) (.int .i64 0) = some (.pointer (some ⟨n, 0, none⟩)) := fun n => ix4 n 0 (by decide)
  rw [acall_eq, seal_sum.eq, hle]
  have hv4 : ∀ n : Nat, veq (.slice (some ⟨n, 0, none⟩) 4 4) (.slice (some ⟨n, 0, none⟩) 4 4) = true := fun n => veq_sl
  have hbt : (some true == some true) = true := rfl
  simp only [List.nil_append, List.length_cons, List.length_nil, Nat.zero_add, Nat.reduceAdd] at hcp h2
  have hbl : ∀ a b c d : UInt8, bytesV [a, b, c, d] = [.int .u8 a.toNat, .int .u8 b.toNat, .int .u8 c.toNat, .int .u8 d.toNat] := fun _ _ _ _ => rfl
  simp only [hbl] at hcp h2
  simp only [seal_sum.sh, mach, Nat.reduceAdd, Nat.reduceLeDiff, Int.reduceEq, Int.reduceLT, Int.reduceLE, zg_A4_uint8, box_lit, za_A4_uint8, hsl, h1, h2, hv4, hbt, hcp, e3, e2, e1, e0, hbl, zl_A4_uint8]
  exact fin_arr (H := H) (l := [.cells (bytesV [d, c, b, a]) t_A4_uint8 true, .cells (bytesV [d, c, b, a]) t_A4_uint8 true]) (n0 := H.length) rfl [d, c, b, a]
end
end DK
end Go.Proofs.YtadllcgmimbjdaaGreat

end
section
namespace Go.Proofs.YtadllcgmimbjdaaGreat
open Go Go.Am Go.Dsk
set_option linter.unusedVariables false
namespace DK
section
variable {H : List Blk}
theorem le4_len (x : Nat) : (le4 x).length = 4 := by simp [le4, be_len]
theorem sput_ok {v : Value} {l : List UInt8} (hv : Rd H v l.length (bytesV l)) (hr : ∀ r ∈ vrefs v, r < H.length) (h0 : 0 < l.length) (hl : l.length ≤ 1000) : acall PP TT n_seal_Put [v] H = some (tSl (sealed l).length (bytesV (sealed l)), H, none) := by
  have h1 := sseal_ok hv hr hl
  generalize hs : le4 (crcMore 0 l) = s at h1
  have hsl4 : s.length = 4 := by rw [← hs]; exact le4_len _
  have hsd : sealed l = l ++ s := by unfold sealed; rw [hs]
  have hlen := fun st : AS => hv.len (P := PP) u_L_uint8 st
  have hw : IntKind.i64.wrap ((l.length : Int) + 4) = ((l.length + 4 : Nat) : Int) := by rw [wrap_i64 ⟨by omega, by omega⟩]; omega
  have hmk := make_by (n := l.length + 4) (l.length + 4) (Nat.le_refl _) (by omega) ⟨H ++ [.cells (bytesV s) t_A4_uint8 true], none⟩
  have hall : ∀ (n : Nat) (st : AS), aSlice PP t_A4_uint8 (.pointer (some ⟨n, 0, none⟩)) none none none st = some (.slice (some ⟨n, 0, none⟩) 4 4) := fun n st => slice_all u_A4_uint8 sz_uint8 (by unfold UNK; omega)
  have hput : putCells z_A4_uint8 0 (bytesV s) = bytesV s := putCells_all (by rw [bytesV_len, hsl4, zl_A4_uint8])
  have hsrc1 : srcCells 1 (H ++ [Blk.cells (bytesV s) t_A4_uint8 true, byB (List.replicate (l.length + 4) 0)]) v = some (l.length, bytesV l) := (hv.app (l := _)).src (size := 1) (by rw [bytesV_len, Nat.mul_one]) (by_cell l)
  have hcp1 := fun F => copy_own (P := PP) (t := t_L_uint8) (t' := t_L_uint8) (R := Value × List Blk × Option Nat) (st := ⟨H ++ [Blk.cells (bytesV s) t_A4_uint8 true, byB (List.replicate (l.length + 4) 0)], none⟩) (k := H.length + 1) (o := 0) (len := l.length + 4) (c := l.length + 4) (q := l.length) (cs := bytesV (List.replicate (l.length + 4) 0)) (et := t_uint8) F u_L_uint8 sz_uint8 (by simp) hsrc1 (bytesV_len l) (by omega) h0 (by simp [bytesV_len]) (by_all l) (bytesV_refs l)
  have e1 : putCells (bytesV (List.replicate (l.length + 4) 0)) 0 ((bytesV l).take l.length) = bytesV (l ++ [0, 0, 0, 0]) := by
    have hd : (bytesV (List.replicate (l.length + 4) 0)).drop l.length = bytesV [0, 0, 0, 0] := by
      unfold bytesV
      rw [← List.map_drop, List.drop_replicate, show l.length + 4 - l.length = 4 by omega]
      rfl
    rw [List.take_of_length_le (by rw [bytesV_len]; exact Nat.le_refl _)]
    unfold putCells
    rw [bytesV_app, bytesV_len, Nat.zero_add, hd]
    rfl
  have hset1 : (H ++ [Blk.cells (bytesV s) t_A4_uint8 true, byB (List.replicate (l.length + 4) 0)]).set (H.length + 1) (byB (l ++ [0, 0, 0, 0])) = H ++ [Blk.cells (bytesV s) t_A4_uint8 true, byB (l ++ [0, 0, 0, 0])] := by rw [set_app]; rfl
  have hlo := fun st => slice_lo (P := PP) (t := t_L_uint8) (b := H.length + 1) (o := 0) (n := l.length + 4) (c := l.length + 4) (m := l.length) (j := .i64) (st := st) u_L_uint8 sz_uint8 (by omega) (Nat.le_refl _) (by unfold UNK; omega)
  rw [Nat.zero_add, Nat.mul_one, show l.length + 4 - l.length = 4 by omega] at hlo
  have hsrc2 : srcCells 1 (H ++ [Blk.cells (bytesV s) t_A4_uint8 true, byB (l ++ [0, 0, 0, 0])]) (.slice (some ⟨H.length, 0, none⟩) 4 4) = some (4, bytesV s) := by
    have hrd : Rd (H ++ [Blk.cells (bytesV s) t_A4_uint8 true, byB (l ++ [0, 0, 0, 0])]) (.slice (some ⟨H.length, 0, none⟩) 4 4) 4 (bytesV s) := .own (bs := bytesV s) (t := t_A4_uint8) (own := true) (by simp) (by simp) (by rw [List.drop_zero]; exact List.take_length)
    exact hrd.src (size := 1) (by rw [bytesV_len, hsl4]) (by_cell s)
  have hcp2 := fun F => copy_own (P := PP) (t := t_L_uint8) (t' := t_L_uint8) (R := Value × List Blk × Option Nat) (st := ⟨H ++ [Blk.cells (bytesV s) t_A4_uint8 true, byB (l ++ [0, 0, 0, 0])], none⟩) (k := H.length + 1) (o := l.length) (len := 4) (c := 4) (q := 4) (cs := bytesV (l ++ [0, 0, 0, 0])) (et := t_uint8) F u_L_uint8 sz_uint8 (by simp) hsrc2 (by rw [bytesV_len, hsl4]) rfl (by decide) (by simp [bytesV_len]) (by_all s) (bytesV_refs s)
  have e2 : putCells (bytesV (l ++ [0, 0, 0, 0])) l.length ((bytesV s).take 4) = bytesV (l ++ s) := by
    rw [List.take_of_length_le (by rw [bytesV_len, hsl4]; exact Nat.le_refl _)]
    unfold putCells
    rw [bytesV_app, List.take_append_of_le_length (by rw [bytesV_len]; exact Nat.le_refl _), List.take_of_length_le (by rw [bytesV_len]; exact Nat.le_refl _), List.drop_of_length_le (by simp [bytesV_len, hsl4]), List.append_nil, bytesV_app]
  have hset2 : (H ++ [Blk.cells (bytesV s) t_A4_uint8 true, byB (l ++ [0, 0, 0, 0])]).set (H.length + 1) (byB (l ++ s)) = H ++ [Blk.cells (bytesV s) t_A4_uint8 true, byB (l ++ s)] := by rw [set_app]; rfl
  simp only [e1, hset1] at hcp1
  simp only [e2, hset2] at hcp2
  have hv4 : ∀ n : Nat, veq (.slice (some ⟨n, 0, none⟩) 4 4) (.slice (some ⟨n, 0, none⟩) 4 4) = true := fun n => veq_sl
  have hbt : (some true == some true) = true := rfl
  simp only [len_app, List.length_cons, List.length_nil, Nat.zero_add] at hmk
  rw [acall_eq, seal_Put.eq, hsd, List.length_append, hsl4]
  simp only [seal_Put.sh, mach, Nat.reduceAdd, Nat.reduceLeDiff, Int.reduceEq, Int.reduceLT, Int.reduceLE, h1, zg_A4_uint8, box_lit, za_A4_uint8, bytesV_len, hsl4, zl_A4_uint8, by_all, bytesV_refs, hput, hlen, hw, hmk, newBlk_app, hall, hcp1, hv4, hbt, hlo, hcp2]
  exact fin_row (l := [.cells (bytesV s) t_A4_uint8 true, byB (l ++ s)]) (k := 1) (n := l.length + 4) rfl sz_uint8 (by rw [bytesV_len]; simp [hsl4]) (by_noSl _) (bytesV_refs _) rfl

theorem rec_ok (n w : Nat) (hn : n < 2 ^ 32) (hw : w < 2 ^ 64) (H : List Blk) : acall PP TT n_seal_Record [.int .u32 n, .int .u64 w] H = some (.agg (rec n w).cells.toArray, H, none) := by
  have hrt : ∀ (l : List UInt8) (G : List Blk), Rd G (tSl l.length (bytesV l)) l.length (bytesV l) := fun l G => .tree _ _
  have hrr : ∀ (l : List UInt8) (G : List Blk), ∀ r ∈ vrefs (tSl l.length (bytesV l)), r < G.length := fun l G => by simp [bytesV_refs]
  have h1 := Put32_ok (H := H ++ [.cells z_api_Sector t_api_Sector true, .cells z_api_Sector t_api_Sector true]) (v := .slice none 0 0) (a := []) .nil (by simp) (by decide) hn
  have h2 := Put64_ok (H := H ++ [.cells z_api_Sector t_api_Sector true, .cells z_api_Sector t_api_Sector true]) (hrt ([] ++ be n 4) _) (hrr ([] ++ be n 4) _) (by rw [List.nil_append, be_len]; decide) hw
  have h3 := sput_ok (H := H ++ [.cells z_api_Sector t_api_Sector true, .cells z_api_Sector t_api_Sector true]) (hrt ([] ++ be n 4 ++ be w 8) _) (hrr ([] ++ be n 4 ++ be w 8) _) (by simp [be_len]) (by simp [be_len])
  have hrec : sealed ([] ++ be n 4 ++ be w 8) = (rec n w).val := rfl
  rw [hrec] at h3
  simp only [List.nil_append] at h1 h2 h3
  have hall : ∀ (k : Nat) (st : AS), aSlice PP t_api_Sector (.pointer (some ⟨k, 0, none⟩)) none none none st = some (.slice (some ⟨k, 0, none⟩) 16 16) := fun k st => slice_all u_api_Sector sz_uint8 (by unfold UNK; omega)
  have hsrc : srcCells 1 (H ++ [Blk.cells z_api_Sector t_api_Sector true, .cells z_api_Sector t_api_Sector true]) (tSl (rec n w).val.length (bytesV (rec n w).val)) = some (16, (rec n w).cells) := by
    have := (hrt (rec n w).val (H ++ [Blk.cells z_api_Sector t_api_Sector true, .cells z_api_Sector t_api_Sector true])).src (size := 1) (by rw [bytesV_len, Nat.mul_one]) (by_cell _)
    rw [(rec n w).2] at this ⊢
    exact this
  have hcp := fun F => copy_own (P := PP) (t := t_L_uint8) (t' := t_L_uint8) (R := Value × List Blk × Option Nat) (st := ⟨H ++ [Blk.cells z_api_Sector t_api_Sector true, .cells z_api_Sector t_api_Sector true], none⟩) (k := H.length + 1) (o := 0) (len := 16) (c := 16) (q := 16) (cs := z_api_Sector) (et := t_api_Sector) F u_L_uint8 sz_uint8 (by simp) hsrc (rec n w).len rfl (by decide) (by rw [zl_api_Sector]; exact Nat.le_refl _) (sec_all _) (sec_refs _)
  have hset : (H ++ [Blk.cells z_api_Sector t_api_Sector true, .cells z_api_Sector t_api_Sector true]).set (H.length + 1) (.cells (rec n w).cells t_api_Sector true) = H ++ [Blk.cells z_api_Sector t_api_Sector true, .cells (rec n w).cells t_api_Sector true] := by rw [set_app]; rfl
  rw [take_sec, put_sec] at hcp
  simp only [take_sec, put_sec, hset] at hcp
  have hv16 : ∀ k : Nat, veq (.slice (some ⟨k, 0, none⟩) 16 16) (.slice (some ⟨k, 0, none⟩) 16 16) = true := fun k => veq_sl
  have hbt : (some true == some true) = true := rfl
  rw [acall_eq, seal_Record.eq]
  simp only [seal_Record.sh, mach, Nat.reduceAdd, Nat.reduceLeDiff, Int.reduceEq, Int.reduceLT, Int.reduceLE, zg_api_Sector, box_lit, za_api_Sector, hall, h1, hv16, hbt, h2, h3, hcp, (rec n w).len, take_sec, zl_api_Sector, sec_all, sec_refs, put_sec]
  exact fin_sec (H := H) (l := [.cells (rec n w).cells t_api_Sector true, .cells (rec n w).cells t_api_Sector true]) rfl (rec n w)
theorem open_ok (s : Sec) (H : List Blk) : acall PP TT n_seal_Open [.agg s.cells.toArray] H = some (.tuple #[.int .u32 (opened s).1, .int .u64 (opened s).2.1, .bool (opened s).2.2], H, none) := by
  have hk : (H ++ [Blk.cells s.cells t_api_Sector true])[H.length]? = some (.cells s.cells t_api_Sector true) := by simp
  have g1 := Get32_ok (H := H ++ [Blk.cells s.cells t_api_Sector true]) (k := H.length) (o := 0) (n := 16) (c := 16) (l := s.val) hk (by omega) (by rw [List.drop_zero]; exact take_sec s) s.2 (Nat.le_refl _) (by decide) (by decide)
  have g2 := Get64_ok (H := H ++ [Blk.cells s.cells t_api_Sector true]) (k := H.length) (o := 4) (n := 12) (c := 12) (l := s.val.drop 4) hk (by rw [s.len]; decide) (by
    rw [List.take_of_length_le (by rw [List.length_drop, s.len]; exact Nat.le_refl _)]
    simp [Sec.cells, bytesV, List.map_drop]) (by simp [s.2]) (Nat.le_refl _) (by decide) (by decide)
  have hall : ∀ (k : Nat) (st : AS), aSlice PP t_api_Sector (.pointer (some ⟨k, 0, none⟩)) none none none st = some (.slice (some ⟨k, 0, none⟩) 16 16) := fun k st => slice_all u_api_Sector sz_uint8 (by unfold UNK; omega)
  have hfr : ∀ (k : Nat) (st : AS), aSlice PP t_api_Sector (.pointer (some ⟨k, 0, none⟩)) (some (.int .i64 4)) none none st = some (.slice (some ⟨k, 4, none⟩) 12 12) := fun k st => slice_from (m := 4) u_api_Sector sz_uint8 (by decide) (by unfold UNK; omega)
  have b1 : getN (s.val.take 4) < 2 ^ 32 := by
    have := getN_lt (s.val.take 4)
    rw [List.length_take, s.2] at this
    exact this
  have b2 : getN ((s.val.drop 4).take 8) < 2 ^ 64 := by
    have := getN_lt ((s.val.drop 4).take 8)
    rw [List.length_take, List.length_drop, s.2] at this
    exact this
  have hrc := rec_ok _ _ b1 b2 (H ++ [Blk.cells s.cells t_api_Sector true])
  have hbt : (some true == some true) = true := rfl
  have hvq : veq (.agg s.cells.toArray) (.agg s.cells.toArray) = true := veq_agg s.cells (bytesV_all _ (fun _ => rfl) _)
  rw [acall_eq, seal_Open.eq]
  by_cases he : s = rec (getN (s.val.take 4)) (getN ((s.val.drop 4).take 8))
  · have ho : opened s = (getN (s.val.take 4), getN ((s.val.drop 4).take 8), true) := by unfold opened; rw [if_pos he]
    have hd : (!decide (s = rec (getN (s.val.take 4)) (getN ((s.val.drop 4).take 8)))) = false := by simpa using he
    rw [ho]
    simp only [seal_Open.sh, mach, Nat.reduceAdd, Nat.reduceLeDiff, Int.reduceEq, Int.reduceLT, Int.reduceLE, box_lit, sec_all, hall, g1, hfr, g2, s.len, take_sec, hrc, hvq, hbt, neq_sec, hd]
    exact fin_lit rfl rfl rfl
  · have ho : opened s = (0, 0, false) := by unfold opened; rw [if_neg he]
    have hd : (!decide (s = rec (getN (s.val.take 4)) (getN ((s.val.drop 4).take 8)))) = true := by simpa using he
    rw [ho]
    simp only [seal_Open.sh, mach, Nat.reduceAdd, Nat.reduceLeDiff, Int.reduceEq, Int.reduceLT, Int.reduceLE, box_lit, sec_all, hall, g1, hfr, g2, s.len, take_sec, hrc, hvq, hbt, neq_sec, hd]
    exact fin_lit rfl rfl rfl
end
end DK
end Go.Proofs.YtadllcgmimbjdaaGreat

end
section
namespace Go.Proofs.YtadllcgmimbjdaaGreat
open Go Go.Am Go.Dsk
set_option linter.unusedVariables false
namespace DK
section
variable {H : List Blk} {b kr km : Nat} {d : Dk}
abbrev rgC (base size : Nat) : List Value := [.int .i64 (base : Int), .int .i64 (size : Int)]
abbrev enC (x : Nat × Nat) : List Value := [.int .u32 (x.1 : Int), .int .u64 (x.2 : Int)]
theorem all_rg (base size : Nat) : allCells (rgC base size) = true := rfl
theorem good_ok {base size : Nat} (h : 2 ≤ size ∧ size ≤ 8 ∧ base ≤ 1024) (H : List Blk) : acall PP TT n_slots_ring_good [.agg (rgC base size).toArray] H = some (.bool true, H, none) := by
  have h1 : (size : Int) ≥ 2 := by omega
  have h1' : (2 : Int) ≤ (size : Int) := by omega
  have h2 : (size : Int) ≤ 8 := by omega
  have h3 : (base : Int) ≥ 0 := by omega
  have h3' : (0 : Int) ≤ (base : Int) := by omega
  have h4 : (base : Int) ≤ 1024 := by omega
  rw [acall_eq, slots_ring_good.eq]
  simp only [slots_ring_good.sh, mach, Nat.reduceAdd, Nat.reduceLeDiff, Int.reduceEq, Int.reduceLT, Int.reduceLE, fa_slots_ring_0, fa_slots_ring_1, h1, h1', h2, h3, h3', h4]
  exact fin_lit rfl rfl rfl
theorem place_ok {base size n : Nat} (h : 2 ≤ size ∧ size ≤ 8 ∧ base ≤ 1024) (hn : n < 2 ^ 32) (H : List Blk) : acall PP TT n_slots_ring_place [.agg (rgC base size).toArray, .int .u32 (n : Int)] H = some (.int .i64 ((base + n % size : Nat) : Int), H, none) := by
  have c1 : ∀ st, aConv PP t_int t_uint32 (.int .i64 (size : Int)) st = some (.int .u32 (size : Int), st) := by
    intro st; simp only [aConv, u_int, u_uint32]; rw [wrap32_nat (by omega)]
  have hm : n % size < size := Nat.mod_lt _ (by omega)
  have c2 : ∀ st, aConv PP t_uint32 t_int (.int .u32 ((n % size : Nat) : Int)) st = some (.int .i64 ((n % size : Nat) : Int), st) := by
    intro st; simp only [aConv, u_int, u_uint32]; rw [wrap_nat (by omega)]
  have hr : ∀ ox oy, aBin PP .rem t_uint32 ox oy (.int .u32 (n : Int)) (.int .u32 (size : Int)) = some (.int .u32 ((n % size : Nat) : Int)) := fun ox oy => rem_nat (by omega)
  have hw : IntKind.i64.wrap ((base : Int) + ((n % size : Nat) : Int)) = ((base + n % size : Nat) : Int) := by rw [wrap_i64 ⟨by omega, by omega⟩]; omega
  rw [acall_eq, slots_ring_place.eq]
  simp only [slots_ring_place.sh, mach, Nat.reduceAdd, Nat.reduceLeDiff, Int.reduceEq, Int.reduceLT, Int.reduceLE, fa_slots_ring_0, fa_slots_ring_1, c1, hr, c2, hw]
  exact fin_lit rfl rfl rfl
theorem on_ok (hd : At H b kr km d) {base size : Nat} (h : 2 ≤ size ∧ size ≤ 8 ∧ base ≤ 1024) : acall PP TT n_slots_ring_on [.agg (rgC base size).toArray, ptr b] H = some (.bool (decide (base + size ≤ d.safe.length)), H, none) := by
  have hf := hd.ok.few
  have hx := hd.app [.cells (rgC base size) t_slots_ring true]
  have hv : ∀ n : Int, veq (.int .i64 n) (.int .i64 n) = true := fun n => by simp [veq]
  have hbt : (some true == some true) = true := rfl
  have hw : IntKind.i64.wrap ((d.safe.length : Int) - (size : Int)) = (d.safe.length : Int) - (size : Int) := wrap_i64 ⟨by omega, by omega⟩
  have hdc : decide ((base : Int) ≤ (d.safe.length : Int) - (size : Int)) = decide (base + size ≤ d.safe.length) := by simp only [decide_eq_decide]; omega
  rw [acall_eq, slots_ring_on.eq]
  simp only [slots_ring_on.sh, mach, Nat.reduceAdd, Nat.reduceLeDiff, Int.reduceEq, Int.reduceLT, Int.reduceLE, good_ok h, fa_slots_ring_0, fa_slots_ring_1, size_ok hx, hv, hbt, hw, hdc]
  exact fin_lit rfl rfl rfl
theorem bd_en0 : aBuild PP t_slots_entry [] = some (.agg (enC (0, 0)).toArray) := by kernel_rfl
theorem bd_en (x y : Value) (hx : cellV x = true) (hy : cellV y = true) : ∀ n w : Nat, aBuild PP t_slots_entry [(0, .int .u32 (n : Int)), (1, .int .u64 (w : Int))] = some (.agg (enC (n, w)).toArray) := fun n w => by kernel_rfl
theorem z_en : z_slots_entry = enC (0, 0) := by kernel_rfl
theorem fin_en {H l : List Blk} {n0 : Nat} (hn : H.length = n0) (x : Nat × Nat) : fin PP false n0 [.agg (enC x).toArray] ⟨H ++ l, none⟩ = some (.agg (enC x).toArray, H, none) := by
  subst hn
  refine fin_of (l := l) (l' := l) (vs' := [.agg (enC x).toArray]) ?_ rfl rfl
  simp only [frzL, frz_agg _ 7 (enC x) _ rfl]

theorem sread_ok (hd : At H b kr km d) {base size at_ : Nat} (h : 2 ≤ size ∧ size ≤ 8 ∧ base ≤ 1024) (ha : at_ < 100000) : acall PP TT n_slots_ring_read [.agg (rgC base size).toArray, ptr b, .int .i64 (at_ : Int)] H = some (.agg (enC (slotAt d.read base size at_)).toArray, H, none) := by
  have hx := hd.app [.cells (rgC base size) t_slots_ring true, .cells (enC (0, 0)) t_slots_entry true]
  have hr := read_ok hx (at_ : Int)
  obtain ⟨l1, l2⟩ := opened_lt (d.read (at_ : Int)).1
  have hop := open_ok (d.read (at_ : Int)).1 (H ++ [.cells (rgC base size) t_slots_ring true, .cells (enC (0, 0)) t_slots_entry true, .cells (d.read (at_ : Int)).1.cells t_api_Sector true])
  have hpl := place_ok h l1 (H ++ [.cells (rgC base size) t_slots_ring true, .cells (enC (0, 0)) t_slots_entry true, .cells (d.read (at_ : Int)).1.cells t_api_Sector true])
  have e2 : ∀ (x : Nat × Nat), putCells (enC (0, 0)) 0 (enC x) = enC x := fun x => by simp [putCells]
  rw [acall_eq, slots_ring_read.eq]
  by_cases he : (d.read (at_ : Int)).2 = 0
  · cases hk : (opened (d.read (at_ : Int)).1).2.2 with
    | false =>
      have hs : slotAt d.read base size at_ = (0, 0) := by unfold slotAt; rw [if_neg (by rw [hk]; simp)]
      rw [hs]
      rw [hk] at hop
      simp only [slots_ring_read.sh, slots_ring_read.j0, mach, Nat.reduceAdd, Nat.reduceLeDiff, Int.reduceEq, Int.reduceLT, Int.reduceLE, zg_slots_entry, z_en, box_lit, hr, zg_api_Sector, za_api_Sector, zl_api_Sector, (d.read (at_ : Int)).1.len, sec_all, sec_refs, put_sec, take_sec, ne_err, he, hop, bd_en0, e2]
      exact fin_en (H := H) (l := [_, _, _]) rfl (0, 0)
    | true =>
      rw [hk] at hop
      by_cases hp : base + (opened (d.read (at_ : Int)).1).1 % size = at_
      · have hs : slotAt d.read base size at_ = ((opened (d.read (at_ : Int)).1).1, (opened (d.read (at_ : Int)).1).2.1) := by unfold slotAt; rw [if_pos ⟨he, hk, hp⟩]
        have hp' : ((base + (opened (d.read (at_ : Int)).1).1 % size : Nat) : Int) = (at_ : Int) := by omega
        rw [hs]
        simp only [slots_ring_read.sh, slots_ring_read.j0, slots_ring_read.j1, mach, Nat.reduceAdd, Nat.reduceLeDiff, Int.reduceEq, Int.reduceLT, Int.reduceLE, zg_slots_entry, z_en, box_lit, hr, zg_api_Sector, za_api_Sector, zl_api_Sector, (d.read (at_ : Int)).1.len, sec_all, sec_refs, put_sec, take_sec, ne_err, he, hop, hpl, hp', bd_en .nilFunc .nilFunc rfl rfl, e2]
        exact fin_en (H := H) (l := [_, _, _]) rfl (_, _)
      · have hs : slotAt d.read base size at_ = (0, 0) := by unfold slotAt; rw [if_neg (fun hc => hp hc.2.2)]
        have hp' : ¬ ((base + (opened (d.read (at_ : Int)).1).1 % size : Nat) : Int) = (at_ : Int) := by omega
        rw [hs]
        simp only [slots_ring_read.sh, slots_ring_read.j0, mach, Nat.reduceAdd, Nat.reduceLeDiff, Int.reduceEq, Int.reduceLT, Int.reduceLE, zg_slots_entry, z_en, box_lit, hr, zg_api_Sector, za_api_Sector, zl_api_Sector, (d.read (at_ : Int)).1.len, sec_all, sec_refs, put_sec, take_sec, ne_err, he, hop, hpl, hp', bd_en0, e2]
        exact fin_en (H := H) (l := [_, _, _]) rfl (0, 0)
  · have hs : slotAt d.read base size at_ = (0, 0) := by unfold slotAt; rw [if_neg (fun hc => he hc.1)]
    rw [hs]
    simp only [slots_ring_read.sh, mach, Nat.reduceAdd, Nat.reduceLeDiff, Int.reduceEq, Int.reduceLT, Int.reduceLE, zg_slots_entry, z_en, box_lit, hr, zg_api_Sector, za_api_Sector, zl_api_Sector, (d.read (at_ : Int)).1.len, sec_all, sec_refs, put_sec, take_sec, ne_err, he, bd_en0, e2]
    exact fin_en (H := H) (l := [_, _, _]) rfl (0, 0)
end
end DK
end Go.Proofs.YtadllcgmimbjdaaGreat

end
section
namespace Go.Proofs.YtadllcgmimbjdaaGreat
open Go Go.Am Go.Dsk
set_option linter.unusedVariables false
namespace DK
section
variable {H : List Blk} {b kr km : Nat} {d : Dk}
theorem fa_en : FlatAgg PP t_slots_entry := ⟨by kernel_rfl, by kernel_rfl, by kernel_rfl⟩
theorem tok_u32 {n : Nat} (h : n < 2 ^ 32) : TOk PP t_uint32 [.int .u32 (n : Int)] := by
  have h1 : IntKind.u32.min = 0 := by kernel_rfl
  have h2 : IntKind.u32.max = 4294967295 := by kernel_rfl
  exact .int _ u_uint32 ⟨by rw [h1]; omega, by rw [h2]; omega⟩
theorem tok_u64 {n : Nat} (h : n < 2 ^ 64) : TOk PP t_uint64 [.int .u64 (n : Int)] := by
  have h1 : IntKind.u64.min = 0 := by kernel_rfl
  have h2 : IntKind.u64.max = 18446744073709551615 := by kernel_rfl
  exact .int _ u_uint64 ⟨by rw [h1]; omega, by rw [h2]; omega⟩
theorem tok_en {x : Nat × Nat} (h : x.1 < 2 ^ 32 ∧ x.2 < 2 ^ 64) : TOk PP t_slots_entry (enC x) := by
  have := TOk.struct' (P := PP) (ps := [[.int .u32 (x.1 : Int)], [.int .u64 (x.2 : Int)]]) us_slots_entry ty_slots_entry ⟨tok_u32 h.1, tok_u64 h.2, trivial⟩
  exact this
theorem enC_inj {x y : Nat × Nat} : enC x = enC y ↔ x = y := by
  constructor
  · intro h
    simp only [enC, List.cons.injEq, Value.int.injEq, true_and, and_true] at h
    exact Prod.ext (by omega) (by omega)
  · intro h; rw [h]
theorem neq_en {x y : Nat × Nat} (hx : x.1 < 2 ^ 32 ∧ x.2 < 2 ^ 64) (hy : y.1 < 2 ^ 32 ∧ y.2 < 2 ^ 64) (ox oy : Operand) : aBin PP .neq t_slots_entry ox oy (.agg (enC x).toArray) (.agg (enC y).toArray) = some (.bool (!decide (x = y))) := by
  rw [bin_neq_flat (ox := ox) (oy := oy) fa_en (tok_en hx) (tok_en hy)]
  simp only [enC_inj]
theorem put_en (x y : Nat × Nat) : putCells (enC x) 0 (enC y) = enC y := by simp [putCells]
theorem en_flat (x : Nat × Nat) : blkRefs (.cells (enC x) t_slots_entry true) = [] := by simp [blkRefs_cells]

theorem latest_ok (hd : At H b kr km d) {base size : Nat} (h : 2 ≤ size ∧ size ≤ 8 ∧ base ≤ 1024) : acall PP TT n_slots_ring_latest [.agg (rgC base size).toArray, ptr b] H = some (.agg (enC (latest d.read base size d.safe.length)).toArray, H, none) := by
  have hb := blk_lt hd.hb
  have hx := fun x => hd.app [Blk.cells (rgC base size) t_slots_ring true, .cells (enC (0, 0)) t_slots_entry true, .cells (enC x) t_slots_entry true]
  have hon := on_ok (hx (0, 0)) h
  rw [acall_eq, slots_ring_latest.eq]
  by_cases hl : base + size ≤ d.safe.length
  · have hlat : latest d.read base size d.safe.length = upto (fun i best => better (slotAt d.read base size (base + i)) best) size (0, 0) := by unfold latest; rw [if_pos hl]
    have hgc : ∀ (x : Nat × Nat) (X : List Blk) (k : Nat), (∀ z ∈ X, blkRefs z = []) → gc H.length [ptr b, ptr H.length, .pointer (some ⟨H.length + 1, 0, none⟩), .pointer (some ⟨H.length + 2, 0, none⟩), .int .i64 (size : Int), .int .i64 (k : Int)] ⟨H ++ ([Blk.cells (rgC base size) t_slots_ring true, .cells (enC (0, 0)) t_slots_entry true, .cells (enC x) t_slots_entry true] ++ X), none⟩ = ([ptr b, ptr H.length, .pointer (some ⟨H.length + 1, 0, none⟩), .pointer (some ⟨H.length + 2, 0, none⟩), .int .i64 (size : Int), .int .i64 (k : Int)], ⟨H ++ [Blk.cells (rgC base size) t_slots_ring true, .cells (enC (0, 0)) t_slots_entry true, .cells (enC x) t_slots_entry true], none⟩) := by
      intro x X k hX
      refine gc_flats [0, 1, 2] ?_ rfl ?_ (by simp) ?_ ?_
      · intro z hz
        simp only [List.cons_append, List.nil_append, List.mem_cons] at hz
        rcases hz with rfl | rfl | rfl | hz
        · simp [blkRefs_cells]
        · exact en_flat _
        · exact en_flat _
        · exact hX z hz
      · simp [news_old hb, news_own, news_own0]
      · simp [lren, vren, once, rn_own, rn_own0, findIx, rn, renum, hb]
      · simp [once]
    have hloop := loop_upto (n0 := H.length) (step := slots_ring_latest.loop5s (acall PP TT) loopG H.length) (len := size) (σ := Nat × Nat) (fun i x => ([ptr b, ptr H.length, .pointer (some ⟨H.length + 1, 0, none⟩), .pointer (some ⟨H.length + 2, 0, none⟩), .int .i64 (size : Int), .int .i64 i], ⟨H ++ [Blk.cells (rgC base size) t_slots_ring true, .cells (enC (0, 0)) t_slots_entry true, .cells (enC x) t_slots_entry true], none⟩)) (fun i best => better (slotAt d.read base size (base + i)) best) (fun _ x => x.1 < 2 ^ 32 ∧ x.2 < 2 ^ 64) (fun x => (.exit 0, [.pointer (some ⟨H.length + 1, 0, none⟩), .pointer (some ⟨H.length + 2, 0, none⟩)], ⟨H ++ [Blk.cells (rgC base size) t_slots_ring true, .cells (enC (0, 0)) t_slots_entry true, .cells (enC x) t_slots_entry true], none⟩))
      (fun i x hi hxl => by
        have hlt : (i : Int) < (size : Int) := by omega
        have hw := wrap_add1 (show i < 4611686018427387904 by omega)
        have hwb : IntKind.i64.wrap ((base : Int) + (i : Int)) = ((base + i : Nat) : Int) := by rw [wrap_i64 ⟨by omega, by omega⟩]; omega
        have hrd := sread_ok (hx x) h (at_ := base + i) (by omega)
        have hsl := slotAt_lt d.read base size (base + i)
        have hbl := better_lt hsl hxl
        generalize slotAt d.read base size (base + i) = y at hrd hsl hbl ⊢
        have hne := fun ox oy => neq_en (ox := ox) (oy := oy) hsl (y := (0, 0)) ⟨by decide, by decide⟩
        by_cases hy : y = (0, 0)
        · have hd0 : (!decide (y = (0, 0))) = false := by simpa using hy
          have hbt : better y x = x := by unfold better; rw [if_neg (by rw [hy]; simp)]
          rw [hbt]
          refine ⟨_, _, ?_, hgc x [Blk.cells (enC y) t_slots_entry true] (i + 1) (by simpa using en_flat y), hxl⟩
          simp only [slots_ring_latest.loop5s, slots_ring_latest.loop5, slots_ring_latest.j1, slots_ring_latest.j2, mach, Nat.reduceAdd, Nat.reduceLeDiff, Int.reduceEq, Int.reduceLT, Int.reduceLE, hlt, fa_slots_ring_0, hwb, hrd, zg_slots_entry, z_en, box_lit, put_en, bd_en0, hne, hd0, hw]
        · have hd1 : (!decide (y = (0, 0))) = true := by simpa using hy
          by_cases hg : x.1 < y.1
          · have hbt : better y x = y := by unfold better; rw [if_pos hg]
            have hg' : (x.1 : Int) < (y.1 : Int) := by omega
            rw [hbt]
            refine ⟨_, _, ?_, hgc y [Blk.cells (enC y) t_slots_entry true] (i + 1) (by simpa using en_flat y), hsl⟩
            simp only [slots_ring_latest.loop5s, slots_ring_latest.loop5, slots_ring_latest.j1, slots_ring_latest.j2, mach, Nat.reduceAdd, Nat.reduceLeDiff, Int.reduceEq, Int.reduceLT, Int.reduceLE, hlt, fa_slots_ring_0, fa_slots_entry_0, hwb, hrd, zg_slots_entry, z_en, box_lit, put_en, bd_en0, hne, hd1, hg', hw]
          · have hbt : better y x = x := by unfold better; rw [if_neg hg]
            have hg' : ¬ (x.1 : Int) < (y.1 : Int) := by omega
            rw [hbt]
            refine ⟨_, _, ?_, hgc x [Blk.cells (enC y) t_slots_entry true] (i + 1) (by simpa using en_flat y), hxl⟩
            simp only [slots_ring_latest.loop5s, slots_ring_latest.loop5, slots_ring_latest.j1, slots_ring_latest.j2, mach, Nat.reduceAdd, Nat.reduceLeDiff, Int.reduceEq, Int.reduceLT, Int.reduceLE, hlt, fa_slots_ring_0, fa_slots_entry_0, hwb, hrd, zg_slots_entry, z_en, box_lit, put_en, bd_en0, hne, hd1, hg', hw])
      (fun x _ => by simp only [slots_ring_latest.loop5s, slots_ring_latest.loop5, mach, Nat.reduceAdd, Nat.reduceLeDiff, Int.reduceEq, Int.reduceLT, Int.reduceLE, Int.lt_irrefl]) (0, 0) [ptr b, ptr H.length, .pointer (some ⟨H.length + 1, 0, none⟩), .pointer (some ⟨H.length + 2, 0, none⟩), .int .i64 (size : Int), .int .i64 0] ⟨H ++ [Blk.cells (rgC base size) t_slots_ring true, .cells (enC (0, 0)) t_slots_entry true, .cells (enC (0, 0)) t_slots_entry true], none⟩ ⟨by decide, by decide⟩ (by simpa using hgc (0, 0) [] 0 (by simp))
    rw [← hlat] at hloop
    simp only [slots_ring_latest.sh, mach, Nat.reduceAdd, Nat.reduceLeDiff, Int.reduceEq, Int.reduceLT, Int.reduceLE, zg_slots_entry, z_en, box_lit, hon, hl, fa_slots_ring_1, hloop, slots_ring_latest.j4, put_en]
    exact fin_en (H := H) (l := [_, _, _]) rfl (latest d.read base size d.safe.length)
  · have hlat : latest d.read base size d.safe.length = (0, 0) := by unfold latest; rw [if_neg hl]
    rw [hlat]
    simp only [slots_ring_latest.sh, mach, Nat.reduceAdd, Nat.reduceLeDiff, Int.reduceEq, Int.reduceLT, Int.reduceLE, zg_slots_entry, z_en, box_lit, hon, hl, put_en]
    exact fin_en (H := H) (l := [_, _, _]) rfl (0, 0)
theorem Latest_ok (hd : At H b kr km d) {base size : Nat} (h : 2 ≤ size ∧ size ≤ 8 ∧ base ≤ 1024) : acall PP TT n_slots_Latest [ptr b, .int .i64 (base : Int), .int .i64 (size : Int)] H = some (.tuple #[.int .u32 ((latest d.read base size d.safe.length).1 : Int), .int .u64 ((latest d.read base size d.safe.length).2 : Int)], H, none) := by
  have hbd : aBuild PP t_slots_ring [(0, .int .i64 (base : Int)), (1, .int .i64 (size : Int))] = some (.agg (rgC base size).toArray) := by kernel_rfl
  have hl := latest_ok hd h
  rw [acall_eq, slots_Latest.eq]
  simp only [slots_Latest.sh, mach, Nat.reduceAdd, Nat.reduceLeDiff, Int.reduceEq, Int.reduceLT, Int.reduceLE, hbd, hl, zg_slots_entry, z_en, box_lit, put_en, fa_slots_entry_0, fa_slots_entry_1]
  exact fin_lit rfl rfl rfl
theorem fn_boot (x y : Value) : aFn PP (.func (.func n_super_Boot_1) #[] #[]) [x, y] = some (n_super_Boot_1, [x, y]) := by kernel_rfl
theorem fn_log (x y : Value) : aFn PP (.func (.func n_actlog_log_of) #[] #[]) [x, y] = some (n_actlog_log_of, [x, y]) := by kernel_rfl
theorem boot_ok (hd : At H b kr km d) : acall PP TT n_super_Boot [ptr b] H = some (.int .u32 (((latest d.read 0 2 d.safe.length).2 % 2 ^ 32 : Nat) : Int), H, none) := by
  have h1 := Latest_ok hd (base := 0) (size := 2) ⟨by decide, by decide, by decide⟩
  have hc : ∀ (n : Nat) st, aConv PP t_uint64 t_uint32 (.int .u64 (n : Int)) st = some (.int .u32 ((n % 2 ^ 32 : Nat) : Int), st) := by
    intro n st; simp only [aConv, u_uint64, u_uint32]; rw [IntKind.wrap_u32]; congr 2
  have h2 : ∀ (x : Value) (n : Nat) H, acall PP TT n_super_Boot_1 [x, .int .u64 (n : Int)] H = some (.int .u32 ((n % 2 ^ 32 : Nat) : Int), H, none) := by
    intro x n H
    rw [acall_eq, super_Boot_1.eq]
    simp only [super_Boot_1.sh, mach, Nat.reduceAdd, Nat.reduceLeDiff, Int.reduceEq, Int.reduceLT, Int.reduceLE, hc]
    exact fin_lit0 rfl rfl
  rw [show ((0 : Nat) : Int) = 0 from rfl, show ((2 : Nat) : Int) = 2 from rfl] at h1
  rw [acall_eq, super_Boot.eq]
  simp only [super_Boot.sh, mach, Nat.reduceAdd, Nat.reduceLeDiff, Int.reduceEq, Int.reduceLT, Int.reduceLE, h1, fn_boot, h2]
  exact fin_lit0 rfl rfl
theorem z_log : z_actlog_log = rgC 0 0 := by kernel_rfl
theorem bd_log : aBuild PP t_actlog_log [(0, .int .i64 2), (1, .int .i64 4)] = some (.agg (rgC 2 4).toArray) := by kernel_rfl
theorem fin_rg {H l : List Blk} {n0 : Nat} (hn : H.length = n0) (x y : Nat) : fin PP false n0 [.agg (rgC x y).toArray] ⟨H ++ l, none⟩ = some (.agg (rgC x y).toArray, H, none) := by
  subst hn
  refine fin_of (l := l) (l' := l) (vs' := [.agg (rgC x y).toArray]) ?_ rfl rfl
  simp only [frzL, frz_agg _ 7 (rgC x y) _ rfl]
theorem hot_ok (hd : At H b kr km d) : acall PP TT n_actlog_Get [ptr b] H = some (.int .u64 ((latest d.read 2 4 d.safe.length).2 : Int), H, none) := by
  have h1 := Latest_ok (hd.app [.cells (rgC 2 4) t_actlog_log true]) (base := 2) (size := 4) ⟨by decide, by decide, by decide⟩
  rw [show ((2 : Nat) : Int) = 2 from rfl, show ((4 : Nat) : Int) = 4 from rfl] at h1
  have hh : acall PP TT n_actlog_here [] H = some (.agg (rgC 2 4).toArray, H, none) := by
    have hp : putCells (rgC 0 0) 0 (rgC 2 4) = rgC 2 4 := by simp [putCells]
    rw [acall_eq, actlog_here.eq]
    simp only [actlog_here.sh, mach, Nat.reduceAdd, Nat.reduceLeDiff, Int.reduceEq, Int.reduceLT, Int.reduceLE, zg_actlog_log, z_log, box_lit, bd_log, hp]
    exact fin_rg (H := H) (l := [_]) rfl 2 4
  have ho : acall PP TT n_actlog_log_of [.agg (rgC 2 4).toArray, ptr b] H = some (.tuple #[.int .u32 ((latest d.read 2 4 d.safe.length).1 : Int), .int .u64 ((latest d.read 2 4 d.safe.length).2 : Int)], H, none) := by
    rw [acall_eq, actlog_log_of.eq]
    have e2 : ((2 : Nat) : Int) = 2 := rfl
    have e4 : ((4 : Nat) : Int) = 4 := rfl
    simp only [actlog_log_of.sh, mach, Nat.reduceAdd, Nat.reduceLeDiff, Int.reduceEq, Int.reduceLT, Int.reduceLE, fa_actlog_log_0, fa_actlog_log_1, e2, e4] at h1 ⊢
    simp only [h1, mach, Nat.reduceAdd, Nat.reduceLeDiff, Int.reduceEq, Int.reduceLT, Int.reduceLE]
    exact fin_lit rfl rfl rfl
  rw [acall_eq, actlog_Get.eq]
  simp only [actlog_Get.sh, mach, Nat.reduceAdd, Nat.reduceLeDiff, Int.reduceEq, Int.reduceLT, Int.reduceLE, hh, fn_log, ho]
  exact fin_lit0 rfl rfl
theorem dirty_ok (hd : At H b kr km d) : acall PP TT n_dirty_Get [ptr b] H = some (.int .u64 ((latest d.read 6 2 d.safe.length).2 : Int), H, none) := by
  have h1 := Latest_ok (hd.app [.cells [ptr b] t_dirty_bitmap true]) (base := 6) (size := 2) ⟨by decide, by decide, by decide⟩
  rw [show ((6 : Nat) : Int) = 6 from rfl, show ((2 : Nat) : Int) = 2 from rfl] at h1
  have hb : aBuild PP t_dirty_bitmap [(0, ptr b)] = some (.agg [ptr b].toArray) := by kernel_rfl
  have hm : acall PP TT n_dirty_bitmap_mask [.agg [ptr b].toArray] H = some (.int .u64 ((latest d.read 6 2 d.safe.length).2 : Int), H, none) := by
    rw [acall_eq, dirty_bitmap_mask.eq]
    simp only [dirty_bitmap_mask.sh, mach, Nat.reduceAdd, Nat.reduceLeDiff, Int.reduceEq, Int.reduceLT, Int.reduceLE, fa_dirty_bitmap_0, h1]
    exact fin_lit rfl rfl rfl
  rw [acall_eq, dirty_Get.eq]
  simp only [dirty_Get.sh, mach, Nat.reduceAdd, Nat.reduceLeDiff, Int.reduceEq, Int.reduceLT, Int.reduceLE, hb, hm]
  exact fin_lit0 rfl rfl
def mtC (bt hot dirty : Nat) : List Value := [.int .u32 (bt : Int), .int .u64 (hot : Int), .int .u64 (dirty : Int)]
theorem look_meta (hd : At H b kr km d) : acall PP TT n_meta_Look [ptr b] H = some (.agg (mtC ((latest d.read 0 2 d.safe.length).2 % 2 ^ 32) (latest d.read 2 4 d.safe.length).2 (latest d.read 6 2 d.safe.length).2).toArray, H, none) := by
  have hx := hd.app [.cells z_meta_Meta t_meta_Meta true]
  have hb : ∀ x y z : Nat, aBuild PP t_meta_Meta [(0, .int .u32 (x : Int)), (1, .int .u64 (y : Int)), (2, .int .u64 (z : Int))] = some (.agg (mtC x y z).toArray) := fun x y z => by kernel_rfl
  have hz : z_meta_Meta = mtC 0 0 0 := by kernel_rfl
  have hp : ∀ x y z, putCells (mtC 0 0 0) 0 (mtC x y z) = mtC x y z := fun x y z => by simp [putCells, mtC]
  have ha : ∀ x y z, allCells (mtC x y z) = true := fun x y z => rfl
  have hr : ∀ x y z, lrefs (mtC x y z) = [] := fun x y z => rfl
  have hl : ∀ x y z, (mtC x y z).length = 3 := fun x y z => rfl
  have ht : ∀ x y z, List.take 3 (mtC x y z) = mtC x y z := fun x y z => rfl
  rw [acall_eq, meta_Look.eq]
  simp only [meta_Look.sh, mach, Nat.reduceAdd, Nat.reduceLeDiff, Int.reduceEq, Int.reduceLT, Int.reduceLE, zg_meta_Meta, box_lit, za_meta_Meta, boot_ok hx, hot_ok hx, dirty_ok hx, hb]
  simp only [hz, hl, ha, hr, hp, ht, mach, Nat.reduceAdd, Nat.reduceLeDiff, Int.reduceEq, Int.reduceLT, Int.reduceLE]
  refine fin_of (H0 := H) (l := [.cells (mtC ((latest d.read 0 2 d.safe.length).2 % 2 ^ 32) (latest d.read 2 4 d.safe.length).2 (latest d.read 6 2 d.safe.length).2) t_meta_Meta true]) (l' := [.cells (mtC ((latest d.read 0 2 d.safe.length).2 % 2 ^ 32) (latest d.read 2 4 d.safe.length).2 (latest d.read 6 2 d.safe.length).2) t_meta_Meta true]) (vs' := [.agg (mtC ((latest d.read 0 2 d.safe.length).2 % 2 ^ 32) (latest d.read 2 4 d.safe.length).2 (latest d.read 6 2 d.safe.length).2).toArray]) ?_ rfl rfl
  simp only [frzL, frz_agg _ 7 (mtC _ _ _) _ rfl]
theorem mine_ok (x : Nat) {y z : Nat} (hy : y < 2 ^ 64) (hz : z < 2 ^ 64) (H : List Blk) : acall PP TT n_meta_Mine [.agg (mtC x y z).toArray] H = some (.int .u64 ((y ||| z : Nat) : Int), H, none) := by
  rw [acall_eq, meta_Mine.eq]
  unfold mtC
  simp only [meta_Mine.sh, mach, Nat.reduceAdd, Nat.reduceLeDiff, Int.reduceEq, Int.reduceLT, Int.reduceLE, fa_meta_Meta_1, fa_meta_Meta_2, bin_or hy hz]
  exact fin_lit rfl rfl rfl
theorem known_ok {a ka ma : Nat} {da : Dk} (ha : At H a ka ma da) (hd : At H b kr km d) : acall PP TT n_compare_Known [ptr a, ptr b] H = some (.int .u64 ((knows da.read da.safe.length ||| knows d.read d.safe.length : Nat) : Int), H, none) := by
  have h1 := look_meta ha
  have h2 := look_meta hd
  have m1 := mine_ok ((latest da.read 0 2 da.safe.length).2 % 2 ^ 32) (latest_lt da.read 2 4 da.safe.length).2 (latest_lt da.read 6 2 da.safe.length).2 H
  have m2 := mine_ok ((latest d.read 0 2 d.safe.length).2 % 2 ^ 32) (latest_lt d.read 2 4 d.safe.length).2 (latest_lt d.read 6 2 d.safe.length).2 H
  have k1 : (latest da.read 2 4 da.safe.length).2 ||| (latest da.read 6 2 da.safe.length).2 < 2 ^ 64 := Nat.or_lt_two_pow (latest_lt ..).2 (latest_lt ..).2
  have k2 : (latest d.read 2 4 d.safe.length).2 ||| (latest d.read 6 2 d.safe.length).2 < 2 ^ 64 := Nat.or_lt_two_pow (latest_lt ..).2 (latest_lt ..).2
  rw [acall_eq, compare_Known.eq]
  simp only [compare_Known.sh, mach, Nat.reduceAdd, Nat.reduceLeDiff, Int.reduceEq, Int.reduceLT, Int.reduceLE, h1, h2, m1, m2, bin_or k1 k2, knows]
  exact fin_lit0 rfl rfl
end
end DK
end Go.Proofs.YtadllcgmimbjdaaGreat

end
