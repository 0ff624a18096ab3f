/- A part of the proof: Rk1, Rk2, Rk3, Rb1, Rb2, Rb3. Its conditions: none. -/
import Derived.Test.YtadllcgmimbjdaaGreatCmp1
import Derived.Test.YtadllcgmimbjdaaGreatDskP
import Derived.Test.YtadllcgmimbjdaaGreatAm32
set_option linter.all false
set_option linter.unusedVariables false
set_option linter.unusedSimpArgs false
set_option linter.unnecessarySimpa false
section
namespace Go.Proofs.YtadllcgmimbjdaaGreat
open Go Go.Am Go.Dsk
set_option linter.unusedVariables false
namespace DK

abbrev rdB (kr c : Nat) (d : Rf) : Blk := .cells [.slice (some ⟨kr, 0, none⟩) d.cl.length c, .int .i64 d.fuse, .bool d.broken, .int .i64 d.ops] t_twainref06_Disk true
abbrev clB (l : List Cl) : Blk := .cells (clRow l).flatten t_twainref06_Cell true
/-- a disk in a heap: its block, its row -/
structure RAt (H : List Blk) (b kr : Nat) (d : Rf) : Prop where
  hb : ∃ c, H[b]? = some (rdB kr c d)
  hr : H[kr]? = some (clB d.cl)
  few : d.cl.length ≤ 1024

section
variable {H : List Blk} {b kr : Nat} {d : Rf}
theorem RAt.app (h : RAt H b kr d) (l : List Blk) : RAt (H ++ l) b kr d := by
  obtain ⟨c, hc⟩ := h.hb
  exact ⟨⟨c, get_left hc l⟩, get_left h.hr l, h.few⟩
theorem RAt.ne (h : RAt H b kr d) : b ≠ kr := by
  obtain ⟨c, hc⟩ := h.hb
  intro e; rw [e, h.hr] at hc; simp at hc; exact absurd hc.2 (by decide)
def Fr2 (H H' : List Blk) (b kr : Nat) : Prop := H'.length = H.length ∧ ∀ k, k ≠ b → k ≠ kr → H'[k]? = H[k]?
theorem Fr2.refl {H : List Blk} {b kr : Nat} : Fr2 H H b kr := ⟨rfl, fun _ _ _ => rfl⟩

theorem rin_ok (h : RAt H b kr d) (at_ : Int) : acall PP TT n_P_twainref06_Disk_in [ptr b, .int .i64 at_] H = some (.bool (decide (d.has at_)), H, none) := by
  obtain ⟨c, hb⟩ := h.hb
  rw [acall_eq, P_twainref06_Disk_in.eq]
  by_cases h0 : 0 ≤ at_
  · simp only [P_twainref06_Disk_in.sh, mach, Nat.reduceAdd, Nat.reduceLeDiff, Int.reduceEq, Int.reduceLT, Int.reduceLE, nil_p, fa_twainref06_Disk_0, cellAt_eq hb, aLen, u_L_twainref06_Cell, h0, Rf.has]
    exact fin_lit0 rfl rfl
  · simp only [P_twainref06_Disk_in.sh, mach, Nat.reduceAdd, Nat.reduceLeDiff, Int.reduceEq, Int.reduceLT, Int.reduceLE, h0, Rf.has, false_and]
    exact fin_lit0 rfl rfl
theorem rburns_ok (h : RAt H b kr d) : ∃ c, acall PP TT n_P_twainref06_Disk_burns [ptr b] H = some (.bool d.burns.1, H.set b (rdB kr c d.burns.2), none) ∧ H[b]? = some (rdB kr c d) := by
  obtain ⟨c, hb⟩ := h.hb
  refine ⟨c, ?_, hb⟩
  have hlt := blk_lt hb
  rw [acall_eq, P_twainref06_Disk_burns.eq]
  cases hk : d.broken with
  | true =>
    have : d.burns = (true, d) := by simp [Rf.burns, hk]
    rw [this, set_same hb]
    simp only [P_twainref06_Disk_burns.sh, mach, Nat.reduceAdd, Nat.reduceLeDiff, Int.reduceEq, Int.reduceLT, Int.reduceLE, nil_p, fa_twainref06_Disk_2, cellAt_eq hb, hk]
    exact fin_old rfl rfl rfl
  | false =>
    by_cases hf : d.fuse = 0
    · have : d.burns = (true, { d with broken := true }) := by simp [Rf.burns, hk, hf]
      rw [this]
      simp only [P_twainref06_Disk_burns.sh, mach, Nat.reduceAdd, Nat.reduceLeDiff, Int.reduceEq, Int.reduceLT, Int.reduceLE, nil_p, fa_twainref06_Disk_1, fa_twainref06_Disk_2, cellAt_eq hb, storeL_eq hb, hk, hf]
      exact fin_old (by simp) rfl rfl
    · by_cases hp : 0 < d.fuse
      · have : d.burns = (false, { d with fuse := IntKind.i64.wrap (d.fuse - 1), ops := IntKind.i64.wrap (d.ops + 1) }) := by simp [Rf.burns, hk, hf, hp]
        rw [this]
        simp only [P_twainref06_Disk_burns.sh, P_twainref06_Disk_burns.j0, mach, Nat.reduceAdd, Nat.reduceLeDiff, Int.reduceEq, Int.reduceLT, Int.reduceLE, nil_p, fa_twainref06_Disk_1, fa_twainref06_Disk_2, fa_twainref06_Disk_3, cellAt_eq hb, storeL_eq hb, hk, hf, hp, cellAt_set hlt, storeL_set hlt, List.set_set]
        exact fin_old (by simp) rfl rfl
      · have : d.burns = (false, { d with ops := IntKind.i64.wrap (d.ops + 1) }) := by simp [Rf.burns, hk, hf, hp]
        rw [this]
        simp only [P_twainref06_Disk_burns.sh, P_twainref06_Disk_burns.j0, mach, Nat.reduceAdd, Nat.reduceLeDiff, Int.reduceEq, Int.reduceLT, Int.reduceLE, nil_p, fa_twainref06_Disk_1, fa_twainref06_Disk_2, fa_twainref06_Disk_3, cellAt_eq hb, storeL_eq hb, hk, hf, hp]
        exact fin_old (by simp) rfl rfl
theorem burns_cl (d : Rf) : d.burns.2.cl = d.cl := by
  unfold Rf.burns; split
  · rfl
  · split <;> rfl
theorem rburns_at (h : RAt H b kr d) {c : Nat} (hb : H[b]? = some (rdB kr c d)) : RAt (H.set b (rdB kr c d.burns.2)) b kr d.burns.2 :=
  ⟨⟨c, get_set_eq hb⟩, by rw [get_set_ne h.ne, h.hr, burns_cl], by rw [burns_cl]; exact h.few⟩

/-! ### A place in the row -/
theorem cl_ix {n c : Nat} {at_ : Int} (h : 0 ≤ at_ ∧ at_ < n) {k : IntKind} : aIndexAddr PP t_L_twainref06_Cell (.slice (some ⟨kr, 0, none⟩) n c) (.int k at_) = some (.pointer (some ⟨kr, at_.toNat * 33, none⟩)) := by
  obtain ⟨m, rfl⟩ : ∃ m : Nat, at_ = (m : Int) := ⟨at_.toNat, by omega⟩
  have := ix_sl (j := k) (b := kr) (o := 0) (k := n) (c := c) (n := m) u_L_twainref06_Cell (sz := 33) (by kernel_rfl) (by omega)
  rw [Nat.zero_add] at this
  exact this
theorem cl_get {l : List Cl} {i : Nat} (h : i < l.length) : (clRow l)[i]? = some (l.getD i Cl.zero).cells := by
  simp [clRow, List.getD, h]
theorem cl_safe (c : Cl) : (c.cells.drop 0).take 16 = c.safe.cells := by
  simp only [Cl.cells, List.drop_zero]
  rw [List.take_append_of_le_length (by rw [c.safe.len]; omega), take_sec]
theorem cl_fresh (c : Cl) : (c.cells.drop 16).take 16 = c.fresh.cells := by
  simp only [Cl.cells]
  rw [List.drop_append_of_le_length (by rw [c.safe.len]; omega), List.drop_of_length_le (by rw [c.safe.len]; omega), List.nil_append, List.take_append_of_le_length (by rw [c.fresh.len]; omega), take_sec]
theorem cl_cached (c : Cl) : c.cells[32]? = some (.bool c.cached) := by
  simp only [Cl.cells]
  rw [List.getElem?_append_right (by rw [c.safe.len]; omega), List.getElem?_append_right (by rw [c.safe.len, c.fresh.len]; omega)]
  simp [c.safe.len, c.fresh.len]
theorem cl_put0 (c : Cl) (s : Sec) : putCells c.cells 0 s.cells = (Cl.mk s c.fresh c.cached).cells := by
  simp only [putCells, Cl.cells, List.take_zero, List.nil_append, Nat.zero_add]
  rw [List.drop_append_of_le_length (by rw [c.safe.len, s.len]; omega), List.drop_of_length_le (by rw [c.safe.len, s.len]; omega)]
  simp
theorem cl_put16 (c : Cl) (s : Sec) : putCells c.cells 16 s.cells = (Cl.mk c.safe s c.cached).cells := by
  simp only [putCells, Cl.cells]
  rw [s.len, List.take_append_of_le_length (by rw [c.safe.len]; omega), List.take_of_length_le (by rw [c.safe.len]; omega), List.drop_append, List.drop_of_length_le (by rw [c.safe.len]; omega), c.safe.len, List.drop_append, List.drop_of_length_le (by rw [c.fresh.len]; omega), c.fresh.len]
  simp
theorem cl_put32 (c : Cl) (v : Bool) : putCells c.cells 32 [.bool v] = (Cl.mk c.safe c.fresh v).cells := by
  simp only [putCells, Cl.cells]
  rw [List.take_append, List.take_of_length_le (by rw [c.safe.len]; omega), c.safe.len, List.take_append, List.take_of_length_le (by rw [c.fresh.len]; omega), c.fresh.len, List.drop_of_length_le (by simp [c.safe.len, c.fresh.len])]
  simp
theorem clRow_set (l : List Cl) (i : Nat) (c : Cl) : (clRow l).set i c.cells = clRow (l.set i c) := by simp [clRow, List.map_set]

section
variable {l : List Cl} {i : Nat} (hi : i < l.length) (hk : H[kr]? = some (clB l))
include hi hk
theorem ld_safe : cellsAt H kr (i * 33) 16 = some (l.getD i Cl.zero).safe.cells := by
  rw [cellsAt_eq hk, ← Nat.add_zero (i * 33), if_pos (part_fits' (clRow_of l).len (cl_get hi) (by omega)), part_sub (clRow_of l).len (cl_get hi) (by omega), cl_safe]
theorem ld_fresh : cellsAt H kr (i * 33 + 16) 16 = some (l.getD i Cl.zero).fresh.cells := by
  rw [cellsAt_eq hk, if_pos (part_fits' (clRow_of l).len (cl_get hi) (by omega)), part_sub (clRow_of l).len (cl_get hi) (by omega), cl_fresh]
theorem ld_cached : cellAt H kr (i * 33 + 32) = some (.bool (l.getD i Cl.zero).cached) := by
  rw [cellAt_eq hk, part_get (clRow_of l).len (cl_get hi) (by omega), cl_cached]
theorem st_safe {e : Option Nat} (s : Sec) : storeL ⟨H, e⟩ kr (i * 33) s.cells = some ⟨H.set kr (clB (l.set i ⟨s, (l.getD i Cl.zero).fresh, (l.getD i Cl.zero).cached⟩)), e⟩ := by
  have h1 := part_fits' (k := 16) (clRow_of l).len (cl_get hi) (off := 0) (by omega)
  have h2 := put_part (off := 0) (v := s.cells) (clRow_of l).len (cl_get hi) (by rw [s.len]; omega)
  rw [Nat.add_zero] at h1 h2
  rw [storeL_eq hk, if_pos ⟨by rw [s.len]; exact h1, sec_all s⟩, h2, cl_put0, clRow_set, sec_refs]
  rfl
theorem st_fresh {e : Option Nat} (s : Sec) : storeL ⟨H, e⟩ kr (i * 33 + 16) s.cells = some ⟨H.set kr (clB (l.set i ⟨(l.getD i Cl.zero).safe, s, (l.getD i Cl.zero).cached⟩)), e⟩ := by
  rw [storeL_eq hk, if_pos ⟨by rw [s.len]; exact part_fits' (clRow_of l).len (cl_get hi) (by omega), sec_all s⟩, put_part (clRow_of l).len (cl_get hi) (by rw [s.len]; omega), cl_put16, clRow_set, sec_refs]
  rfl
theorem st_cached {e : Option Nat} (v : Bool) : storeL ⟨H, e⟩ kr (i * 33 + 32) [.bool v] = some ⟨H.set kr (clB (l.set i ⟨(l.getD i Cl.zero).safe, (l.getD i Cl.zero).fresh, v⟩)), e⟩ := by
  rw [storeL_eq hk, if_pos ⟨part_fits' (k := 1) (clRow_of l).len (cl_get hi) (by omega), rfl⟩, put_part (clRow_of l).len (cl_get hi) (by simp), cl_put32, clRow_set]
  rfl
end
end
end DK
end Go.Proofs.YtadllcgmimbjdaaGreat

end
section
namespace Go.Proofs.YtadllcgmimbjdaaGreat
open Go Go.Am Go.Dsk
set_option linter.unusedVariables false
namespace DK
section
variable {H : List Blk} {b kr : Nat} {d : Rf}

theorem rwrite_ok (h : RAt H b kr d) (at_ : Int) (s : Sec) : ∃ H', acall PP TT n_P_twainref06_Disk_Write [ptr b, .int .i64 at_, .agg s.cells.toArray] H = some (.int .i64 (d.write at_ s).1, H', none) ∧ RAt H' b kr (d.write at_ s).2 ∧ Fr2 H H' b kr := by
  have hx := h.app [Blk.cells s.cells t_api_Sector true]
  have hlt := blk_lt h.hb.choose_spec
  have hrl := blk_lt h.hr
  rw [acall_eq, P_twainref06_Disk_Write.eq]
  by_cases hh : d.has at_
  · obtain ⟨c, h1, h1b⟩ := rburns_ok hx
    have h2 := rburns_at hx h1b
    have h1b' : H[b]? = some (rdB kr c d) := by rwa [List.getElem?_append_left hlt] at h1b
    by_cases he : d.burns.1 = true
    · have hw : d.write at_ s = (3, d.burns.2) := by simp only [Rf.write, if_pos hh, if_pos he]
      refine ⟨H.set b (rdB kr c d.burns.2), ?_, ?_, ⟨by simp, fun k k1 k2 => by rw [get_set_ne (Ne.symm k1)]⟩⟩
      · rw [hw]
        simp only [P_twainref06_Disk_Write.sh, mach, Nat.reduceAdd, Nat.reduceLeDiff, Int.reduceEq, Int.reduceLT, Int.reduceLE, box_lit, sec_all, rin_ok hx, hh, h1, he]
        rw [set_left hlt]
        exact fin_app (by simp) rfl rfl rfl
      · rw [hw]; exact rburns_at h h1b'
    · have he' : d.burns.1 = false := by simpa using he
      have hcl := burns_cl d
      have hi : at_.toNat < d.burns.2.cl.length := by rw [hcl]; have := hh.1; have := hh.2; omega
      have hw : d.write at_ s = (0, { d.burns.2 with cl := d.burns.2.cl.set at_.toNat ⟨(d.burns.2.cl.getD at_.toNat Cl.zero).safe, s, true⟩ }) := by simp only [Rf.write, if_pos hh, if_neg he]
      have gb : ((H ++ [Blk.cells s.cells t_api_Sector true]).set b (rdB kr c d.burns.2))[b]? = some (rdB kr c d.burns.2) := get_set_eq h1b
      have gx : ((H ++ [Blk.cells s.cells t_api_Sector true]).set b (rdB kr c d.burns.2))[H.length]? = some (.cells s.cells t_api_Sector true) := by rw [get_set_ne (by omega)]; simp
      have hix := cl_ix (kr := kr) (n := d.burns.2.cl.length) (c := c) (at_ := at_) (by rw [hcl]; exact hh) (k := .i64)
      have s1 := st_fresh hi h2.hr (e := none) s
      have gr2 : ((((H ++ [Blk.cells s.cells t_api_Sector true]).set b (rdB kr c d.burns.2)).set kr (clB (d.burns.2.cl.set at_.toNat ⟨(d.burns.2.cl.getD at_.toNat Cl.zero).safe, s, (d.burns.2.cl.getD at_.toNat Cl.zero).cached⟩))))[kr]? = some (clB (d.burns.2.cl.set at_.toNat ⟨(d.burns.2.cl.getD at_.toNat Cl.zero).safe, s, (d.burns.2.cl.getD at_.toNat Cl.zero).cached⟩)) := get_set_eq h2.hr
      have gb2 : ((((H ++ [Blk.cells s.cells t_api_Sector true]).set b (rdB kr c d.burns.2)).set kr (clB (d.burns.2.cl.set at_.toNat ⟨(d.burns.2.cl.getD at_.toNat Cl.zero).safe, s, (d.burns.2.cl.getD at_.toNat Cl.zero).cached⟩))))[b]? = some (rdB kr c d.burns.2) := by rw [get_set_ne (Ne.symm h.ne)]; exact gb
      have s2 := st_cached (l := d.burns.2.cl.set at_.toNat ⟨(d.burns.2.cl.getD at_.toNat Cl.zero).safe, s, (d.burns.2.cl.getD at_.toNat Cl.zero).cached⟩) (by simpa using hi) gr2 (e := none) true
      rw [getD_set hi, if_pos rfl, List.set_set, List.set_set] at s2
      refine ⟨(H.set b (rdB kr c d.burns.2)).set kr (clB (d.burns.2.cl.set at_.toNat ⟨(d.burns.2.cl.getD at_.toNat Cl.zero).safe, s, true⟩)), ?_, ?_, ?_⟩
      · rw [hw]
        simp only [P_twainref06_Disk_Write.sh, mach, Nat.reduceAdd, Nat.reduceLeDiff, Int.reduceEq, Int.reduceLT, Int.reduceLE, box_lit, sec_all, rin_ok hx, hh, h1, he', nil_p, fa_twainref06_Disk_0, cellAt_eq gb, cellsAt_eq gx, s.len, take_sec, hix, fa_twainref06_Cell_1, fa_twainref06_Cell_2, s1, cellAt_eq gb2, s2]
        rw [set_left hlt, set_left (by simpa using hrl)]
        exact fin_app (by simp) rfl rfl rfl
      · rw [hw]
        refine ⟨⟨c, ?_⟩, ?_, ?_⟩
        · rw [get_set_ne (Ne.symm h.ne), get_set_eq h1b']
          simp [rdB]
        · exact get_set_eq (by rw [get_set_ne h.ne]; exact h.hr)
        · simp only [List.length_set, hcl]; exact h.few
      · exact ⟨by simp, fun k k1 k2 => by rw [get_set_ne (Ne.symm k2), get_set_ne (Ne.symm k1)]⟩
  · have hw : d.write at_ s = (13, d) := by simp only [Rf.write, if_neg hh]
    refine ⟨H, ?_, ?_, .refl⟩
    · rw [hw]
      simp only [P_twainref06_Disk_Write.sh, mach, Nat.reduceAdd, Nat.reduceLeDiff, Int.reduceEq, Int.reduceLT, Int.reduceLE, box_lit, sec_all, rin_ok hx, hh]
      exact fin_app rfl rfl rfl rfl
    · rw [hw]; exact h

/-! ### What is cached becomes durable -/
def keepAt (i : Nat) (x : List Cl × Nat) : List Cl × Nat := (x.1.set i (kept (x.1.getD i Cl.zero)), if (x.1.getD i Cl.zero).cached = true then x.2 + 1 else x.2)
theorem keepAt_len (n : Nat) (x : List Cl × Nat) : (upto keepAt n x).1.length = x.1.length ∧ (upto keepAt n x).2 ≤ x.2 + n := by
  induction n with
  | zero => exact ⟨rfl, by simp [upto]⟩
  | succ n ih =>
    obtain ⟨h1, h2⟩ := ih
    refine ⟨by simp [upto, keepAt, h1], ?_⟩
    simp only [upto, keepAt]; split <;> omega
theorem keepAt_get (l : List Cl) (n j : Nat) (hn : n ≤ l.length) : (upto keepAt n (l, 0)).1[j]? = if j < n then (l[j]?).map kept else l[j]? := by
  induction n with
  | zero => simp [upto]
  | succ n ih =>
    have ih := ih (by omega)
    have hl := (keepAt_len n (l, 0)).1
    simp only [upto, keepAt]
    rw [List.getElem?_set]
    by_cases h : n = j
    · subst h
      rw [if_pos rfl, if_pos (by rw [hl]; exact hn), if_pos (by omega)]
      have : (upto keepAt n (l, 0)).1.getD n Cl.zero = l.getD n Cl.zero := by simp [List.getD, ih]
      rw [this]
      simp [List.getD, show n < l.length by omega]
    · rw [if_neg h, ih]
      by_cases hj : j < n
      · rw [if_pos hj, if_pos (by omega)]
      · rw [if_neg hj, if_neg (by omega)]
theorem keepAt_all (l : List Cl) : (upto keepAt l.length (l, 0)).1 = l.map kept := by
  apply List.ext_getElem?
  intro j
  rw [keepAt_get _ _ _ (Nat.le_refl _), List.getElem?_map]
  split
  · rfl
  · rw [List.getElem?_eq_none (by omega)]; rfl

theorem keep7 {H : List Blk} {n0 : Nat} (hn : H.length = n0) {vb : Nat} (hb : vb < n0) (n : Nat) (x y z : Value) (hx : vrefs x = []) (hy : vrefs y = []) (hz : vrefs z = []) : loopG n0 (P_twainref06_Disk_keep.loop7s (acall PP TT) loopG n0) ([ptr vb, .bool true, .int .u64 0, .int .i64 (n : Int), x, .int .u64 0, .int .i64 0, y, z], ⟨H, none⟩) = some (.exit 2, [ptr vb, .bool true, .int .u64 0, .int .i64 (n : Int), x, .int .u64 0, y, z], ⟨H, none⟩) := by
  have hm : n % 64 < 64 := Nat.mod_lt _ (by decide)
  have hr : ∀ ox oy, aBin PP .rem t_int ox oy (.int .i64 (n : Int)) (.int .i64 64) = some (.int .i64 ((n % 64 : Nat) : Int)) := fun ox oy => rem_nat (y := 64) (by decide)
  have hq : ∀ ox oy, aBin PP .quo t_uint64 ox oy (.int .u64 0) (.int .u64 2) = some (.int .u64 0) := fun ox oy => by kernel_rfl
  have := loop_upto (n0 := n0) (step := P_twainref06_Disk_keep.loop7s (acall PP TT) loopG n0) (len := n % 64) (σ := Unit) (fun i _ => ([ptr vb, .bool true, .int .u64 0, .int .i64 (n : Int), x, .int .u64 0, .int .i64 i, y, z], ⟨H, none⟩)) (fun _ u => u) (fun _ _ => True) (fun _ => (.exit 2, [ptr vb, .bool true, .int .u64 0, .int .i64 (n : Int), x, .int .u64 0, y, z], ⟨H, none⟩))
    (fun i _ hi _ => by
      have hlt : (i : Int) < ((n % 64 : Nat) : Int) := by omega
      refine ⟨_, _, ?_, gc_same' hn (by simp [hx, hy, hz, hb]), trivial⟩
      simp only [P_twainref06_Disk_keep.loop7s, P_twainref06_Disk_keep.loop7, mach, Nat.reduceAdd, Nat.reduceLeDiff, Int.reduceEq, Int.reduceLT, Int.reduceLE, hr, hlt, hq, wrap_add1 (show i < 4611686018427387904 by omega)])
    (fun _ _ => by simp only [P_twainref06_Disk_keep.loop7s, P_twainref06_Disk_keep.loop7, mach, Nat.reduceAdd, Nat.reduceLeDiff, Int.reduceEq, Int.reduceLT, Int.reduceLE, hr, Int.lt_irrefl]) () [ptr vb, .bool true, .int .u64 0, .int .i64 (n : Int), x, .int .u64 0, .int .i64 0, y, z] ⟨H, none⟩ trivial (gc_same' hn (by simp [hx, hy, hz, hb]))
  exact this
theorem rkeep_ok (h : RAt H b kr d) : acall PP TT n_P_twainref06_Disk_keep [ptr b, .bool true, .int .u64 0] H = some (.tuple #[], H.set kr (clB (d.cl.map kept)), none) := by
  obtain ⟨c, hb⟩ := h.hb
  have hbl := blk_lt hb
  have hne := h.ne
  have hf := h.few
  have hloop := loop_upto (n0 := H.length) (step := P_twainref06_Disk_keep.loop2s (acall PP TT) loopG H.length) (len := d.cl.length) (σ := List Cl × Nat) (fun i x => ([ptr b, .bool true, .int .u64 0, .int .i64 x.2, .int .i64 d.cl.length, .int .i64 i], ⟨H.set kr (clB x.1), none⟩)) keepAt (fun i x => x.1.length = d.cl.length ∧ x.2 ≤ i) (fun x => (.exit 0, [], ⟨H.set kr (clB x.1), none⟩))
    (fun i x hi ⟨hx, hn⟩ => by
      obtain ⟨l, n⟩ := x
      simp only at hx hn
      have hlt : (i : Int) < (d.cl.length : Int) := by omega
      have hil : i < l.length := by omega
      have gb : (H.set kr (clB l))[b]? = some (rdB kr c d) := by rw [get_set_ne (Ne.symm hne)]; exact hb
      have gr : (H.set kr (clB l))[kr]? = some (clB l) := get_set_eq h.hr
      have hix := cl_ix (kr := kr) (n := d.cl.length) (c := c) (at_ := (i : Int)) ⟨by omega, hlt⟩ (k := .i64)
      rw [Int.toNat_natCast] at hix
      have hw := wrap_add1 (show i < 4611686018427387904 by omega)
      have hwn := wrap_add1 (show n < 4611686018427387904 by omega)
      have l1 := ld_cached hil gr
      cases hc : (l.getD i Cl.zero).cached with
      | false =>
        rw [hc] at l1
        have hk : keepAt i (l, n) = (l, n) := by
          simp only [keepAt, kept, hc]
          have : l.set i (l.getD i Cl.zero) = l := by
            apply List.ext_getElem?
            intro j
            rw [List.getElem?_set]
            split
            · next e => subst e; simp [List.getD, hil]
            · rfl
          simp only [Bool.false_eq_true, if_false, this]
        refine ⟨_, _, ?_, (gc_same' (H := H.set kr (clB l)) (n0 := H.length) (vs := [ptr b, .bool true, .int .u64 0, .int .i64 (n : Int), .int .i64 d.cl.length, .int .i64 ((i + 1 : Nat) : Int)]) (by simp) (by simp [hbl])).trans (by rw [hk]), by rw [hk]; exact ⟨hx, by show n ≤ i + 1; omega⟩⟩
        simp only [P_twainref06_Disk_keep.loop2s, P_twainref06_Disk_keep.loop2, P_twainref06_Disk_keep.j6, mach, Nat.reduceAdd, Nat.reduceLeDiff, Int.reduceEq, Int.reduceLT, Int.reduceLE, hlt, nil_p, fa_twainref06_Disk_0, cellAt_eq gb, hix, fa_twainref06_Cell_2, l1, hw]
      | true =>
        rw [hc] at l1
        have hk : keepAt i (l, n) = (l.set i ⟨(l.getD i Cl.zero).fresh, Sec.zero, false⟩, n + 1) := by simp only [keepAt, kept, hc, if_true]
        have l2 := ld_fresh hil gr
        have s1 := st_safe hil gr (e := none) (l.getD i Cl.zero).fresh
        have gr1 : ((H.set kr (clB l)).set kr (clB (l.set i ⟨(l.getD i Cl.zero).fresh, (l.getD i Cl.zero).fresh, (l.getD i Cl.zero).cached⟩)))[kr]? = some (clB (l.set i ⟨(l.getD i Cl.zero).fresh, (l.getD i Cl.zero).fresh, (l.getD i Cl.zero).cached⟩)) := get_set_eq gr
        rw [List.set_set] at s1 gr1
        have s2 := st_fresh (by simpa using hil) gr1 (e := none) Sec.zero
        rw [getD_set hil, if_pos rfl, List.set_set, List.set_set] at s2
        have gr2 : (H.set kr (clB (l.set i ⟨(l.getD i Cl.zero).fresh, Sec.zero, (l.getD i Cl.zero).cached⟩)))[kr]? = some (clB (l.set i ⟨(l.getD i Cl.zero).fresh, Sec.zero, (l.getD i Cl.zero).cached⟩)) := get_set_eq h.hr
        have s3 := st_cached (by simpa using hil) gr2 (e := none) false
        rw [getD_set hil, if_pos rfl, List.set_set, List.set_set] at s3
        have gb1 : ∀ q, (H.set kr (clB q))[b]? = some (rdB kr c d) := fun q => by rw [get_set_ne (Ne.symm hne)]; exact hb
        have hk7 := keep7 (H := H.set kr (clB l)) (n0 := H.length) (by simp) hbl n (.int .i64 (i : Int)) (.int .i64 d.cl.length) (.int .i64 (i : Int)) rfl rfl rfl
        refine ⟨_, _, ?_, (gc_same' (H := H.set kr (clB (l.set i ⟨(l.getD i Cl.zero).fresh, Sec.zero, false⟩))) (n0 := H.length) (vs := [ptr b, .bool true, .int .u64 0, .int .i64 ((n + 1 : Nat) : Int), .int .i64 d.cl.length, .int .i64 ((i + 1 : Nat) : Int)]) (by simp) (by simp [hbl])).trans (by rw [hk]), by rw [hk]; exact ⟨by simp [hx], by show n + 1 ≤ i + 1; omega⟩⟩
        simp only [P_twainref06_Disk_keep.loop2s, P_twainref06_Disk_keep.loop2, P_twainref06_Disk_keep.j3, P_twainref06_Disk_keep.j4, P_twainref06_Disk_keep.j5, P_twainref06_Disk_keep.j6, mach, Nat.reduceAdd, Nat.reduceLeDiff, Int.reduceEq, Int.reduceLT, Int.reduceLE, hlt, nil_p, fa_twainref06_Disk_0, cellAt_eq gb, hix, fa_twainref06_Cell_0, fa_twainref06_Cell_1, fa_twainref06_Cell_2, l1, hk7, l2, (l.getD i Cl.zero).fresh.len, s1, cellAt_eq (gb1 _), build_sec, Sec.zero.len, s2, s3, hw, hwn])
    (fun x hx => by simp only [P_twainref06_Disk_keep.loop2s, P_twainref06_Disk_keep.loop2, mach, Nat.reduceAdd, Nat.reduceLeDiff, Int.reduceEq, Int.reduceLT, Int.reduceLE, Int.lt_irrefl]) (d.cl, 0) [ptr b, .bool true, .int .u64 0, .int .i64 0, .int .i64 d.cl.length, .int .i64 0] ⟨H, none⟩ ⟨rfl, Nat.le_refl _⟩ (by rw [set_same h.hr]; exact gc_same' rfl (by simp [hbl]))
  rw [keepAt_all] at hloop
  rw [acall_eq, P_twainref06_Disk_keep.eq]
  simp only [P_twainref06_Disk_keep.sh, mach, Nat.reduceAdd, Nat.reduceLeDiff, Int.reduceEq, Int.reduceLT, Int.reduceLE, nil_p, fa_twainref06_Disk_0, cellAt_eq hb, aLen, u_L_twainref06_Cell, hloop]
  exact fin_old (by simp) rfl rfl
theorem rflush_ok (h : RAt H b kr d) : ∃ H', acall PP TT n_P_twainref06_Disk_Flush [ptr b] H = some (.int .i64 d.flush.1, H', none) ∧ RAt H' b kr d.flush.2 ∧ Fr2 H H' b kr := by
  obtain ⟨c, h1, h1b⟩ := rburns_ok h
  have h2 := rburns_at h h1b
  rw [acall_eq, P_twainref06_Disk_Flush.eq]
  by_cases he : d.burns.1 = true
  · have hw : d.flush = (3, d.burns.2) := by simp only [Rf.flush, if_pos he]
    refine ⟨H.set b (rdB kr c d.burns.2), ?_, by rw [hw]; exact h2, ⟨by simp, fun k k1 k2 => by rw [get_set_ne (Ne.symm k1)]⟩⟩
    rw [hw]
    simp only [P_twainref06_Disk_Flush.sh, mach, Nat.reduceAdd, Nat.reduceLeDiff, Int.reduceEq, Int.reduceLT, Int.reduceLE, h1, he]
    exact fin_old (by simp) rfl rfl
  · have he' : d.burns.1 = false := by simpa using he
    have hw : d.flush = (0, { d.burns.2 with cl := d.burns.2.cl.map kept }) := by simp only [Rf.flush, if_neg he]
    have h3 := rkeep_ok h2
    refine ⟨(H.set b (rdB kr c d.burns.2)).set kr (clB (d.burns.2.cl.map kept)), ?_, ?_, ⟨by simp, fun k k1 k2 => by rw [get_set_ne (Ne.symm k2), get_set_ne (Ne.symm k1)]⟩⟩
    · rw [hw]
      simp only [P_twainref06_Disk_Flush.sh, mach, Nat.reduceAdd, Nat.reduceLeDiff, Int.reduceEq, Int.reduceLT, Int.reduceLE, h1, he', h3]
      exact fin_old (by simp) rfl rfl
    · rw [hw]
      refine ⟨⟨c, ?_⟩, ?_, ?_⟩
      · rw [get_set_ne (Ne.symm h.ne), get_set_eq h1b]
        simp [rdB]
      · exact get_set_eq h2.hr
      · simp only [List.length_map]; exact h2.few
end
end DK
end Go.Proofs.YtadllcgmimbjdaaGreat

end
section
namespace Go.Proofs.YtadllcgmimbjdaaGreat
open Go Go.Am Go.Dsk
set_option linter.unusedVariables false
namespace DK
section
variable {H : List Blk} {b kr : Nat} {d : Rf}
theorem rdurable_ok (h : RAt H b kr d) (at_ : Int) : acall PP TT n_P_twainref06_Disk_Durable [ptr b, .int .i64 at_] H = some (.agg (d.durable at_).cells.toArray, H, none) := by
  have hx := h.app [Blk.cells z_api_Sector t_api_Sector true]
  obtain ⟨c, hb⟩ := hx.hb
  rw [acall_eq, P_twainref06_Disk_Durable.eq]
  by_cases hh : d.has at_
  · have hi : at_.toNat < d.cl.length := by have := hh.1; have := hh.2; omega
    have hix := cl_ix (kr := kr) (n := d.cl.length) (c := c) (at_ := at_) hh (k := .i64)
    simp only [P_twainref06_Disk_Durable.sh, mach, Nat.reduceAdd, Nat.reduceLeDiff, Int.reduceEq, Int.reduceLT, Int.reduceLE, zg_api_Sector, box_lit, za_api_Sector, rin_ok hx, hh, nil_p, fa_twainref06_Disk_0, cellAt_eq hb, hix, fa_twainref06_Cell_0, ld_safe hi hx.hr, (d.cl.getD at_.toNat Cl.zero).safe.len, box_sec rfl z_api_Sector zl_api_Sector, cellsAt_app0, take_sec, Rf.durable]
    exact fin_sec rfl _
  · simp only [P_twainref06_Disk_Durable.sh, mach, Nat.reduceAdd, Nat.reduceLeDiff, Int.reduceEq, Int.reduceLT, Int.reduceLE, zg_api_Sector, box_lit, za_api_Sector, rin_ok hx, hh, build_sec, Sec.zero.len, box_sec rfl z_api_Sector zl_api_Sector, cellsAt_app0, take_sec, Rf.durable]
    exact fin_sec rfl _
theorem fin_sec2 {H l : List Blk} {n0 : Nat} (hn : H.length = n0) (s : Sec) (n : Int) : fin PP false n0 [.agg s.cells.toArray, .int .i64 n] ⟨H ++ l, none⟩ = some (.tuple #[.agg s.cells.toArray, .int .i64 n], H, none) := by
  subst hn
  refine fin_of (l := l) (l' := l) (vs' := [.agg s.cells.toArray, .int .i64 n]) ?_ (by simp [sec_refs]) rfl
  simp only [frzL, frz_agg _ 7 _ _ (sec_noSl s)]
  rfl
theorem rread_ok (h : RAt H b kr d) (at_ : Int) : acall PP TT n_P_twainref06_Disk_Read [ptr b, .int .i64 at_] H = some (.tuple #[.agg (d.read at_).1.cells.toArray, .int .i64 (d.read at_).2], H, none) := by
  have hx := h.app [Blk.cells z_api_Sector t_api_Sector true]
  obtain ⟨c, hb⟩ := hx.hb
  rw [acall_eq, P_twainref06_Disk_Read.eq]
  by_cases hh : d.has at_
  · have hi : at_.toNat < d.cl.length := by have := hh.1; have := hh.2; omega
    have hix := cl_ix (kr := kr) (n := d.cl.length) (c := c) (at_ := at_) hh (k := .i64)
    cases hk : d.broken with
    | true =>
      simp only [P_twainref06_Disk_Read.sh, mach, Nat.reduceAdd, Nat.reduceLeDiff, Int.reduceEq, Int.reduceLT, Int.reduceLE, zg_api_Sector, box_lit, za_api_Sector, rin_ok hx, hh, nil_p, fa_twainref06_Disk_2, cellAt_eq hb, hk, build_sec, Sec.zero.len, box_sec rfl z_api_Sector zl_api_Sector, cellsAt_app0, take_sec, Rf.read]
      exact fin_sec2 rfl _ _
    | false =>
      cases hc : (d.cl.getD at_.toNat Cl.zero).cached with
      | true =>
        have l1 := ld_cached hi hx.hr
        rw [hc] at l1
        simp only [P_twainref06_Disk_Read.sh, mach, Nat.reduceAdd, Nat.reduceLeDiff, Int.reduceEq, Int.reduceLT, Int.reduceLE, zg_api_Sector, box_lit, za_api_Sector, rin_ok hx, hh, nil_p, fa_twainref06_Disk_0, fa_twainref06_Disk_2, cellAt_eq hb, hk, hix, fa_twainref06_Cell_1, fa_twainref06_Cell_2, l1, ld_fresh hi hx.hr, (d.cl.getD at_.toNat Cl.zero).fresh.len, box_sec rfl z_api_Sector zl_api_Sector, cellsAt_app0, take_sec, Rf.read, hc]
        exact fin_sec2 rfl _ _
      | false =>
        have l1 := ld_cached hi hx.hr
        rw [hc] at l1
        simp only [P_twainref06_Disk_Read.sh, mach, Nat.reduceAdd, Nat.reduceLeDiff, Int.reduceEq, Int.reduceLT, Int.reduceLE, zg_api_Sector, box_lit, za_api_Sector, rin_ok hx, hh, nil_p, fa_twainref06_Disk_0, fa_twainref06_Disk_2, cellAt_eq hb, hk, hix, fa_twainref06_Cell_0, fa_twainref06_Cell_2, l1, ld_safe hi hx.hr, (d.cl.getD at_.toNat Cl.zero).safe.len, box_sec rfl z_api_Sector zl_api_Sector, cellsAt_app0, take_sec, Rf.read, hc]
        exact fin_sec2 rfl _ _
  · simp only [P_twainref06_Disk_Read.sh, mach, Nat.reduceAdd, Nat.reduceLeDiff, Int.reduceEq, Int.reduceLT, Int.reduceLE, zg_api_Sector, box_lit, za_api_Sector, rin_ok hx, hh, build_sec, Sec.zero.len, box_sec rfl z_api_Sector zl_api_Sector, cellsAt_app0, take_sec, Rf.read]
    exact fin_sec2 rfl _ _
def Rf.secs (d : Rf) : Nat := d.cl.length - 8
theorem rsectors_ok (h : RAt H b kr d) : acall PP TT n_twainref12_Sectors [ptr b] H = some (.int .i64 (Rf.secs d : Nat), H, none) := by
  obtain ⟨c, hb⟩ := h.hb
  have hf := h.few
  rw [acall_eq, twainref12_Sectors.eq]
  by_cases h8 : (d.cl.length : Int) < 8
  · have : Rf.secs d = 0 := by unfold Rf.secs; omega
    simp only [twainref12_Sectors.sh, mach, Nat.reduceAdd, Nat.reduceLeDiff, Int.reduceEq, Int.reduceLT, Int.reduceLE, nil_p, fa_twainref06_Disk_0, cellAt_eq hb, aLen, u_L_twainref06_Cell, h8, this]
    exact fin_lit0 rfl rfl
  · have hw : IntKind.i64.wrap ((d.cl.length : Int) - 8) = ((Rf.secs d : Nat) : Int) := by rw [wrap_i64 ⟨by omega, by omega⟩]; unfold Rf.secs; omega
    simp only [twainref12_Sectors.sh, mach, Nat.reduceAdd, Nat.reduceLeDiff, Int.reduceEq, Int.reduceLT, Int.reduceLE, nil_p, fa_twainref06_Disk_0, cellAt_eq hb, aLen, u_L_twainref06_Cell, h8, hw]
    exact fin_lit0 rfl rfl

/-! ### A new one -/
theorem zero_cl : z_twainref06_Cell = Cl.zero.cells := by kernel_rfl
theorem build_cl : aBuild PP t_twainref06_Cell [] = some (.agg Cl.zero.cells.toArray) := by rw [← zero_cl]; kernel_rfl
theorem build_rd : aBuild PP t_twainref06_Disk [(1, .int .i64 (-1))] = some (.agg [Value.slice none 0 0, .int .i64 (-1), .bool false, .int .i64 0].toArray) := by kernel_rfl
theorem cl_all (c : Cl) : allCells c.cells = true := (clRow_of [c]).cells _ (by simp [clRow])
theorem bsl_cl (H : List Blk) (e : Option Nat) : bsl PP t_L_twainref06_Cell 1 [0] [.agg Cl.zero.cells.toArray] ⟨H, e⟩ = some (.slice (some ⟨H.length, 0, none⟩) 1 1, ⟨H ++ [.cells Cl.zero.cells t_twainref06_Cell true], e⟩) := by
  rw [← zero_cl]; kernel_rfl
def nwV (n0 : Nat) (n : Nat) : Value := if n = 0 then .slice none 0 0 else .slice (some ⟨n0 + 1, 0, none⟩) n UNK
def nwL (n0 n : Nat) : List Blk := .cells [nwV n0 n, .int .i64 (-1), .bool false, .int .i64 0] t_twainref06_Disk true :: if n = 0 then [] else [clB (List.replicate n Cl.zero)]
theorem read_ok {km : Nat} {d : Dk} (h : At H b kr km d) (at_ : Int) : acall PP TT n_P_disk_Disk_Read [ptr b, .int .i64 at_] H = some (.tuple #[.agg (d.read at_).1.cells.toArray, .int .i64 (d.read at_).2], H, none) := by
  have hx := h.app [Blk.cells z_api_Sector t_api_Sector true]
  rw [acall_eq, P_disk_Disk_Read.eq]
  by_cases hh : d.has at_
  · cases hk : d.broken with
    | true =>
      simp only [P_disk_Disk_Read.sh, mach, Nat.reduceAdd, Nat.reduceLeDiff, Int.reduceEq, Int.reduceLT, Int.reduceLE, zg_api_Sector, box_lit, za_api_Sector, made_ok hx, has_ok hx, hh, nil_p, fa_disk_Disk_3, cellAt_eq hx.hb, hk, build_sec, Sec.zero.len, box_sec rfl z_api_Sector zl_api_Sector, cellsAt_app0, take_sec, Dk.read]
      exact fin_sec2 rfl _ _
    | false =>
      obtain ⟨es, c, g1, g2⟩ := hx.hm
      have hr : 0 ≤ at_ ∧ at_ < 1024 := by have := h.ok.few; exact ⟨hh.1, by have := hh.2; omega⟩
      have hlk := look_ok (st := ⟨H ++ [Blk.cells z_api_Sector t_api_Sector true], none⟩) g2 g1 h.keys hr true
      have hfs : d.find at_ = seek d.fresh at_ := rfl
      have two : ∀ (s t : Sec), storeL ⟨H ++ [Blk.cells z_api_Sector t_api_Sector true, Blk.cells s.cells t_api_Sector true], none⟩ H.length 0 t.cells = some ⟨H ++ [Blk.cells t.cells t_api_Sector true, Blk.cells s.cells t_api_Sector true], none⟩ := by
        intro s t
        simp only [storeL_own0, putB_z, t.len, zl_api_Sector, sec_all, sec_refs, put_sec, escOf_nil]
        rfl
      cases hs : seek d.fresh at_ with
      | some s =>
        rw [hs] at hlk
        have hlk' : aLookup PP t_M_int_api_Sector (.map (some km)) (.int .i64 at_) true ⟨H ++ [Blk.cells z_api_Sector t_api_Sector true], none⟩ = some (.tuple #[.agg s.cells.toArray, .bool true]) := hlk
        simp only [P_disk_Disk_Read.sh, mach, Nat.reduceAdd, Nat.reduceLeDiff, Int.reduceEq, Int.reduceLT, Int.reduceLE, zg_api_Sector, box_lit, za_api_Sector, made_ok hx, has_ok hx, hh, nil_p, fa_disk_Disk_1, fa_disk_Disk_3, cellAt_eq hx.hb, hk, hlk', s.len, zl_api_Sector, sec_all, sec_refs, put_sec, take_sec, two, Dk.read, hfs, hs, Option.getD_some]
        exact fin_sec2 rfl _ _
      | none =>
        rw [hs] at hlk
        have hlk' : aLookup PP t_M_int_api_Sector (.map (some km)) (.int .i64 at_) true ⟨H ++ [Blk.cells z_api_Sector t_api_Sector true], none⟩ = some (.tuple #[.agg Sec.zero.cells.toArray, .bool false]) := hlk
        have hrow : (rows d.safe)[at_.toNat]? = some (d.safe.getD at_.toNat Sec.zero).cells := by
          have := hh.1; have := hh.2
          have hlt : at_.toNat < d.safe.length := by omega
          simp [rows, List.getD, hlt]
        have hy := h.app [Blk.cells z_api_Sector t_api_Sector true, Blk.cells Sec.zero.cells t_api_Sector true]
        have hfit := part_fits (rows_of d.safe).len hrow
        have hpart := part_row (rows_of d.safe).len hrow
        simp only [P_disk_Disk_Read.sh, mach, Nat.reduceAdd, Nat.reduceLeDiff, Int.reduceEq, Int.reduceLT, Int.reduceLE, zg_api_Sector, box_lit, za_api_Sector, made_ok hx, has_ok hx, hh, nil_p, fa_disk_Disk_0, fa_disk_Disk_1, fa_disk_Disk_3, cellAt_eq hx.hb, hk, hlk', Sec.zero.len, zl_api_Sector, sec_all, sec_refs, put_sec, take_sec, cellAt_eq hy.hb, ix_sec hh, cellsAt_eq hy.hr, hfit, hpart, (d.safe.getD at_.toNat Sec.zero).len, two, Dk.read, hfs, hs, Option.getD_none]
        exact fin_sec2 rfl _ _
  · simp only [P_disk_Disk_Read.sh, mach, Nat.reduceAdd, Nat.reduceLeDiff, Int.reduceEq, Int.reduceLT, Int.reduceLE, zg_api_Sector, box_lit, za_api_Sector, made_ok hx, has_ok hx, hh, build_sec, Sec.zero.len, box_sec rfl z_api_Sector zl_api_Sector, cellsAt_app0, take_sec, Dk.read]
    exact fin_sec2 rfl _ _

theorem rnew_ok {n : Nat} (H : List Blk) (hn : 1 ≤ n ∧ n ≤ 1024) : acall PP TT n_twainref06_New [.int .i64 (n : Int)] H = some (.tuple #[ptr H.length, .int .i64 0], H ++ nwL H.length n, none) := by
  have h1 : ¬ (n : Int) < 1 := by omega
  have h2 : ¬ (1024 : Int) < (n : Int) := by omega
  have he : ∀ k, 0 < k → escOf none H.length [H.length + k] = some H.length := by
    intro k hk
    simp [escOf, minO, hk]
  have hloop := loop_upto (n0 := H.length) (step := twainref06_New.loop5s (acall PP TT) loopG H.length) (len := n) (σ := Unit) (fun i _ => ([.int .i64 (n : Int), ptr H.length, .int .i64 i], ⟨H ++ nwL H.length i, none⟩)) (fun _ u => u) (fun _ _ => True) (fun _ => (.exit 0, [ptr H.length], ⟨H ++ nwL H.length n, none⟩))
    (fun i _ hi _ => by
      have hlt : (i : Int) < (n : Int) := by omega
      have hw := wrap_add1 (show i < 4611686018427387904 by omega)
      by_cases h0 : i = 0
      · subst h0
        have hp := fun F => push_nil (P := PP) (R := (List Value × AS) ⊕ (AEx × List Value × AS)) (H0 := H) (l := [.cells [.slice none 0 0, .int .i64 (-1), .bool false, .int .i64 0] t_twainref06_Disk true]) (e := none) (r := Cl.zero.cells) (v := .agg Cl.zero.cells.toArray) (F := F) el_L_twainref06_Cell (Cl.len _) (fun H' e' => bsl_cl H' e')
        refine ⟨_, _, ?_, (gc_own (H0 := H) (vs := [.int .i64 (n : Int), ptr H.length, .int .i64 ((0 + 1 : Nat) : Int)]) (l := [.cells [.slice (some ⟨H.length + 2, 0, none⟩) 1 UNK, .int .i64 (-1), .bool false, .int .i64 0] t_twainref06_Disk true, .cells Cl.zero.cells t_twainref06_Cell true, .cells Cl.zero.cells t_twainref06_Cell true]) (e := some H.length) (vs' := [.int .i64 (n : Int), ptr H.length, .int .i64 ((0 + 1 : Nat) : Int)]) (l' := nwL H.length 1) [[2], [], []] [0] [0, 2] rfl (by simp [escOk]) (by simp) (by simp [blkRefs, (clRow_of [Cl.zero]).refs _ (show Cl.zero.cells ∈ clRow [Cl.zero] by simp [clRow])])
          (by simp [lren, vren, rn_own0, findIx]) (by simp [renBlk, lren, vren, rn_own, rn_own0, findIx, nwL, nwV, clRow, lren_none ((clRow_of [Cl.zero]).refs _ (show Cl.zero.cells ∈ clRow [Cl.zero] by simp [clRow]))])), trivial⟩
        simp only [List.length_singleton] at hp
        simp only [twainref06_New.loop5s, twainref06_New.loop5, mach, Nat.reduceAdd, Nat.reduceLeDiff, Int.reduceEq, Int.reduceLT, Int.reduceLE, hlt, nil_p, fa_twainref06_Disk_0, nwL, nwV, build_cl, hp, if_true]
        rw [he 2 (by omega)]
        rfl
      · have hp := fun F => push_more (P := PP) (R := (List Value × AS) ⊕ (AEx × List Value × AS)) (H0 := H) (k := 1) (m := i) (old := (clRow (List.replicate i Cl.zero)).flatten) (l := [.cells [.slice (some ⟨H.length + 1, 0, none⟩) i UNK, .int .i64 (-1), .bool false, .int .i64 0] t_twainref06_Disk true, clB (List.replicate i Cl.zero)]) (e := none) (r := Cl.zero.cells) (v := .agg Cl.zero.cells.toArray) (F := F) el_L_twainref06_Cell (Cl.len _) (fun H' e' => bsl_cl H' e') rfl (by rw [(clRow_of _).flen]; simp [clRow]) (by omega)
        have hrow : (clRow (List.replicate i Cl.zero)).flatten ++ Cl.zero.cells = (clRow (List.replicate (i + 1) Cl.zero)).flatten := by
          rw [List.replicate_succ']; simp [clRow]
        rw [hrow] at hp
        have hi1 : ¬ i + 1 = 0 := by omega
        refine ⟨_, _, ?_, (gc_own (H0 := H) (vs := [.int .i64 (n : Int), ptr H.length, .int .i64 ((i + 1 : Nat) : Int)]) (l := [.cells [.slice (some ⟨H.length + 3, 0, none⟩) (i + 1) UNK, .int .i64 (-1), .bool false, .int .i64 0] t_twainref06_Disk true, .dead, .cells Cl.zero.cells t_twainref06_Cell true, clB (List.replicate (i + 1) Cl.zero)]) (e := some H.length) (vs' := [.int .i64 (n : Int), ptr H.length, .int .i64 ((i + 1 : Nat) : Int)]) (l' := nwL H.length (i + 1)) [[3], [], [], []] [0] [0, 3] rfl (by simp [escOk]) (by simp) (by simp [blkRefs, (clRow_of [Cl.zero]).refs _ (show Cl.zero.cells ∈ clRow [Cl.zero] by simp [clRow]), (clRow_of (List.replicate (i + 1) Cl.zero)).frefs])
          (by simp [lren, vren, rn_own0, findIx]) (by simp [renBlk, lren, vren, rn_own, rn_own0, findIx, nwL, nwV, lren_none (clRow_of (List.replicate (i + 1) Cl.zero)).frefs])), trivial⟩
        simp only [List.length_cons, List.length_nil] at hp
        simp only [twainref06_New.loop5s, twainref06_New.loop5, mach, Nat.reduceAdd, Nat.reduceLeDiff, Int.reduceEq, Int.reduceLT, Int.reduceLE, hlt, nil_p, fa_twainref06_Disk_0, nwL, nwV, build_cl, h0, if_false, hp, hw]
        rw [he 3 (by omega)]
        rfl)
    (fun _ _ => by simp only [twainref06_New.loop5s, twainref06_New.loop5, mach, Nat.reduceAdd, Nat.reduceLeDiff, Int.reduceEq, Int.reduceLT, Int.reduceLE, Int.lt_irrefl]) () [.int .i64 (n : Int), ptr H.length, .int .i64 0] ⟨H ++ nwL H.length 0, none⟩ trivial (gc_own (l := nwL H.length 0) [[]] [0] [0] rfl rfl (by simp) (by simp [nwL, nwV, blkRefs]) (by simp [lren, vren, rn_own0, findIx]) (by simp [nwL, nwV, renBlk, lren, vren]))
  rw [acall_eq, twainref06_New.eq]
  simp only [nwL, nwV, if_true] at hloop
  simp only [twainref06_New.sh, twainref06_New.j0, twainref06_New.j1, mach, Nat.reduceAdd, Nat.reduceLeDiff, Int.reduceEq, Int.reduceLT, Int.reduceLE, h1, h2, build_rd, hloop, twainref06_New.j4]
  have hn0 : ¬ n = 0 := by omega
  simp only [hn0, if_false]
  exact fin_keep (vs' := [ptr H.length, .int .i64 0]) (l' := nwL H.length n) rfl (gc_own (l := [.cells [.slice (some ⟨H.length + 1, 0, none⟩) n UNK, .int .i64 (-1), .bool false, .int .i64 0] t_twainref06_Disk true, clB (List.replicate n Cl.zero)]) [[1], []] [0] [0, 1] rfl rfl (by simp) (by simp [blkRefs, (clRow_of (List.replicate n Cl.zero)).frefs])
    (by simp [lren, vren, rn_own0, findIx]) (by simp [renBlk, lren, vren, rn_own, rn_own0, findIx, nwL, nwV, hn0, lren_none (clRow_of (List.replicate n Cl.zero)).frefs]))
theorem rnew_at {n : Nat} (H : List Blk) (hn : 1 ≤ n ∧ n ≤ 1024) : RAt (H ++ nwL H.length n) H.length (H.length + 1) (Rf.new n) := by
  have hn0 : ¬ n = 0 := by omega
  refine ⟨⟨UNK, ?_⟩, ?_, ?_⟩
  · simp [nwL, nwV, hn0, Rf.new]
  · simp [nwL, hn0, Rf.new]
  · simp [Rf.new]; omega
end
end DK
end Go.Proofs.YtadllcgmimbjdaaGreat

end
section
namespace Go.Proofs.YtadllcgmimbjdaaGreat
open Go Go.Am Go.Dsk
set_option linter.unusedVariables false
namespace DK
theorem rone_ok (n : Nat) (H : List Blk) : acall PP TT n_twainref01_One [.int .i64 (n : Int)] H = some (.int .u64 (one n), H, none) := by
  have h0 : ¬ (n : Int) < 0 := by omega
  rw [acall_eq, twainref01_One.eq]
  by_cases h : n < 64
  · have h1 : ¬ (63 : Int) < (n : Int) := by omega
    have hloop := loop_upto (n0 := H.length) (step := twainref01_One.loop5s (acall PP TT) loopG H.length) (len := n) (σ := Unit) (fun i _ => ([.int .i64 (n : Int), .int .u64 ((2 ^ i : Nat) : Int), .int .i64 i], ⟨H, none⟩)) (fun _ u => u) (fun _ _ => True) (fun _ => (.exit 0, [.int .u64 ((2 ^ n : Nat) : Int)], ⟨H, none⟩))
      (fun i _ hi _ => by
        have hlt : (i : Int) < (n : Int) := by omega
        have hp : (2 : Nat) ^ (i + 1) < 2 ^ 64 := Nat.pow_lt_pow_right (by decide) (by omega)
        have hm : IntKind.u64.wrap (((2 ^ i : Nat) : Int) * 2) = ((2 ^ (i + 1) : Nat) : Int) := by
          rw [show ((2 ^ i : Nat) : Int) * 2 = ((2 ^ (i + 1) : Nat) : Int) by rw [Nat.pow_succ]; simp]
          exact wrap64_nat hp
        refine ⟨_, _, ?_, gc_same (by simp), trivial⟩
        simp only [twainref01_One.loop5s, twainref01_One.loop5, mach, Nat.reduceAdd, Nat.reduceLeDiff, Int.reduceEq, Int.reduceLT, Int.reduceLE, hlt, hm, wrap_add1 (show i < 4611686018427387904 by omega)])
      (fun _ _ => by simp only [twainref01_One.loop5s, twainref01_One.loop5, mach, Nat.reduceAdd, Nat.reduceLeDiff, Int.reduceEq, Int.reduceLT, Int.reduceLE, Int.lt_irrefl]) () [.int .i64 (n : Int), .int .u64 1, .int .i64 0] ⟨H, none⟩ trivial (gc_same (by simp))
    simp only [twainref01_One.sh, twainref01_One.j0, twainref01_One.j1, mach, Nat.reduceAdd, Nat.reduceLeDiff, Int.reduceEq, Int.reduceLT, Int.reduceLE, h0, h1, hloop, twainref01_One.j4, one, h]
    exact fin_lit0 rfl rfl
  · have h1 : (63 : Int) < (n : Int) := by omega
    simp only [twainref01_One.sh, twainref01_One.j0, mach, Nat.reduceAdd, Nat.reduceLeDiff, Int.reduceEq, Int.reduceLT, Int.reduceLE, h0, h1, one, h]
    exact fin_lit0 rfl rfl
theorem rhas_ok {x : Nat} (hx : x < 2 ^ 64) (n : Nat) (H : List Blk) : acall PP TT n_twainref01_Has [.int .u64 x, .int .i64 (n : Int)] H = some (.bool (decide (n < 64) && x.testBit n), H, none) := by
  have h0 : (n : Int) ≥ 0 := by omega
  have h0' : (0 : Int) ≤ (n : Int) := by omega
  rw [acall_eq, twainref01_Has.eq]
  by_cases h : n < 64
  · have h1 : (n : Int) ≤ 63 := by omega
    have hq : ∀ ox oy, aBin PP .quo t_uint64 ox oy (.int .u64 x) (.int .u64 (one n)) = some (.int .u64 ((x / 2 ^ n : Nat) : Int)) := by
      intro ox oy
      have ho : one n = 2 ^ n := by simp [one, h]
      rw [ho]
      exact bin_quo_nat (by have := Nat.two_pow_pos n; omega) (fun m hm => wrap64_nat (by omega))
    have hr : ∀ ox oy, aBin PP .rem t_uint64 ox oy (.int .u64 ((x / 2 ^ n : Nat) : Int)) (.int .u64 2) = some (.int .u64 ((x / 2 ^ n % 2 : Nat) : Int)) := fun ox oy => rem_nat (y := 2) (by decide)
    have hd : decide (((x / 2 ^ n % 2 : Nat) : Int) = 1) = x.testBit n := by rw [← bit_div]; simp only [decide_eq_decide]; omega
    simp only [twainref01_Has.sh, mach, Nat.reduceAdd, Nat.reduceLeDiff, Int.reduceEq, Int.reduceLT, Int.reduceLE, h0, h0', h1, rone_ok, hq, hr, hd, h]
    exact fin_lit0 rfl rfl
  · have h1 : ¬ (n : Int) ≤ 63 := by omega
    simp only [twainref01_Has.sh, mach, Nat.reduceAdd, Nat.reduceLeDiff, Int.reduceEq, Int.reduceLT, Int.reduceLE, h0, h0', h1, h, Bool.false_and]
    exact fin_lit0 rfl rfl
theorem rwith_ok {x : Nat} (hx : x < 2 ^ 64) (n : Nat) (H : List Blk) : acall PP TT n_twainref01_With [.int .u64 x, .int .i64 (n : Int)] H = some (.int .u64 ((x ||| one n : Nat) : Int), H, none) := by
  rw [acall_eq, twainref01_With.eq]
  by_cases h : n < 64
  · have ho : one n = 2 ^ n := by simp [one, h]
    cases hb : x.testBit n with
    | true =>
      simp only [twainref01_With.sh, mach, Nat.reduceAdd, Nat.reduceLeDiff, Int.reduceEq, Int.reduceLT, Int.reduceLE, rhas_ok hx, h, hb, ho, or_of_bit hb]
      exact fin_lit0 rfl rfl
    | false =>
      have hw : IntKind.u64.wrap ((x : Int) + ((2 ^ n : Nat) : Int)) = ((x ||| 2 ^ n : Nat) : Int) := by
        rw [← add_bit hb]
        have : x + 2 ^ n < 2 ^ 64 := by rw [add_bit hb, ← ho]; exact Nat.or_lt_two_pow hx (one_lt n)
        rw [← Int.natCast_add]
        exact wrap64_nat this
      simp only [twainref01_With.sh, mach, Nat.reduceAdd, Nat.reduceLeDiff, Int.reduceEq, Int.reduceLT, Int.reduceLE, rhas_ok hx, h, hb, rone_ok, ho, hw]
      exact fin_lit0 rfl rfl
  · have ho : one n = 0 := by simp [one, h]
    have hw : IntKind.u64.wrap ((x : Int) + 0) = (x : Int) := by rw [Int.add_zero]; exact wrap64_nat hx
    simp only [twainref01_With.sh, mach, Nat.reduceAdd, Nat.reduceLeDiff, Int.reduceEq, Int.reduceLT, Int.reduceLE, rhas_ok hx, h, Bool.false_and, rone_ok, ho, Int.natCast_zero, hw, Nat.or_zero]
    exact fin_lit0 rfl rfl
theorem rboth_ok {x y : Nat} (hx : x < 2 ^ 64) (hy : y < 2 ^ 64) (H : List Blk) : acall PP TT n_twainref01_Both [.int .u64 x, .int .u64 y] H = some (.int .u64 ((x ||| y : Nat) : Int), H, none) := by
  have hloop := loop_upto (n0 := H.length) (step := twainref01_Both.loop2s (acall PP TT) loopG H.length) (len := 64) (σ := Nat) (fun i a => ([.int .u64 (a : Int), .int .u64 y, .int .i64 i], ⟨H, none⟩)) (fun i a => if y.testBit i = true then a ||| one i else a) (fun _ a => a < 2 ^ 64) (fun a => (.exit 0, [.int .u64 (a : Int)], ⟨H, none⟩))
    (fun i a hi ha => by
      have hlt : (i : Int) < 64 := by omega
      have hw := wrap_add1 (show i < 4611686018427387904 by omega)
      cases hb : y.testBit i with
      | true =>
        refine ⟨_, _, ?_, (gc_same (vs := [.int .u64 ((a ||| one i : Nat) : Int), .int .u64 y, .int .i64 ((i + 1 : Nat) : Int)]) (by simp)).trans (by simp only [if_true]), by simpa only [if_true] using Nat.or_lt_two_pow ha (one_lt i)⟩
        simp only [twainref01_Both.loop2s, twainref01_Both.loop2, twainref01_Both.j1, mach, Nat.reduceAdd, Nat.reduceLeDiff, Int.reduceEq, Int.reduceLT, Int.reduceLE, hlt, rhas_ok hy, hi, hb, rwith_ok ha, hw]
      | false =>
        refine ⟨_, _, ?_, (gc_same (vs := [.int .u64 (a : Int), .int .u64 y, .int .i64 ((i + 1 : Nat) : Int)]) (by simp)).trans (by simp only [Bool.false_eq_true, if_false]), by simpa only [Bool.false_eq_true, if_false] using ha⟩
        simp only [twainref01_Both.loop2s, twainref01_Both.loop2, twainref01_Both.j1, mach, Nat.reduceAdd, Nat.reduceLeDiff, Int.reduceEq, Int.reduceLT, Int.reduceLE, hlt, rhas_ok hy, hi, hb, hw])
    (fun a _ => by simp only [twainref01_Both.loop2s, twainref01_Both.loop2, mach, Nat.reduceAdd, Nat.reduceLeDiff, Int.reduceEq, Int.reduceLT, Int.reduceLE]; rfl) x [.int .u64 x, .int .u64 y, .int .i64 0] ⟨H, none⟩ hx (gc_same (by simp))
  rw [both_bits x y hy] at hloop
  rw [acall_eq, twainref01_Both.eq]
  simp only [twainref01_Both.sh, mach, Nat.reduceAdd, Nat.reduceLeDiff, Int.reduceEq, Int.reduceLT, Int.reduceLE, hloop, twainref01_Both.j3]
  exact fin_lit0 rfl rfl

theorem rstep_ok {x : Nat} (hx : x < 2 ^ 32) (b : UInt8) (H : List Blk) : acall PP TT n_twainref03_Step [.int .u32 x, .int .u8 b.toNat] H = some (.int .u32 (crcStep x b.toNat), H, none) := by
  have hb := byte_lt b
  have h0 := Nat.xor_lt_two_pow hx hb
  have hc1 : ∀ st, aConv PP t_uint8 t_uint32 (.int .u8 b.toNat) st = some (.int .u32 (b.toNat : Nat), st) := by
    intro st
    simp only [aConv, u_uint8, u_uint32]
    rw [wrap32_nat hb]
  have hl := loop_upto (n0 := H.length) (step := twainref03_Step.loop3s (acall PP TT) loopG H.length) (len := 8) (σ := Nat) (fun i y => ([.int .u32 y, .int .i64 i], ⟨H, none⟩)) (fun _ y => bitStep y) (fun _ y => y < 2 ^ 32) (fun y => (.exit 0, [.int .u32 y], ⟨H, none⟩))
    (fun i y hi hy => by
      have hlt : (i : Int) < 8 := by omega
      have hr : ∀ ox oy, aBin PP .rem t_uint32 ox oy (.int .u32 (y : Int)) (.int .u32 2) = some (.int .u32 ((y % 2 : Nat) : Int)) := fun ox oy => rem_nat (y := 2) (by decide)
      have hq : ∀ ox oy, aBin PP .quo t_uint32 ox oy (.int .u32 (y : Int)) (.int .u32 2) = some (.int .u32 ((y / 2 : Nat) : Int)) := fun ox oy => bin_quo_nat (y := 2) (by decide) (fun m hm => wrap32_nat (by omega))
      have hx : ∀ ox oy, aBin PP .xor t_uint32 ox oy (.int .u32 ((y / 2 : Nat) : Int)) (.int .u32 3988292384) = some (.int .u32 ((y / 2 ^^^ 3988292384 : Nat) : Int)) := fun ox oy => bin_xor32 (by omega) (by decide)
      have hw := wrap_add1 (show i < 4611686018427387904 by omega)
      by_cases h2 : y % 2 = 1
      · have h2' : ((y % 2 : Nat) : Int) = 1 := by omega
        refine ⟨_, _, ?_, (gc_same (vs := [.int .u32 ((y / 2 ^^^ 3988292384 : Nat) : Int), .int .i64 ((i + 1 : Nat) : Int)]) (by simp)).trans (by simp only [bitStep, h2, if_true]), bitStep_lt hy⟩
        simp only [twainref03_Step.loop3s, twainref03_Step.loop3, twainref03_Step.j1, mach, Nat.reduceAdd, Nat.reduceLeDiff, Int.reduceEq, Int.reduceLT, Int.reduceLE, hlt, hr, h2', hq, hx, hw]
      · have h2' : ¬ ((y % 2 : Nat) : Int) = 1 := by omega
        refine ⟨_, _, ?_, (gc_same (vs := [.int .u32 ((y / 2 : Nat) : Int), .int .i64 ((i + 1 : Nat) : Int)]) (by simp)).trans (by simp only [bitStep, h2, if_false]), bitStep_lt hy⟩
        simp only [twainref03_Step.loop3s, twainref03_Step.loop3, twainref03_Step.j1, mach, Nat.reduceAdd, Nat.reduceLeDiff, Int.reduceEq, Int.reduceLT, Int.reduceLE, hlt, hr, h2', hq, hw])
    (fun y hy => by simp only [twainref03_Step.loop3s, twainref03_Step.loop3, mach, Nat.reduceAdd, Nat.reduceLeDiff, Int.reduceEq, Int.reduceLT, Int.reduceLE]; rfl) (x ^^^ b.toNat) [.int .u32 ((x ^^^ b.toNat : Nat) : Int), .int .i64 0] ⟨H, none⟩ h0 (gc_same (by simp))
  have e : upto (fun (_ : Nat) y => bitStep y) 8 (x ^^^ b.toNat) = crcStep x b.toNat := (crcStep_bits x b.toNat).symm
  rw [e] at hl
  rw [acall_eq, twainref03_Step.eq]
  simp only [twainref03_Step.sh, mach, Nat.reduceAdd, Nat.reduceLeDiff, Int.reduceEq, Int.reduceLT, Int.reduceLE, hc1, bin_xor32 hx hb, hl, twainref03_Step.j3]
  exact fin_lit0 rfl rfl
theorem fold_upto (l : List UInt8) (x : Nat) : upto (fun i y => crcStep y (l.getD i 0).toNat) l.length x = l.foldl (fun x b => crcStep x b.toNat) x := by
  have key : ∀ n, n ≤ l.length → upto (fun i y => crcStep y (l.getD i 0).toNat) n x = (l.take n).foldl (fun x b => crcStep x b.toNat) x := by
    intro n
    induction n with
    | zero => intro _; simp [upto]
    | succ n ih =>
      intro hn
      rw [upto, ih (by omega), List.take_succ, List.getElem?_eq_getElem (by omega), List.foldl_append]
      simp [List.getD, List.getElem?_eq_getElem (show n < l.length by omega)]
  rw [key _ (Nat.le_refl _), List.take_length]
theorem rmore_ok {x : Nat} (hx : x < 2 ^ 32) {v : Value} {l : List UInt8} {H : List Blk} (hr : Rd H v l.length (bytesV l)) (hv : ∀ r ∈ vrefs v, r < H.length) (hl : l.length < 1000000) : acall PP TT n_twainref03_More [.int .u32 x, v] H = some (.int .u32 (crcMore x l), H, none) := by
  have h0 : x ^^^ 4294967295 < 2 ^ 32 := Nat.xor_lt_two_pow hx (by decide)
  have hlen := hr.len (P := PP) u_L_uint8 ⟨H, none⟩
  have hloop := loop_upto (n0 := H.length) (step := twainref03_More.loop3s (acall PP TT) loopG H.length) (len := l.length) (σ := Nat) (fun i y => ([.int .u32 y, v, .int .i64 l.length, .int .i64 i], ⟨H, none⟩)) (fun i y => crcStep y (l.getD i 0).toNat) (fun _ y => y < 2 ^ 32) (fun y => (.exit 0, [.int .u32 y], ⟨H, none⟩))
    (fun i y hi hy => by
      have hlt : (i : Int) < (l.length : Int) := by omega
      have hg : (bytesV l)[i]? = some (.int .u8 (l.getD i 0).toNat) := by simp [bytesV, List.getD, List.getElem?_eq_getElem hi]
      obtain ⟨p, hp1, hp2⟩ : ∃ p, aIndexAddr PP t_L_uint8 v (.int .i64 (i : Int)) = some p ∧ aLoad false 1 ⟨H, none⟩ p = some (.int .u8 (l.getD i 0).toNat) := by
        refine ⟨rdPtr v i, ?_, hr.load1 (by omega) hg none⟩
        have := hr.index (P := PP) (k := .i64) u_L_uint8 sz_uint8 (i := (i : Int)) (by omega) (by omega)
        simpa using this
      refine ⟨_, _, ?_, gc_same (by simpa using hv), crcStep_lt hy (byte_lt _)⟩
      simp only [twainref03_More.loop3s, twainref03_More.loop3, mach, Nat.reduceAdd, Nat.reduceLeDiff, Int.reduceEq, Int.reduceLT, Int.reduceLE, hlt, hp1, hp2, rstep_ok hy, wrap_add1 (show i < 4611686018427387904 by omega)])
    (fun y hy => by simp only [twainref03_More.loop3s, twainref03_More.loop3, mach, Nat.reduceAdd, Nat.reduceLeDiff, Int.reduceEq, Int.reduceLT, Int.reduceLE, Int.lt_irrefl]) (x ^^^ 4294967295) [.int .u32 ((x ^^^ 4294967295 : Nat) : Int), v, .int .i64 l.length, .int .i64 0] ⟨H, none⟩ h0 (gc_same (by simpa using hv))
  have hq : ∀ (y : Nat) ox oy, y < 2 ^ 32 → aBin PP .xor t_uint32 ox oy (.int .u32 y) (.int .u32 4294967295) = some (.int .u32 ((y ^^^ 4294967295 : Nat) : Int)) := fun y ox oy hy => bin_xor32 hy (by decide)
  rw [acall_eq, twainref03_More.eq]
  rw [fold_upto] at hloop
  simp only [twainref03_More.sh, mach, Nat.reduceAdd, Nat.reduceLeDiff, Int.reduceEq, Int.reduceLT, Int.reduceLE, hq x _ _ hx, hlen, hloop, twainref03_More.j2, hq _ _ _ (fold_lt h0 l)]
  exact fin_lit0 rfl rfl
theorem rsum_ok {x : Value} {l : List UInt8} {H : List Blk} (hr : Rd H x l.length (bytesV l)) (hv : ∀ r ∈ vrefs x, r < H.length) (hl : l.length < 1000000) : acall PP TT n_twainref03_Sum [x] H = some (.int .u32 (crcMore 0 l), H, none) := by
  have := rmore_ok (x := 0) (by decide) hr hv hl
  rw [acall_eq, twainref03_Sum.eq]
  rw [show ((0 : Nat) : Int) = 0 from rfl] at this
  simp only [twainref03_Sum.sh, mach, Nat.reduceAdd, Nat.reduceLeDiff, Int.reduceEq, Int.reduceLT, Int.reduceLE, this]
  exact fin_lit0 rfl rfl
end DK
end Go.Proofs.YtadllcgmimbjdaaGreat

end
section
namespace Go.Proofs.YtadllcgmimbjdaaGreat
open Go Go.Am Go.Dsk
set_option linter.unusedVariables false
namespace DK
section
variable {H : List Blk} {b kr : Nat} {r : Rf} {d : Dk}
abbrev byB (l : List UInt8) : Blk := .cells (bytesV l) t_uint8 true
/-- a row of bytes that grows, behind a row of words -/
def rowY (n0 o : Nat) (l : List UInt8) : Value := if l = [] then .slice none 0 0 else .slice (some ⟨n0 + o, 0, none⟩) l.length UNK
def blkY (l : List UInt8) : List Blk := if l = [] then [] else [byB l]
theorem blkU_flat (out : List Nat) : ∀ x ∈ blkU out, blkRefs x = [] := by
  intro x hx
  unfold blkU at hx
  split at hx
  · simp at hx
  · simp at hx; subst hx; rw [blkRefs_cells]; exact u32V_refs _
theorem byB_flat (l : List UInt8) : blkRefs (byB l) = [] := by rw [blkRefs_cells]; exact bytesV_refs _
theorem secB_flat (s : Sec) : blkRefs (.cells s.cells t_api_Sector true) = [] := by rw [blkRefs_cells]; exact sec_refs _

/-- behind a round of the inner loop -/
theorem gc_in (hb : b < H.length) (out : List Nat) (X : List Blk) (hX : ∀ x ∈ X, blkRefs x = []) (l : List UInt8) (hl : l ≠ []) (x y : Value) (hx : vrefs x = []) (hy : vrefs y = []) : gc H.length [ptr b, rowU H.length out, x, .slice (some ⟨H.length + ((blkU out).length + X.length), 0, none⟩) l.length UNK, y] ⟨H ++ (blkU out ++ (X ++ [byB l])), none⟩ = ([ptr b, rowU H.length out, x, rowY H.length (blkU out).length l, y], ⟨H ++ (blkU out ++ blkY l), none⟩) := by
  have hflat : ∀ z ∈ blkU out ++ (X ++ [byB l]), blkRefs z = [] := by
    intro z hz
    rcases List.mem_append.1 hz with hz | hz
    · exact blkU_flat out z hz
    · rcases List.mem_append.1 hz with hz | hz
      · exact hX z hz
      · simp at hz; subst hz; exact byB_flat l
  by_cases ho : out = []
  · subst ho
    have hg : ([] ++ (X ++ [byB l])).getD X.length .dead = byB l := by simp [List.getD]
    refine gc_flats [X.length] hflat rfl ?_ (by simp [hx, hy, rowU]) ?_ ?_
    · simp [hx, hy, rowU, blkU, news_old hb, news_own]
    · simp [lren, vren, rowU, rowY, hl, blkU, once, vren_none hx, vren_none hy, rn_own, findIx, rn, renum, hb]
      try (intro h; omega)
    · simp [once, blkU, blkY, hl]
  · refine gc_flats [0, 1 + X.length] hflat rfl ?_ (by simp [hx, hy, rowU, ho]) ?_ ?_
    · simp [hx, hy, rowU, blkU, ho, news_old hb, news_own, news_own0]
    · have h1 : ¬ 1 + X.length = 0 := by omega
      have h2 : ¬ 0 = 1 + X.length := by omega
      simp [lren, vren, rowU, rowY, hl, ho, blkU, once, vren_none hx, vren_none hy, rn_own, rn_own0, findIx, rn, renum, hb, h1, h2]
      try (intro h; omega)
    · have h1 : ¬ 1 + X.length = 0 := by omega
      have hg : ([Blk.cells (u32V out) t_uint32 true] ++ (X ++ [byB l])).getD (1 + X.length) .dead = byB l := by
        simp [List.getD, Nat.add_comm 1]
      simp [once, blkU, blkY, hl, ho, h1]
      simpa using hg

theorem src_sec {st : AS} {k : Nat} {s : Sec} (h : st.H[k]? = some (.cells s.cells t_api_Sector true)) : srcCells 1 st.H (.slice (some ⟨k, 0, none⟩) 16 16) = some (16, s.cells) := by
  simp [srcCells, cellsAt, h, s.len, take_sec]
def ext4 (d : Dk) (e : Nat) (k : Nat) (l : List UInt8) : List UInt8 := l ++ (d.durable ((8 + (4 * e + k) : Nat) : Int)).val
theorem inner_ok (h : RAt H b kr r) (hs : Sim d r) (out : List Nat) (e : Nat) (he : e < 1000) :
    loopG H.length (twainref46_Sums.loop7s (acall PP TT) loopG H.length) ([ptr b, rowU H.length out, .int .i64 (e : Int), .slice none 0 0, .int .i64 0], ⟨H ++ blkU out, none⟩) = some (.exit 2, [ptr b, rowU H.length out, .int .i64 (e : Int), rowY H.length (blkU out).length (upto (ext4 d e) 4 [])], ⟨H ++ (blkU out ++ blkY (upto (ext4 d e) 4 [])), none⟩) := by
  have hb := blk_lt h.hb.choose_spec
  have hgU : ∀ y, vrefs y = [] → gc H.length [ptr b, rowU H.length out, .int .i64 (e : Int), .slice none 0 0, y] ⟨H ++ blkU out, none⟩ = ([ptr b, rowU H.length out, .int .i64 (e : Int), .slice none 0 0, y], ⟨H ++ blkU out, none⟩) := by
    intro y hy
    by_cases ho : out = []
    · subst ho
      simp only [rowU, blkU, if_true, List.append_nil]
      exact gc_same (by simp [hb, hy])
    · refine gc_flats [0] (blkU_flat out) rfl ?_ (by simp [hy, rowU, ho]) ?_ ?_
      · simp [hy, rowU, ho, news_old hb, news_own0]
      · simp [lren, vren, rowU, ho, once, vren_none hy, rn_own0, findIx, rn, renum, hb]
      · simp [once, blkU, ho]
  have := loop_upto (n0 := H.length) (step := twainref46_Sums.loop7s (acall PP TT) loopG H.length) (len := 4) (σ := List UInt8) (fun k l => ([ptr b, rowU H.length out, .int .i64 (e : Int), rowY H.length (blkU out).length l, .int .i64 k], ⟨H ++ (blkU out ++ blkY l), none⟩)) (ext4 d e) (fun k l => l.length = 16 * k) (fun l => (.exit 2, [ptr b, rowU H.length out, .int .i64 (e : Int), rowY H.length (blkU out).length l], ⟨H ++ (blkU out ++ blkY l), none⟩))
    (fun k l hk hl => by
      have hlt : (k : Int) < 4 := by omega
      have hw := wrap_add1 (show k < 4611686018427387904 by omega)
      have w1 : IntKind.i64.wrap (4 * (e : Int)) = ((4 * e : Nat) : Int) := by rw [wrap_i64 ⟨by omega, by omega⟩]; omega
      have w2 : IntKind.i64.wrap (8 + ((4 * e : Nat) : Int)) = ((8 + 4 * e : Nat) : Int) := by rw [wrap_i64 ⟨by omega, by omega⟩]; omega
      have w3 : IntKind.i64.wrap (((8 + 4 * e : Nat) : Int) + (k : Int)) = ((8 + (4 * e + k) : Nat) : Int) := by rw [wrap_i64 ⟨by omega, by omega⟩]; omega
      have hd := rdurable_ok (h.app (blkU out ++ blkY l)) ((8 + (4 * e + k) : Nat) : Int)
      rw [hs.durable] at hd
      generalize hsec : d.durable ((8 + (4 * e + k) : Nat) : Int) = s at hd
      have hext : ext4 d e k l = l ++ s.val := by unfold ext4; rw [hsec]
      have hne : l ++ s.val ≠ [] := by
        intro hc
        have := congrArg List.length hc
        simp [s.2] at this
      have hlen : (ext4 d e k l).length = 16 * (k + 1) := by rw [hext]; simp [s.2, hl]; omega
      have hsrc : srcCells 1 (H ++ (blkU out ++ (blkY l ++ [Blk.cells s.cells t_api_Sector true]))) (.slice (some ⟨H.length + ((blkU out).length + (blkY l).length), 0, none⟩) 16 16) = some (16, s.cells) :=
        src_sec (st := ⟨H ++ (blkU out ++ (blkY l ++ [Blk.cells s.cells t_api_Sector true])), none⟩) (by simp [get_app])
      have hbx : putB (blkU out ++ (blkY l ++ [Blk.cells z_api_Sector t_api_Sector true])) ((blkU out).length + (blkY l).length) 0 s.cells = some (blkU out ++ (blkY l ++ [Blk.cells s.cells t_api_Sector true])) := by
        have := putB_end (t := t_api_Sector) (cs := z_api_Sector) (vs := s.cells) (blkU out ++ blkY l) (by rw [s.len, zl_api_Sector]) (sec_all s)
        simpa only [List.append_assoc, List.length_append] using this
      have happ : ∀ (F : Value → AS → Option ((List Value × AS) ⊕ (AEx × List Value × AS))), ∃ X, (∀ x ∈ X, blkRefs x = []) ∧ eBuiltin PP .append #[t_L_uint8, t_L_uint8] [rowY H.length (blkU out).length l, .slice (some ⟨H.length + ((blkU out).length + (blkY l).length), 0, none⟩) 16 16] ⟨H ++ (blkU out ++ (blkY l ++ [Blk.cells s.cells t_api_Sector true])), none⟩ F = F (.slice (some ⟨H.length + ((blkU out).length + X.length), 0, none⟩) (l ++ s.val).length UNK) ⟨H ++ (blkU out ++ (X ++ [byB (l ++ s.val)])), none⟩ := by
        intro F
        by_cases h0 : l = []
        · subst h0
          refine ⟨[Blk.cells s.cells t_api_Sector true], by simpa using secB_flat s, ?_⟩
          have := app_nil (P := PP) (R := (List Value × AS) ⊕ (AEx × List Value × AS)) (k := F) (st := ⟨H ++ (blkU out ++ (blkY [] ++ [Blk.cells s.cells t_api_Sector true])), none⟩) el_L_uint8 hsrc (by decide) (by decide)
          simp only [rowY, if_true]
          rw [this]
          simp [blkY, s.2, Sec.cells]
        · refine ⟨[.dead, Blk.cells s.cells t_api_Sector true], by simpa [blkRefs_dead] using secB_flat s, ?_⟩
          have hk : (H ++ (blkU out ++ (blkY l ++ [Blk.cells s.cells t_api_Sector true])))[H.length + (blkU out).length]? = some (byB l) := by simp [blkY, h0]
          have := app_more (P := PP) (R := (List Value × AS) ⊕ (AEx × List Value × AS)) (k := F) (st := ⟨H ++ (blkU out ++ (blkY l ++ [Blk.cells s.cells t_api_Sector true])), none⟩) (m := l.length) (bk := H.length + (blkU out).length) el_L_uint8 hk (by rw [bytesV_len, Nat.mul_one]) hsrc (by decide) (by omega)
          simp only [rowY, h0, if_false]
          rw [this]
          have e1 : (H ++ (blkU out ++ (blkY l ++ [Blk.cells s.cells t_api_Sector true]))).set (H.length + (blkU out).length) .dead = H ++ (blkU out ++ [.dead, Blk.cells s.cells t_api_Sector true]) := by
            rw [set_app (H := H) (l := blkU out ++ (blkY l ++ [Blk.cells s.cells t_api_Sector true])) (blkU out).length .dead, set_app0 (H := blkU out) (l := blkY l ++ [Blk.cells s.cells t_api_Sector true]) .dead]
            simp [blkY, h0]
          simp only [e1]
          have e2 : bytesV l ++ s.cells = bytesV (l ++ s.val) := by simp [bytesV, Sec.cells]
          simp [blkY, h0, s.2, e2]
      obtain ⟨X, hX, hap⟩ := happ (fun x15 s16 => (aBin PP .add t_int (.tmp 22) (.const (.int .i64 1)) (.int .i64 (k : Int)) (.int .i64 1)).bind fun x17 => some (.inl ([ptr b, rowU H.length out, .int .i64 (e : Int), x15, x17], s16)))
      refine ⟨_, _, ?_, (gc_in hb out X hX (l ++ s.val) hne (.int .i64 (e : Int)) (.int .i64 ((k + 1 : Nat) : Int)) rfl rfl).trans (by rw [hext]), hlen⟩
      simp only [twainref46_Sums.loop7s, twainref46_Sums.loop7, mach, Nat.reduceAdd, Nat.reduceLeDiff, Int.reduceEq, Int.reduceLT, Int.reduceLE, hlt, w1, w2, w3, hd, zg_api_Sector, za_api_Sector, s.len, hbx, sec_refs, slice_sec]
      simp only [mach, Nat.reduceAdd, Nat.reduceLeDiff, Int.reduceEq, Int.reduceLT, Int.reduceLE] at hap
      rw [hap]
      simp only [hw])
    (fun l _ => by simp only [twainref46_Sums.loop7s, twainref46_Sums.loop7, mach, Nat.reduceAdd, Nat.reduceLeDiff, Int.reduceEq, Int.reduceLT, Int.reduceLE]; rfl) [] [ptr b, rowU H.length out, .int .i64 (e : Int), .slice none 0 0, .int .i64 0] ⟨H ++ blkU out, none⟩ rfl (by simpa [rowY, blkY] using hgU (.int .i64 0) rfl)
  exact this

theorem crcMore_app (x : Nat) (a c : List UInt8) : crcMore (crcMore x a) c = crcMore x (a ++ c) := by
  unfold crcMore
  rw [Nat.xor_assoc, Nat.xor_self, Nat.xor_zero, List.foldl_append]
theorem sum_bytes (d : Dk) (e : Nat) : crcMore 0 (upto (ext4 d e) 4 []) = sumOf d e := by
  simp only [upto, ext4, sumOf, List.nil_append, crcMore_app]
theorem bytes_len (d : Dk) (e : Nat) : (upto (ext4 d e) 4 []).length = 64 := by
  simp only [upto, ext4, List.nil_append, List.length_append]
  rw [(d.durable _).2, (d.durable _).2, (d.durable _).2, (d.durable _).2]
theorem secs_same {r : Rf} {d : Dk} (hs : Sim d r) : Rf.secs r = Dk.secs d := by unfold Rf.secs Dk.secs; rw [hs.len]
theorem rsums_ok (h : RAt H b kr r) (hs : Sim d r) : acall PP TT n_twainref46_Sums [ptr b] H = some (tSl (sums d).length (u32V (sums d)), H, none) := by
  have hb := blk_lt h.hb.choose_spec
  have hf := h.few
  have hsec : Dk.secs d ≤ 1024 := by rw [← secs_same hs]; unfold Rf.secs; omega
  have hcond : ∀ (out : List Nat) (e : Nat), e ≤ 64 → acall PP TT n_twainref12_Sectors [ptr b] (H ++ blkU out) = some (.int .i64 (Dk.secs d : Nat), H ++ blkU out, none) := by
    intro out e he
    have := rsectors_ok (h.app (blkU out))
    rw [secs_same hs] at this
    exact this
  have hloop := loop_upto (n0 := H.length) (step := twainref46_Sums.loop3s (acall PP TT) loopG H.length) (len := min (Dk.secs d / 4) 64) (σ := List Nat) (fun e out => ([ptr b, rowU H.length out, .int .i64 e], ⟨H ++ blkU out, none⟩)) (fun e out => out ++ [sumOf d e]) (fun e out => out.length = e) (fun out => (.exit 0, [rowU H.length out], ⟨H ++ blkU out, none⟩))
    (fun e out he ho => by
      subst ho
      have w1 : IntKind.i64.wrap (4 * (out.length : Int)) = ((4 * out.length : Nat) : Int) := by rw [wrap_i64 ⟨by omega, by omega⟩]; omega
      have w2 : IntKind.i64.wrap (((4 * out.length : Nat) : Int) + 4) = ((4 * out.length + 4 : Nat) : Int) := by rw [wrap_i64 ⟨by omega, by omega⟩]; omega
      have hle : ((4 * out.length + 4 : Nat) : Int) ≤ ((Dk.secs d : Nat) : Int) := by omega
      have hlt : (out.length : Int) < 64 := by omega
      have hw := wrap_add1 (show out.length < 4611686018427387904 by omega)
      have hin := inner_ok h hs out out.length (by omega)
      have hne : upto (ext4 d out.length) 4 [] ≠ [] := fun hc => by have := bytes_len d out.length; rw [hc] at this; simp at this
      have hsum := rsum_ok (x := rowY H.length (blkU out).length (upto (ext4 d out.length) 4 [])) (l := upto (ext4 d out.length) 4 []) (H := H ++ (blkU out ++ blkY (upto (ext4 d out.length) 4 [])))
        (by simp only [rowY, hne, if_false]; exact .own (bs := bytesV (upto (ext4 d out.length) 4 [])) (t := t_uint8) (own := true) (by simp [blkY, hne]) (by simp) (by rw [List.drop_zero]; exact List.take_length))
        (by simp [rowY, hne, blkY]) (by rw [bytes_len]; decide)
      rw [sum_bytes] at hsum
      have hu : u32V out ++ [.int .u32 (sumOf d out.length : Nat)] = u32V (out ++ [sumOf d out.length]) := by simp [u32V]
      have hpush : ∀ F : Value → AS → Option (AEx × List Value × AS), ∃ k l, l[k]? = some (.cells (u32V (out ++ [sumOf d out.length])) t_uint32 true) ∧ ((bsl PP t_L_uint32 1 [0] [.int .u32 (sumOf d out.length : Nat)] ⟨H ++ (blkU out ++ blkY (upto (ext4 d out.length) 4 [])), none⟩).bind fun q => eBuiltin PP .append #[t_L_uint32, t_L_uint32] [rowU H.length out, q.1] q.2 F) = F (.slice (some ⟨H.length + k, 0, none⟩) (out.length + 1) UNK) ⟨H ++ l, none⟩ := by
        intro F
        by_cases h0 : out = []
        · subst h0
          have hp := push_nil (P := PP) (H0 := H) (l := blkY (upto (ext4 d 0) 4 [])) (e := none) (r := [.int .u32 (sumOf d 0 : Nat)]) (v := .int .u32 (sumOf d 0 : Nat)) (F := F) el_L_uint32 rfl (fun H' e' => bsl_u32 _ ⟨H', e'⟩)
          refine ⟨_, _, ?_, by simpa only [blkU, if_true, List.nil_append, rowU, List.length_nil] using hp⟩
          simp [u32V]
        · have hp := push_more0 (P := PP) (H0 := H) (l := blkU out ++ blkY (upto (ext4 d out.length) 4 [])) (e := none) (m := out.length) (r := [.int .u32 (sumOf d out.length : Nat)]) (v := .int .u32 (sumOf d out.length : Nat)) (F := F) el_L_uint32 rfl (fun H' e' => bsl_u32 _ ⟨H', e'⟩) (old := u32V out) (by simp [blkU, h0]) (by rw [u32V_len, Nat.mul_one]) (by omega)
          refine ⟨_, _, ?_, by simpa only [rowU, h0, if_false] using hp⟩
          simp [hu]
      obtain ⟨k, l, hk, hp⟩ := hpush (fun x22 s23 => some (AEx.normal, [ptr b, x22, .int .i64 (out.length : Int)], s23))
      have hgc := gc_rowk (vs := [ptr b, .slice (some ⟨H.length + k, 0, none⟩) (out.length + 1) UNK, .int .i64 ((out.length + 1 : Nat) : Int)]) (H := H) hk (by simp [hb]) (by simp) (u32V_refs _) (by simp) (e := none) rfl
      refine ⟨_, _, ?_, hgc.trans ?_, by simp⟩
      · simp only [twainref46_Sums.loop3s, twainref46_Sums.loop3, twainref46_Sums.j1, twainref46_Sums.j2, twainref46_Sums.j5, twainref46_Sums.j6, mach, Nat.reduceAdd, Nat.reduceLeDiff, Int.reduceEq, Int.reduceLT, Int.reduceLE, w1, w2, hcond out out.length (by omega), hle, hlt]
        simp only [hin, mach, Nat.reduceAdd, Nat.reduceLeDiff, Int.reduceEq, Int.reduceLT, Int.reduceLE, hsum]
        rw [hp]
        simp only [mach, Nat.reduceAdd, Nat.reduceLeDiff, Int.reduceEq, Int.reduceLT, Int.reduceLE, hw]
      · simp [lren, vren, mv_eq, mv_lt (show b < H.length + k by omega), rowU, blkU])
    (fun out ho => by
      have w1 : IntKind.i64.wrap (4 * ((min (Dk.secs d / 4) 64 : Nat) : Int)) = ((4 * min (Dk.secs d / 4) 64 : Nat) : Int) := by rw [wrap_i64 ⟨by omega, by omega⟩]; omega
      have w2 : IntKind.i64.wrap (((4 * min (Dk.secs d / 4) 64 : Nat) : Int) + 4) = ((4 * min (Dk.secs d / 4) 64 + 4 : Nat) : Int) := by rw [wrap_i64 ⟨by omega, by omega⟩]; omega
      by_cases hle : ((4 * min (Dk.secs d / 4) 64 + 4 : Nat) : Int) ≤ ((Dk.secs d : Nat) : Int)
      · have hlt : ¬ ((min (Dk.secs d / 4) 64 : Nat) : Int) < 64 := by omega
        simp only [twainref46_Sums.loop3s, twainref46_Sums.loop3, twainref46_Sums.j1, mach, Nat.reduceAdd, Nat.reduceLeDiff, Int.reduceEq, Int.reduceLT, Int.reduceLE, w1, w2, hcond out 0 (by omega), hle, hlt]
      · simp only [twainref46_Sums.loop3s, twainref46_Sums.loop3, twainref46_Sums.j1, mach, Nat.reduceAdd, Nat.reduceLeDiff, Int.reduceEq, Int.reduceLT, Int.reduceLE, w1, w2, hcond out 0 (by omega), hle]) [] [ptr b, .slice none 0 0, .int .i64 0] ⟨H, none⟩ rfl (by simp [rowU, blkU]; exact gc_same (by simp [hb]))
  have hup : ∀ n, upto (fun i l => l ++ [sumOf d i]) n [] = (List.range n).map (sumOf d) := by
    intro n
    induction n with
    | zero => rfl
    | succ n ih => rw [upto, ih, List.range_succ, List.map_append]; rfl
  rw [hup] at hloop
  rw [acall_eq, twainref46_Sums.eq]
  simp only [twainref46_Sums.sh, mach, Nat.reduceAdd, Nat.reduceLeDiff, Int.reduceEq, Int.reduceLT, Int.reduceLE, hloop, twainref46_Sums.j8]
  change fin PP false H.length [rowU H.length (sums d)] ⟨H ++ blkU (sums d), none⟩ = _
  by_cases he : sums d = []
  · rw [he]
    simp only [rowU, blkU, if_true, List.append_nil]
    exact fin_nil0
  · simp only [rowU, blkU, he, if_false]
    exact fin_row0 (l := [.cells (u32V (sums d)) t_uint32 true]) rfl sz_uint32 (by rw [u32V_len, Nat.mul_one]) (u32V_noSl _) (u32V_refs _) rfl
end
end DK
end Go.Proofs.YtadllcgmimbjdaaGreat

end
section
namespace Go.Proofs.YtadllcgmimbjdaaGreat
open Go Go.Am Go.Dsk
set_option linter.unusedVariables false
namespace DK
section
variable {H : List Blk} {b kr : Nat} {r : Rf} {d : Dk}
theorem runlike_ok {a ka : Nat} {ra : Rf} {da : Dk} (ha : RAt H a ka ra) (h : RAt H b kr r) (sa : Sim da ra) (s : Sim d r) : acall PP TT n_twainref46_Unlike [ptr a, ptr b] H = some (.int .u64 (unlike da d), H, none) := by
  have hla := blk_lt ha.hb.choose_spec
  have hlb := blk_lt h.hb.choose_spec
  have c1 := rsectors_ok ha
  have c2 := rsectors_ok h
  rw [secs_same sa] at c1
  rw [secs_same s] at c2
  have hsm : min (Dk.secs da) (Dk.secs d) ≤ 1024 := by have := h.few; rw [← secs_same s]; unfold Rf.secs; omega
  have hloop := loop_upto (n0 := H.length) (step := twainref46_Unlike.loop3s (acall PP TT) loopG H.length) (len := min (Dk.secs da) (Dk.secs d)) (σ := Nat) (fun i x => ([ptr a, ptr b, .int .u64 x, .int .i64 i], ⟨H, none⟩)) (fun s x => if dur da s = dur d s then x else x ||| one (s / 4)) (fun i x => x < 2 ^ 64) (fun x => (.exit 0, [.int .u64 x], ⟨H, none⟩))
    (fun i x hi hx => by
      have hl1 : (i : Int) < ((Dk.secs da : Nat) : Int) := by omega
      have hl2 : (i : Int) < ((Dk.secs d : Nat) : Int) := by omega
      have hadd := wrap_add1 (show i < 4611686018427387904 by omega)
      have h8 : IntKind.i64.wrap (8 + (i : Int)) = ((8 + i : Nat) : Int) := by rw [wrap_i64 ⟨by omega, by omega⟩]; omega
      have hq : ∀ ox oy, aBin PP .quo t_int ox oy (.int .i64 (i : Int)) (.int .i64 4) = some (.int .i64 ((i / 4 : Nat) : Int)) := fun ox oy => bin_quo_nat (y := 4) (by decide) (fun n hn => wrap_nat (by omega))
      have hgc : ∀ y : Nat, gc H.length [ptr a, ptr b, .int .u64 (y : Int), .int .i64 ((i + 1 : Nat) : Int)] ⟨H, none⟩ = ([ptr a, ptr b, .int .u64 (y : Int), .int .i64 ((i + 1 : Nat) : Int)], ⟨H, none⟩) := fun y => gc_same (by simp [hla, hlb])
      have h1 := rdurable_ok ha ((8 + i : Nat) : Int)
      have h2 := rdurable_ok h ((8 + i : Nat) : Int)
      rw [sa.durable] at h1
      rw [s.durable] at h2
      by_cases he : dur da i = dur d i
      · refine ⟨_, _, ?_, (hgc x).trans (by simp only [he, if_true]), by simpa only [he, if_true] using hx⟩
        have he' : da.durable ((8 + i : Nat) : Int) = d.durable ((8 + i : Nat) : Int) := he
        simp only [twainref46_Unlike.loop3s, twainref46_Unlike.loop3, twainref46_Unlike.j1, twainref46_Unlike.j2, twainref46_Unlike.j3, mach, Nat.reduceAdd, Nat.reduceLeDiff, Int.reduceEq, Int.reduceLT, Int.reduceLE, c1, c2, hl1, hl2, h8, h1, h2, neq_sec, he', hadd]
      · refine ⟨_, _, ?_, (hgc (x ||| one (i / 4))).trans (by simp only [he, if_false]), by simpa only [he, if_false] using Nat.or_lt_two_pow hx (one_lt _)⟩
        have he' : ¬ da.durable ((8 + i : Nat) : Int) = d.durable ((8 + i : Nat) : Int) := he
        simp only [twainref46_Unlike.loop3s, twainref46_Unlike.loop3, twainref46_Unlike.j1, twainref46_Unlike.j2, twainref46_Unlike.j3, mach, Nat.reduceAdd, Nat.reduceLeDiff, Int.reduceEq, Int.reduceLT, Int.reduceLE, c1, c2, hl1, hl2, h8, h1, h2, neq_sec, he', hq, rwith_ok hx, hadd])
    (fun x hx => by
      by_cases hl1 : ((min (Dk.secs da) (Dk.secs d) : Nat) : Int) < ((Dk.secs da : Nat) : Int)
      · have hl2 : ¬ ((min (Dk.secs da) (Dk.secs d) : Nat) : Int) < ((Dk.secs d : Nat) : Int) := by omega
        simp only [twainref46_Unlike.loop3s, twainref46_Unlike.loop3, twainref46_Unlike.j1, mach, Nat.reduceAdd, Nat.reduceLeDiff, Int.reduceEq, Int.reduceLT, Int.reduceLE, c1, c2, hl1, hl2]
      · simp only [twainref46_Unlike.loop3s, twainref46_Unlike.loop3, twainref46_Unlike.j1, mach, Nat.reduceAdd, Nat.reduceLeDiff, Int.reduceEq, Int.reduceLT, Int.reduceLE, c1, hl1]) 0 [ptr a, ptr b, .int .u64 0, .int .i64 0] ⟨H, none⟩ (by decide) (gc_same (by simp [hla, hlb]))
  rw [acall_eq, twainref46_Unlike.eq]
  simp only [twainref46_Unlike.sh, mach, Nat.reduceAdd, Nat.reduceLeDiff, Int.reduceEq, Int.reduceLT, Int.reduceLE, hloop, twainref46_Unlike.j5]
  exact fin_lit0 rfl rfl

theorem rsuspect_ok (p q : List Nat) (hp : p.length < 1000000) (hq : q.length < 1000000) (H : List Blk) : acall PP TT n_twainref46_Suspect [tSl p.length (u32V p), tSl q.length (u32V q)] H = some (.int .u64 (suspect p q), H, none) := by
  have hloop := loop_upto (n0 := H.length) (step := twainref46_Suspect.loop3s (acall PP TT) loopG H.length) (len := min (min p.length q.length) 64) (σ := Nat) (fun i x => ([tSl p.length (u32V p), tSl q.length (u32V q), .int .u64 x, .int .i64 i], ⟨H, none⟩)) (fun i x => if p.getD i 0 = q.getD i 0 then x else x ||| one i) (fun i x => x < 2 ^ 64) (fun x => (.exit 0, [.int .u64 x], ⟨H, none⟩))
    (fun i x hi hx => by
      have hl1 : (i : Int) < (p.length : Int) := by omega
      have hl2 : (i : Int) < (q.length : Int) := by omega
      have hl3 : (i : Int) < 64 := by omega
      have hip : i < p.length := by omega
      have hiq : i < q.length := by omega
      have gp : p[i]? = some (p.getD i 0) := by simp [List.getD, hip]
      have gq : q[i]? = some (q.getD i 0) := by simp [List.getD, hiq]
      have hadd := wrap_add1 (show i < 4611686018427387904 by omega)
      have hgc : ∀ y : Nat, gc H.length [tSl p.length (u32V p), tSl q.length (u32V q), .int .u64 (y : Int), .int .i64 ((i + 1 : Nat) : Int)] ⟨H, none⟩ = ([tSl p.length (u32V p), tSl q.length (u32V q), .int .u64 (y : Int), .int .i64 ((i + 1 : Nat) : Int)], ⟨H, none⟩) := fun y => gc_same (by simp [u32V_refs])
      by_cases hpq : p.getD i 0 = q.getD i 0
      · refine ⟨_, _, ?_, (hgc x).trans (by simp only [hpq, if_true]), by simpa only [hpq, if_true] using hx⟩
        simp only [twainref46_Suspect.loop3s, twainref46_Suspect.loop3, twainref46_Suspect.j1, twainref46_Suspect.j2, twainref46_Suspect.j3, mach, Nat.reduceAdd, Nat.reduceLeDiff, Int.reduceEq, Int.reduceLT, Int.reduceLE, tsl_len u_L_uint32, hl1, hl2, hl3, u32_ix hip, u32_ix hiq, u32_ld gp, u32_ld gq, hpq, hadd]
      · refine ⟨_, _, ?_, (hgc (x ||| one i)).trans (by simp only [hpq, if_false]), by simpa only [hpq, if_false] using Nat.or_lt_two_pow hx (one_lt i)⟩
        have hne : ¬ (((p.getD i 0 : Nat) : Int) = ((q.getD i 0 : Nat) : Int)) := by omega
        simp only [twainref46_Suspect.loop3s, twainref46_Suspect.loop3, twainref46_Suspect.j1, twainref46_Suspect.j2, twainref46_Suspect.j3, mach, Nat.reduceAdd, Nat.reduceLeDiff, Int.reduceEq, Int.reduceLT, Int.reduceLE, tsl_len u_L_uint32, hl1, hl2, hl3, u32_ix hip, u32_ix hiq, u32_ld gp, u32_ld gq, hne, rwith_ok hx, hadd])
    (fun x hx => by
      by_cases hl1 : ((min (min p.length q.length) 64 : Nat) : Int) < (p.length : Int)
      · by_cases hl2 : ((min (min p.length q.length) 64 : Nat) : Int) < (q.length : Int)
        · have hl3 : ¬ ((min (min p.length q.length) 64 : Nat) : Int) < 64 := by omega
          simp only [twainref46_Suspect.loop3s, twainref46_Suspect.loop3, twainref46_Suspect.j1, mach, Nat.reduceAdd, Nat.reduceLeDiff, Int.reduceEq, Int.reduceLT, Int.reduceLE, tsl_len u_L_uint32, hl1, hl2, hl3]
        · simp only [twainref46_Suspect.loop3s, twainref46_Suspect.loop3, twainref46_Suspect.j1, mach, Nat.reduceAdd, Nat.reduceLeDiff, Int.reduceEq, Int.reduceLT, Int.reduceLE, tsl_len u_L_uint32, hl1, hl2]
      · simp only [twainref46_Suspect.loop3s, twainref46_Suspect.loop3, twainref46_Suspect.j1, mach, Nat.reduceAdd, Nat.reduceLeDiff, Int.reduceEq, Int.reduceLT, Int.reduceLE, tsl_len u_L_uint32, hl1]) 0 [tSl p.length (u32V p), tSl q.length (u32V q), .int .u64 0, .int .i64 0] ⟨H, none⟩ (by decide) (gc_same (by simp [u32V_refs]))
  rw [acall_eq, twainref46_Suspect.eq]
  simp only [twainref46_Suspect.sh, mach, Nat.reduceAdd, Nat.reduceLeDiff, Int.reduceEq, Int.reduceLT, Int.reduceLE, hloop, twainref46_Suspect.j5]
  exact fin_lit0 rfl rfl
end
end DK
end Go.Proofs.YtadllcgmimbjdaaGreat

end
