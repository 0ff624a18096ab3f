/- A part of the proof: Dk1, Dk2, Dk3, Dk4. Its conditions: none. -/
import Derived.Test.YtadllcgmimbjdaaGreatCtOps
import Derived.Test.YtadllcgmimbjdaaGreatDskP
import Derived.Test.YtadllcgmimbjdaaGreatAm32
set_option linter.all false
set_option linter.unusedVariables false
set_option linter.unusedSimpArgs false
set_option linter.unnecessarySimpa false
section
namespace Go.Proofs.YtadllcgmimbjdaaGreat
open Go Go.Am Go.Dsk
set_option linter.unusedVariables false
namespace DK

abbrev ptr (b : Nat) : Value := .pointer (some ⟨b, 0, none⟩)
abbrev KF (p : Int × Sec) : Value := .int .i64 p.1
abbrev VF (p : Int × Sec) : Value := .agg p.2.cells.toArray
/-- a disk's own block -/
abbrev dB (kr km : Nat) (d : Dk) : Blk := .cells [.slice (some ⟨kr, 0, none⟩) d.safe.length d.safe.length, .map (some km), .int .i64 d.fuse, .bool d.broken, .int .i64 d.ops] t_disk_Disk true
abbrev rB (d : Dk) : Blk := .cells (rows d.safe).flatten t_api_Sector true

/-- a disk in a heap: its block, its row, its map -/
structure At (H : List Blk) (b kr km : Nat) (d : Dk) : Prop where
  hb : H[b]? = some (dB kr km d)
  hr : H[kr]? = some (rB d)
  hm : ∃ es c, H[km]? = some (.map es c) ∧ MapIs KF VF d.fresh es c
  ok : d.Ok

section
variable {H : List Blk} {b kr km : Nat} {d : Dk}
theorem At.app (h : At H b kr km d) (l : List Blk) : At (H ++ l) b kr km d := by
  obtain ⟨es, c, h1, h2⟩ := h.hm
  exact ⟨get_left h.hb l, get_left h.hr l, ⟨es, c, get_left h1 l, h2⟩, h.ok⟩
theorem At.ne1 (h : At H b kr km d) : b ≠ kr := by
  intro e; have h1 := h.hb; rw [e, h.hr] at h1; simp at h1; exact absurd h1.2 (by decide)
theorem At.ne2 (h : At H b kr km d) : b ≠ km := by
  obtain ⟨es, c, h1, h2⟩ := h.hm
  intro e; have h3 := h.hb; rw [e, h1] at h3; simp at h3
theorem At.ne3 (h : At H b kr km d) : kr ≠ km := by
  obtain ⟨es, c, h1, h2⟩ := h.hm
  intro e; have h3 := h.hr; rw [e, h1] at h3; simp at h3

theorem neq_D (a : Nat) (ox oy : Operand) : aBin PP .neq t_P_disk_Disk ox oy (ptr a) (.pointer none) = some (.bool true) := by kernel_rfl
theorem neq_S (a : Addr) (n c : Nat) (ox oy : Operand) : aBin PP .neq t_L_api_Sector ox oy (.slice (some a) n c) (.slice none 0 0) = some (.bool true) := by kernel_rfl
theorem nil_p (a : Nat) : aNil (ptr a) = some (ptr a) := rfl
theorem tok_int (n : Int) (h : -9223372036854775808 ≤ n ∧ n ≤ 9223372036854775807) : TOk PP t_int [.int .i64 n] := by
  have h1 : IntKind.i64.min = -9223372036854775808 := by kernel_rfl
  have h2 : IntKind.i64.max = 9223372036854775807 := by kernel_rfl
  exact .int n u_int ⟨by rw [h1]; exact h.1, by rw [h2]; exact h.2⟩

theorem made_ok (h : At H b kr km d) : acall PP TT n_P_disk_Disk_Made [ptr b] H = some (.bool true, H, none) := by
  rw [acall_eq, P_disk_Disk_Made.eq]
  simp only [P_disk_Disk_Made.sh, mach, Nat.reduceAdd, Nat.reduceLeDiff, Int.reduceEq, Int.reduceLT, Int.reduceLE, neq_D, nil_p, fa_disk_Disk_0, cellAt_eq h.hb, neq_S]
  exact fin_lit0 rfl rfl
theorem has_ok (h : At H b kr km d) (at_ : Int) : acall PP TT n_P_disk_Disk_has [ptr b, .int .i64 at_] H = some (.bool (decide (d.has at_)), H, none) := by
  rw [acall_eq, P_disk_Disk_has.eq]
  simp only [P_disk_Disk_has.sh, mach, Nat.reduceAdd, Nat.reduceLeDiff, Int.reduceEq, Int.reduceLT, Int.reduceLE, nil_p, fa_disk_Disk_0, cellAt_eq h.hb, aLen, u_L_api_Sector, bcase_if, Dk.has]
  by_cases h0 : 0 ≤ at_
  · simp only [h0, mach, Nat.reduceAdd, Nat.reduceLeDiff, Int.reduceEq, Int.reduceLT, Int.reduceLE]
    exact fin_lit0 rfl rfl
  · simp only [h0, mach, Nat.reduceAdd, Nat.reduceLeDiff, Int.reduceEq, Int.reduceLT, Int.reduceLE, false_and]
    exact fin_lit0 rfl rfl
theorem size_ok (h : At H b kr km d) : acall PP TT n_P_disk_Disk_Size [ptr b] H = some (.int .i64 d.safe.length, H, none) := by
  rw [acall_eq, P_disk_Disk_Size.eq]
  simp only [P_disk_Disk_Size.sh, mach, Nat.reduceAdd, Nat.reduceLeDiff, Int.reduceEq, Int.reduceLT, Int.reduceLE, made_ok h, nil_p, fa_disk_Disk_0, cellAt_eq h.hb, aLen, u_L_api_Sector]
  exact fin_lit0 rfl rfl
theorem set_same {H : List Blk} {b : Nat} {x : Blk} (h : H[b]? = some x) : H.set b x = H := by
  apply List.ext_getElem?
  intro j
  rw [List.getElem?_set]
  split
  · next hj => subst hj; rw [h]; simp [blk_lt h]
  · rfl
theorem spend_ok (h : At H b kr km d) : acall PP TT n_P_disk_Disk_spend [ptr b] H = some (.int .i64 d.spend.1, H.set b (dB kr km d.spend.2), none) := by
  rw [acall_eq, P_disk_Disk_spend.eq]
  have e0 : ({ d with broken := true } : Dk).safe = d.safe := rfl
  have hlt := blk_lt h.hb
  by_cases hf : d.fuse = 0
  · have : (if d.broken = true then ((3 : Int), d) else if d.fuse = 0 then (3, { d with broken := true }) else (0, { d with fuse := if 0 < d.fuse then IntKind.i64.wrap (d.fuse - 1) else d.fuse, ops := IntKind.i64.wrap (d.ops + 1) })) = (3, { d with broken := true }) := by
      cases hb : d.broken
      · simp [hf]
      · simp only [if_true]; cases d; simp_all
    simp only [Dk.spend, this]
    simp only [P_disk_Disk_spend.sh, P_disk_Disk_spend.j0, mach, Nat.reduceAdd, Nat.reduceLeDiff, Int.reduceEq, Int.reduceLT, Int.reduceLE, nil_p, fa_disk_Disk_2, fa_disk_Disk_3, cellAt_eq h.hb, storeL_eq h.hb, hf, cellAt_set hlt]
    exact fin_old (by simp) rfl rfl
  · cases hb : d.broken with
    | true =>
      have : d.spend = (3, d) := by simp [Dk.spend, hb]
      rw [this, set_same h.hb]
      simp only [P_disk_Disk_spend.sh, P_disk_Disk_spend.j0, mach, Nat.reduceAdd, Nat.reduceLeDiff, Int.reduceEq, Int.reduceLT, Int.reduceLE, nil_p, fa_disk_Disk_2, fa_disk_Disk_3, cellAt_eq h.hb, storeL_eq h.hb, hf, hb]
      exact fin_old rfl rfl rfl
    | false =>
      by_cases hp : 0 < d.fuse
      · simp only [P_disk_Disk_spend.sh, P_disk_Disk_spend.j0, P_disk_Disk_spend.j1, mach, Nat.reduceAdd, Nat.reduceLeDiff, Int.reduceEq, Int.reduceLT, Int.reduceLE, nil_p, fa_disk_Disk_2, fa_disk_Disk_3, fa_disk_Disk_4, cellAt_eq h.hb, storeL_eq h.hb, hf, hb, hp, Dk.spend, cellAt_set hlt, storeL_set hlt, List.set_set]
        exact fin_old (by simp) rfl rfl
      · simp only [P_disk_Disk_spend.sh, P_disk_Disk_spend.j0, P_disk_Disk_spend.j1, mach, Nat.reduceAdd, Nat.reduceLeDiff, Int.reduceEq, Int.reduceLT, Int.reduceLE, nil_p, fa_disk_Disk_2, fa_disk_Disk_3, fa_disk_Disk_4, cellAt_eq h.hb, storeL_eq h.hb, hf, hb, hp, Dk.spend]
        exact fin_old (by simp) rfl rfl
theorem spend_at (h : At H b kr km d) : At (H.set b (dB kr km d.spend.2)) b kr km d.spend.2 := by
  obtain ⟨es, c, h1, h2⟩ := h.hm
  obtain ⟨s1, s2⟩ := d.spend_safe
  exact ⟨get_set_eq h.hb, by rw [get_set_ne h.ne1, h.hr, rB, rB, s1], ⟨es, c, by rw [get_set_ne h.ne2, h1], by rw [s2]; exact h2⟩, h.ok.spend⟩
end
end DK
end Go.Proofs.YtadllcgmimbjdaaGreat

end
section
namespace Go.Proofs.YtadllcgmimbjdaaGreat
open Go Go.Am Go.Dsk
set_option linter.unusedVariables false
namespace DK

theorem k_arg (n : Int) : argV PP t_int [.int .i64 n] = .int .i64 n := by simp [argV, u_int]
theorem flat_int : flatT PP 12 t_int = true := by kernel_rfl
theorem plain_sec : Am.plain (.agg z_api_Sector.toArray) = true := by kernel_rfl
theorem zero_sec : z_api_Sector = Sec.zero.cells := by kernel_rfl
theorem sec_all (s : Sec) : allCells s.cells = true := bytesV_all _ (fun _ => rfl) _
theorem sec_refs (s : Sec) : lrefs s.cells = [] := bytesV_refs _

def Fr (H H' : List Blk) (b kr km : Nat) : Prop := H'.length = H.length ∧ ∀ k, k ≠ b → k ≠ kr → k ≠ km → H'[k]? = H[k]?
theorem Fr.refl {H : List Blk} {b kr km : Nat} : Fr H H b kr km := ⟨rfl, fun _ _ _ _ => rfl⟩

section
variable {fresh : List (Int × Sec)} {es : List MapEntry} {c km : Nat} {st : AS} (hm : MapIs KF VF fresh es c) (hk : st.H[km]? = some (.map es c)) (hi : ∀ p ∈ fresh, 0 ≤ p.1 ∧ p.1 < 1024) {at_ : Int} (ha : 0 ≤ at_ ∧ at_ < 1024)
include hm hk hi ha
theorem upd_ok (s : Sec) : ∃ es' c', aMapUpdate PP t_M_int_api_Sector (.map (some km)) (.int .i64 at_) (.agg s.cells.toArray) st = some ⟨st.H.set km (.map es' c'), st.esc⟩ ∧ MapIs KF VF (put fresh at_ s) es' c' := by
  have hq : TOk PP t_int [.int .i64 at_] := tok_int at_ ⟨by omega, by omega⟩
  have hK : ∀ x ∈ fresh, KF x = argV PP t_int [.int .i64 x.1] := fun x _ => (k_arg _).symm
  have hT : ∀ x ∈ fresh, TOk PP t_int [.int .i64 x.1] := fun x hx => by have := hi x hx; exact tok_int _ ⟨by omega, by omega⟩
  have hp : ∀ x ∈ fresh, decide (x.1 = at_) = true ↔ [Value.int .i64 x.1] = [.int .i64 at_] := fun x _ => by simp
  have hv : vrefs (VF (at_, s)) = [] := by simp [sec_refs]
  unfold put
  cases hx : fresh.findIdx? fun p => decide (p.1 = at_) with
  | some i =>
    obtain ⟨e, he, hu⟩ := upd_old u_M_int_api_Sector flat_int hk hm hK hT hq hp hx (x := (at_, s)) (k_arg at_).symm (by simp [Instr.sameBits])
    rw [k_arg, hv] at hu
    exact ⟨_, _, hu, hm.set he (at_, s)⟩
  | none =>
    have hu := upd_new u_M_int_api_Sector flat_int hk hm hK hT hq (x := (at_, s)) (k_arg at_).symm (fun y hy => by
      rw [List.findIdx?_eq_none_iff] at hx
      have := hx y hy
      simpa using this)
    rw [k_arg, hv] at hu
    exact ⟨_, _, hu, hm.snoc (at_, s)⟩
theorem look_ok (ok : Bool) : aLookup PP t_M_int_api_Sector (.map (some km)) (.int .i64 at_) ok st = some (match seek fresh at_ with
    | some s => if ok then .tuple #[.agg s.cells.toArray, .bool true] else .agg s.cells.toArray
    | none => if ok then .tuple #[.agg Sec.zero.cells.toArray, .bool false] else .agg Sec.zero.cells.toArray) := by
  have hq : TOk PP t_int [.int .i64 at_] := tok_int at_ ⟨by omega, by omega⟩
  have hK : ∀ x ∈ fresh, KF x = argV PP t_int [.int .i64 x.1] := fun x _ => (k_arg _).symm
  have hT : ∀ x ∈ fresh, TOk PP t_int [.int .i64 x.1] := fun x hx => by have := hi x hx; exact tok_int _ ⟨by omega, by omega⟩
  have hp : ∀ x ∈ fresh, decide (x.1 = at_) = true ↔ [Value.int .i64 x.1] = [.int .i64 at_] := fun x _ => by simp
  have := look_is u_M_int_api_Sector zv_api_Sector plain_sec flat_int hk hm hK hT hq hp ok
  rw [k_arg, zero_sec] at this
  rw [this]
  simp only [seek]
  cases fresh.find? fun p => decide (p.1 = at_) <;> rfl
end

section
variable {H : List Blk} {b kr km : Nat} {d : Dk}
theorem At.keys (h : At H b kr km d) : ∀ p ∈ d.fresh, 0 ≤ p.1 ∧ p.1 < 1024 := fun p hp => by
  have h1 := h.ok.has p hp
  have h2 := h.ok.few
  omega
theorem ne_err (n : Int) (ox oy : Operand) : aBin PP .neq t_api_Errno ox oy (.int .i64 n) (.int .i64 0) = some (.bool (!decide (n = 0))) := bin_neq

theorem write_ok (h : At H b kr km d) (at_ : Int) (s : Sec) : ∃ H', acall PP TT n_P_disk_Disk_Write [ptr b, .int .i64 at_, .agg s.cells.toArray] H = some (.int .i64 (d.write at_ s).1, H', none) ∧ At H' b kr km (d.write at_ s).2 ∧ Fr H H' b kr km := by
  have hx := h.app [Blk.cells s.cells t_api_Sector true]
  have hlt := blk_lt h.hb
  rw [acall_eq, P_disk_Disk_Write.eq]
  by_cases hh : d.has at_
  · have h1 := spend_ok hx
    have h2 := spend_at hx
    by_cases he : d.spend.1 = 0
    · obtain ⟨es, c, g1, g2⟩ := h2.hm
      obtain ⟨q1, q2⟩ := d.spend_safe
      have hr : 0 ≤ at_ ∧ at_ < 1024 := by have := h.ok.few; exact ⟨hh.1, by have := hh.2; omega⟩
      obtain ⟨es', c', u1, u2⟩ := upd_ok (st := ⟨(H ++ [Blk.cells s.cells t_api_Sector true]).set b (dB kr km d.spend.2), none⟩) g2 g1 h2.keys hr s
      have hkm := (List.getElem?_eq_some_iff.1 h.hm.choose_spec.choose_spec.1).1
      have hw : d.write at_ s = (0, { d.spend.2 with fresh := put d.spend.2.fresh at_ s }) := by simp only [Dk.write, if_pos hh, if_pos he]
      have hbox : ((H ++ [Blk.cells s.cells t_api_Sector true]).set b (dB kr km d.spend.2))[H.length]? = some (Blk.cells s.cells t_api_Sector true) := by rw [get_set_ne (by omega)]; simp
      refine ⟨(H.set b (dB kr km d.spend.2)).set km (.map es' c'), ?_, ?_, ?_⟩
      · rw [hw]
        have ht : List.take 16 s.cells = s.cells := by rw [← s.len, List.take_length]
        simp only [P_disk_Disk_Write.sh, mach, Nat.reduceAdd, Nat.reduceLeDiff, Int.reduceEq, Int.reduceLT, Int.reduceLE, box_lit, sec_all, made_ok hx, has_ok hx, hh, h1, he, nil_p, fa_disk_Disk_1, cellAt_eq h2.hb, cellsAt_eq hbox, s.len, u1, ne_err, ht]
        rw [set_left hlt, set_left (by simpa using hkm)]
        exact fin_app (by simp) rfl rfl rfl
      · rw [hw]
        have hd := spend_at h
        exact ⟨by rw [get_set_ne (Ne.symm h.ne2)]; exact hd.hb, by rw [get_set_ne (Ne.symm h.ne3)]; exact hd.hr, ⟨es', c', get_set_eq (by rw [get_set_ne h.ne2]; exact h.hm.choose_spec.choose_spec.1), u2⟩, by have := h.ok.write at_ s; rwa [hw] at this⟩
      · exact ⟨by simp, fun k k1 k2 k3 => by rw [get_set_ne (Ne.symm k3), get_set_ne (Ne.symm k1)]⟩
    · have hw : d.write at_ s = d.spend := by simp only [Dk.write, if_pos hh, if_neg he]
      refine ⟨H.set b (dB kr km d.spend.2), ?_, ?_, ⟨by simp, fun k k1 k2 k3 => by rw [get_set_ne (Ne.symm k1)]⟩⟩
      · rw [hw]
        simp only [P_disk_Disk_Write.sh, mach, Nat.reduceAdd, Nat.reduceLeDiff, Int.reduceEq, Int.reduceLT, Int.reduceLE, box_lit, sec_all, made_ok hx, has_ok hx, hh, h1, he, ne_err]
        rw [set_left hlt]
        exact fin_app (by simp) rfl rfl rfl
      · rw [hw]; exact spend_at h
  · have hw : d.write at_ s = (13, d) := by simp only [Dk.write, if_neg hh]
    refine ⟨H, ?_, ?_, .refl⟩
    · rw [hw]
      simp only [P_disk_Disk_Write.sh, mach, Nat.reduceAdd, Nat.reduceLeDiff, Int.reduceEq, Int.reduceLT, Int.reduceLE, box_lit, sec_all, made_ok hx, has_ok hx, hh]
      exact fin_app rfl rfl rfl rfl
    · rw [hw]; exact h
end
end DK
end Go.Proofs.YtadllcgmimbjdaaGreat

end
section
namespace Go.Proofs.YtadllcgmimbjdaaGreat
open Go Go.Am Go.Dsk
set_option linter.unusedVariables false
namespace DK

/-- what a walk that has seen some of the entries has made of a row -/
structure Done (es : List MapEntry) (fresh : List (Int × Sec)) (safe : List Sec) (seen : List Nat) (sf : List Sec) : Prop where
  len : sf.length = safe.length
  yes : ∀ (j : Nat) (e : MapEntry) (x : Int × Sec), es[j]? = some e → fresh[j]? = some x → e.born ∈ seen → sf[x.1.toNat]? = some x.2
  no : ∀ i : Nat, (∀ (j : Nat) (e : MapEntry) (x : Int × Sec), es[j]? = some e → fresh[j]? = some x → e.born ∈ seen → x.1.toNat ≠ i) → sf[i]? = safe[i]?

theorem nodup_get {fresh : List (Int × Sec)} (h : (fresh.map (·.1)).Nodup) {i j : Nat} {x y : Int × Sec} (hx : fresh[i]? = some x) (hy : fresh[j]? = some y) (he : x.1 = y.1) : i = j := by
  have h1 : (fresh.map (·.1))[i]? = some x.1 := by simp [hx]
  have h2 : (fresh.map (·.1))[j]? = some x.1 := by simp [hy, he]
  exact (List.getElem?_inj (List.getElem?_eq_some_iff.1 h1).1 h).1 (h1.trans h2.symm)

section
variable {es : List MapEntry} {fresh : List (Int × Sec)} {safe sf : List Sec} {seen : List Nat}
theorem Done.start : Done es fresh safe [] safe := ⟨rfl, fun _ _ _ _ _ h => by simp at h, fun _ _ => rfl⟩
theorem Done.next (h : Done es fresh safe seen sf) (hn : (fresh.map (·.1)).Nodup) (hi : ∀ p ∈ fresh, 0 ≤ p.1 ∧ p.1 < safe.length) (hb : (es.map (·.born)).Nodup) {j : Nat} {e : MapEntry} {x : Int × Sec} (he : es[j]? = some e) (hx : fresh[j]? = some x) : Done es fresh safe (seen ++ [e.born]) (sf.set x.1.toNat x.2) := by
  have hr := hi x (List.mem_of_getElem? hx)
  refine ⟨by simp [h.len], fun j' e' x' h1 h2 h3 => ?_, fun i h1 => ?_⟩
  · have hr' := hi x' (List.mem_of_getElem? h2)
    rw [List.getElem?_set]
    by_cases hk : x.1.toNat = x'.1.toNat
    · have : j = j' := nodup_get hn hx h2 (by omega)
      subst this
      rw [hx] at h2; cases h2
      simp [h.len, show x.1.toNat < safe.length by omega]
    · rw [if_neg hk]
      refine h.yes j' e' x' h1 h2 ?_
      rcases List.mem_append.1 h3 with h3 | h3
      · exact h3
      · simp at h3
        have g1 : (es.map (·.born))[j]? = some e.born := by simp [he]
        have g2 : (es.map (·.born))[j']? = some e.born := by simp [h1, h3]
        have : j = j' := (List.getElem?_inj (List.getElem?_eq_some_iff.1 g1).1 hb).1 (g1.trans g2.symm)
        subst this
        rw [hx] at h2; cases h2
        exact absurd rfl hk
  · rw [List.getElem?_set, if_neg (h1 j e x he hx (by simp))]
    exact h.no i fun j' e' x' q1 q2 q3 => h1 j' e' x' q1 q2 (by simp [q3])
theorem Done.all (h : Done es fresh safe seen sf) (hl : es.length = fresh.length) (hn : (fresh.map (·.1)).Nodup) (hi : ∀ p ∈ fresh, 0 ≤ p.1 ∧ p.1 < safe.length) (ha : ∀ e ∈ es, e.born ∈ seen) : sf = over fresh safe := by
  apply List.ext_getElem?
  intro i
  simp only [over, List.getElem?_mapIdx]
  cases hf : fresh.find? fun p => decide (p.1 = (i : Int)) with
  | some x =>
    have hm := List.mem_of_find?_eq_some hf
    obtain ⟨j, hj⟩ := List.getElem?_of_mem hm
    have hx : x.1 = (i : Int) := by simpa using List.find?_some hf
    have hj' : j < es.length := by rw [hl]; exact (List.getElem?_eq_some_iff.1 hj).1
    have := h.yes j es[j] x (List.getElem?_eq_getElem hj') hj (ha _ (List.getElem_mem hj'))
    have ht : x.1.toNat = i := by omega
    rw [ht] at this
    have hr := hi x hm
    rw [this, List.getElem?_eq_getElem (show i < safe.length by omega)]
    rfl
  | none =>
    rw [h.no i fun j e x h1 h2 h3 hc => by
      rw [List.find?_eq_none] at hf
      have := hf x (List.mem_of_getElem? h2)
      have hr := hi x (List.mem_of_getElem? h2)
      simp at this
      omega]
    cases safe[i]? <;> rfl
end

theorem ix_sec {kr n : Nat} {i : Int} (h : 0 ≤ i ∧ i < n) {k : IntKind} : aIndexAddr PP t_L_api_Sector (.slice (some ⟨kr, 0, none⟩) n n) (.int k i) = some (.pointer (some ⟨kr, i.toNat * 16, none⟩)) := by
  simp [aIndexAddr, u_L_api_Sector, sz_api_Sector, h, Addr.add]
  try omega
abbrev sB (sf : List Sec) : Blk := .cells (rows sf).flatten t_api_Sector true
theorem rows_len {sf : List Sec} : (rows sf).flatten.length = sf.length * 16 := by rw [chunk_len (rows sf) (rows_of sf).len]; simp [rows]
theorem rows_set {sf : List Sec} {i : Nat} {s : Sec} (hi : i < sf.length) : putCells (rows sf).flatten (i * 16) s.cells = (rows (sf.set i s)).flatten := by
  rw [put_row (rows_of sf).len s.len (by simpa [rows] using hi)]
  simp [rows, List.map_set]

section
variable {H : List Blk} {b kr km : Nat} {d : Dk}
theorem range_ok {st : AS} {es : List MapEntry} {c : Nat} (hk : st.H[km]? = some (.map es c)) : aRange PP t_M_int_api_Sector (.map (some km)) st = some (.pointer (some ⟨st.H.length, 0, none⟩), newBlk st (.iter (some km) c [] c)) := by
  simp [aRange, u_M_int_api_Sector, hk, newPtr]
theorem ext10 (c : Bool) : pureRun PP (Instr.extract (.tuple #[.bool c]) 0) = some (.bool c) := by kernel_rfl

theorem walk_flush (h : At H b kr km d) {es : List MapEntry} {c : Nat} (hk : H[km]? = some (.map es c)) (hm : MapIs KF VF d.fresh es c) {R : Type} {kk : AEx × List Value × AS → Option R} {res : R}
    (hend : ∀ seen, kk (.exit 0, [ptr b], ⟨H.set kr (sB (over d.fresh d.safe)) ++ [.iter (some km) c seen c], none⟩) = some res) :
    loopG.any H.length (P_disk_Disk_Flush.loop7s (acall PP TT) loopG H.length) ([ptr b, ptr H.length], ⟨H ++ [.iter (some km) c [] c], none⟩) kk = some res := by
  have hbl := blk_lt h.hb
  have hkl := blk_lt hk
  have hrl := blk_lt h.hr
  refine any_rule (fun n X => ∃ seen sf junk, X = ([ptr b, ptr H.length], ⟨H.set kr (sB sf) ++ (.iter (some km) c seen c :: junk), none⟩) ∧ n = leftE es seen ∧ Done es d.fresh d.safe seen sf)
    (fun x => ∃ seen, x = (.exit 0, [ptr b], ⟨H.set kr (sB (over d.fresh d.safe)) ++ [.iter (some km) c seen c], none⟩)) ?_ (fun x ⟨seen, hx⟩ => by rw [hx]; exact hend seen) _ _
    ⟨[], d.safe, [], by rw [set_same h.hr], rfl, .start⟩
  rintro n X k' ⟨seen, sf, junk, rfl, rfl, hd⟩ hinl hinr
  have hlen : (H.set kr (sB sf)).length = H.length := by simp
  have hg : gc H.length [ptr b, ptr H.length] ⟨H.set kr (sB sf) ++ (.iter (some km) c seen c :: junk), none⟩ = ([ptr b, ptr H.length], ⟨H.set kr (sB sf) ++ [.iter (some km) c seen c], none⟩) := by
    have := gc_iter (H := H.set kr (sB sf)) (G := junk) (vs := [ptr b, ptr H.length]) (m := km) (a := c) (c := c) (seen := seen) (by simp [hbl]) (by simp) (by simpa using hkl) (by simp)
    rwa [hlen] at this
  simp only [hg]
  have hI : (H.set kr (sB sf) ++ [Blk.iter (some km) c seen c])[H.length]? = some (.iter (some km) c seen c) := by rw [← hlen]; simp
  have hM : (H.set kr (sB sf) ++ [Blk.iter (some km) c seen c])[km]? = some (.map es c) := by rw [List.getElem?_append_left (by simpa using hkl), get_set_ne h.ne3, hk]
  rcases next_is (st := ⟨H.set kr (sB sf) ++ [Blk.iter (some km) c seen c], none⟩) hI hM hm with ⟨hall, hnx⟩ | ⟨cn, g, hnx, hpos, hgi⟩
  · have hsf := hd.all hm.len h.ok.nd h.ok.has hall
    have := hinr _ ⟨seen, by rw [← hsf]⟩
    simp only [P_disk_Disk_Flush.loop7s, P_disk_Disk_Flush.loop7, mach, Nat.reduceAdd, Nat.reduceLeDiff, Int.reduceEq, Int.reduceLT, Int.reduceLE, hnx, all_G]
    refine allW_full Nat.one_pos (fun i hi => ?_)
    simp only [ext10, mach, Nat.reduceAdd, Nat.reduceLeDiff, Int.reduceEq, Int.reduceLT, Int.reduceLE]
    exact this
  · simp only [P_disk_Disk_Flush.loop7s, P_disk_Disk_Flush.loop7, mach, Nat.reduceAdd, Nat.reduceLeDiff, Int.reduceEq, Int.reduceLT, Int.reduceLE, hnx, all_G]
    refine allW_full hpos (fun i hi => ?_)
    obtain ⟨j, e, x, g1, g2, g3, g4⟩ := hgi i hi
    have hx := h.ok.has x (List.mem_of_getElem? g2)
    have hset : (H.set kr (sB sf) ++ [Blk.iter (some km) c seen c]).set H.length (.iter (some km) c (seen ++ [e.born]) c) = H.set kr (sB sf) ++ [Blk.iter (some km) c (seen ++ [e.born]) c] := by
      have := set_app0 (H := H.set kr (sB sf)) (l := [Blk.iter (some km) c seen c]) (.iter (some km) c (seen ++ [e.born]) c)
      rw [hlen] at this
      exact this
    have hI' : (H.set kr (sB sf) ++ [Blk.iter (some km) c (seen ++ [e.born]) c])[H.length]? = some (.iter (some km) c (seen ++ [e.born]) c) := by rw [← hlen]; simp
    have hM' : (H.set kr (sB sf) ++ [Blk.iter (some km) c (seen ++ [e.born]) c])[km]? = some (.map es c) := by rw [List.getElem?_append_left (by simpa using hkl), get_set_ne h.ne3, hk]
    have hent := entry_is (st := ⟨H.set kr (sB sf) ++ [Blk.iter (some km) c (seen ++ [e.born]) c], none⟩) hI' hM' hm g1 g2
    have hres := hinl (leftE es (seen ++ [e.born])) ([ptr b, ptr H.length], ⟨H.set kr (sB (sf.set x.1.toNat x.2)) ++ [Blk.iter (some km) c (seen ++ [e.born]) c, .cells x.2.cells t_api_Sector true], none⟩)
      (leftE_less (List.mem_of_getElem? g1) g3) ⟨_, _, _, rfl, rfl, hd.next h.ok.nd h.ok.has hm.nd g1 g2⟩
    simp only [g4, mach, Nat.reduceAdd, Nat.reduceLeDiff, Int.reduceEq, Int.reduceLT, Int.reduceLE, hset, hent, zg_api_Sector, box_lit, za_api_Sector]
    have hz : putCells z_api_Sector 0 x.2.cells = x.2.cells := putCells_all (by rw [x.2.len, zl_api_Sector])
    have gb : (H.set kr (sB sf) ++ [Blk.iter (some km) c (seen ++ [e.born]) c, Blk.cells x.2.cells t_api_Sector true])[b]? = some (dB kr km d) := by rw [List.getElem?_append_left (by simpa using hbl), get_set_ne (Ne.symm h.ne1), h.hb]
    have gr : (H.set kr (sB sf) ++ [Blk.iter (some km) c (seen ++ [e.born]) c, Blk.cells x.2.cells t_api_Sector true])[kr]? = some (sB sf) := by rw [List.getElem?_append_left (by simpa using hrl), get_set_eq h.hr]
    have gx : (H.set kr (sB sf) ++ [Blk.iter (some km) c (seen ++ [e.born]) c, Blk.cells x.2.cells t_api_Sector true])[(H.set kr (sB sf)).length + 1]? = some (Blk.cells x.2.cells t_api_Sector true) := by simp
    have ht : List.take 16 x.2.cells = x.2.cells := by rw [← x.2.len, List.take_length]
    have hfit : x.1.toNat * 16 + 16 ≤ (rows sf).flatten.length := by rw [rows_len, hd.len]; omega
    have hsets : (H.set kr (sB sf) ++ [Blk.iter (some km) c (seen ++ [e.born]) c, Blk.cells x.2.cells t_api_Sector true]).set kr (sB (sf.set x.1.toNat x.2)) = H.set kr (sB (sf.set x.1.toNat x.2)) ++ [Blk.iter (some km) c (seen ++ [e.born]) c, Blk.cells x.2.cells t_api_Sector true] := by rw [set_left (by simpa using hrl), List.set_set]
    simp only [x.2.len, zl_api_Sector, sec_all, sec_refs, hz, mach, Nat.reduceAdd, Nat.reduceLeDiff, Int.reduceEq, Int.reduceLT, Int.reduceLE, nil_p, fa_disk_Disk_0, cellAt_eq gb, cellsAt_eq gx, ht, ix_sec hx, storeL_eq gr, hfit, rows_set (show x.1.toNat < sf.length by rw [hd.len]; omega), hsets]
    exact hres
end
end DK
end Go.Proofs.YtadllcgmimbjdaaGreat

end
section
namespace Go.Proofs.YtadllcgmimbjdaaGreat
open Go Go.Am Go.Dsk
set_option linter.unusedVariables false
namespace DK
section
variable {H : List Blk} {b kr km : Nat} {d : Dk}

theorem clear_ok {R : Type} {st : AS} {es : List MapEntry} {c : Nat} (hk : st.H[km]? = some (.map es c)) (k : Value → AS → Option R) : eBuiltin PP .clear #[t_M_int_api_Sector] [.map (some km)] st k = k (.tuple #[]) ⟨st.H.set km (.map [] c), st.esc⟩ := by
  simp [eBuiltin, aClear, u_M_int_api_Sector, hk]

theorem flush_ok (h : At H b kr km d) : ∃ H', acall PP TT n_P_disk_Disk_Flush [ptr b] H = some (.int .i64 d.flush.1, H', none) ∧ At H' b kr km d.flush.2 ∧ Fr H H' b kr km := by
  have h1 := spend_ok h
  have h2 := spend_at h
  rw [acall_eq, P_disk_Disk_Flush.eq]
  by_cases he : d.spend.1 = 0
  · obtain ⟨es, c, g1, g2⟩ := h2.hm
    have hw : d.flush = (0, { d.spend.2 with safe := over d.spend.2.fresh d.spend.2.safe, fresh := [] }) := by simp only [Dk.flush, if_pos he]
    have hlen : (H.set b (dB kr km d.spend.2)).length = H.length := by simp
    have hfl : d.flush.2 = { d.spend.2 with safe := over d.spend.2.fresh d.spend.2.safe, fresh := [] } := by rw [hw]
    have hsl : (over d.spend.2.fresh d.spend.2.safe).length = d.spend.2.safe.length := by simp [over]
    refine ⟨((H.set b (dB kr km d.spend.2)).set kr (sB (over d.spend.2.fresh d.spend.2.safe))).set km (.map [] c), ?_, ?_, ?_⟩
    · rw [hw]
      have hwalk := fun kk => walk_flush (R := AEx × List Value × AS) h2 g1 g2 (res := (.normal, [ptr b], ⟨(H.set b (dB kr km d.spend.2)).set kr (sB (over d.spend.2.fresh d.spend.2.safe)), none⟩)) (kk := kk)
      simp only [hlen] at hwalk
      have gm : ((H.set b (dB kr km d.spend.2)).set kr (sB (over d.spend.2.fresh d.spend.2.safe)))[km]? = some (.map es c) := by rw [get_set_ne h.ne3]; exact g1
      have gb : ((H.set b (dB kr km d.spend.2)).set kr (sB (over d.spend.2.fresh d.spend.2.safe)))[b]? = some (dB kr km d.spend.2) := by rw [get_set_ne (Ne.symm h.ne1)]; exact h2.hb
      simp only [P_disk_Disk_Flush.sh, mach, Nat.reduceAdd, Nat.reduceLeDiff, Int.reduceEq, Int.reduceLT, Int.reduceLE, made_ok h, h1, he, ne_err, nil_p, fa_disk_Disk_1, cellAt_eq h2.hb, range_ok (st := ⟨H.set b (dB kr km d.spend.2), none⟩) g1, newBlk_bare, hlen]
      rw [hwalk]
      · simp only [mach, Nat.reduceAdd, Nat.reduceLeDiff, Int.reduceEq, Int.reduceLT, Int.reduceLE, P_disk_Disk_Flush.j2, nil_p, fa_disk_Disk_1, cellAt_eq gb, clear_ok (st := ⟨(H.set b (dB kr km d.spend.2)).set kr (sB (over d.spend.2.fresh d.spend.2.safe)), none⟩) gm]
        exact fin_old (by simp) rfl rfl
      · intro seen
        have hg := gc_old (vs := [ptr b]) (H := (H.set b (dB kr km d.spend.2)).set kr (sB (over d.spend.2.fresh d.spend.2.safe))) (l := [Blk.iter (some km) c seen c]) (by simp [blk_lt h.hb])
        rw [show ((H.set b (dB kr km d.spend.2)).set kr (sB (over d.spend.2.fresh d.spend.2.safe))).length = H.length by simp] at hg
        simp only [hg, if_true]
        rfl
    · rw [hw]
      refine ⟨?_, ?_, ⟨[], c, get_set_eq (by rw [get_set_ne h.ne3]; exact g1), .nil c⟩, by have := h.ok.flush; rwa [hw] at this⟩
      · rw [get_set_ne (Ne.symm h.ne2), get_set_ne (Ne.symm h.ne1), h2.hb]
        simp only [dB, hsl]
      · rw [get_set_ne (Ne.symm h.ne3), get_set_eq h2.hr]
    · exact ⟨by simp, fun k k1 k2 k3 => by rw [get_set_ne (Ne.symm k3), get_set_ne (Ne.symm k2), get_set_ne (Ne.symm k1)]⟩
  · have hw : d.flush = d.spend := by simp only [Dk.flush, if_neg he]
    refine ⟨H.set b (dB kr km d.spend.2), ?_, ?_, ⟨by simp, fun k k1 k2 k3 => by rw [get_set_ne (Ne.symm k1)]⟩⟩
    · rw [hw]
      simp only [P_disk_Disk_Flush.sh, mach, Nat.reduceAdd, Nat.reduceLeDiff, Int.reduceEq, Int.reduceLT, Int.reduceLE, made_ok h, h1, he, ne_err]
      exact fin_old (by simp) rfl rfl
    · rw [hw]; exact h2

theorem sec_noSl (s : Sec) : s.cells.all noSl = true := bytesV_all _ (fun _ => rfl) _
theorem fin_sec {H l : List Blk} {n0 : Nat} (hn : H.length = n0) (s : Sec) : fin PP false n0 [.agg s.cells.toArray] ⟨H ++ l, none⟩ = some (.agg s.cells.toArray, H, none) := by
  subst hn
  refine fin_of (l := l) (l' := l) (vs' := [.agg s.cells.toArray]) ?_ (by simp [sec_refs]) rfl
  simp only [frzL, frz_agg _ 7 _ _ (sec_noSl s)]
theorem build_sec : aBuild PP t_api_Sector [] = some (.agg Sec.zero.cells.toArray) := by rw [← zero_sec]; kernel_rfl
theorem box_sec {H : List Blk} {n : Nat} (hn : n = H.length) (z : List Value) (hz : z.length = 16) (s : Sec) : storeL ⟨H ++ [.cells z t_api_Sector true], none⟩ n 0 s.cells = some ⟨H ++ [.cells s.cells t_api_Sector true], none⟩ := by
  subst hn
  simp only [storeL_app0, storeL, List.getElem?_cons_zero, s.len, hz, sec_all, sec_refs, escOf_nil]
  simp [putCells_all (show s.cells.length = z.length by rw [s.len, hz]), hz]
theorem take_sec (s : Sec) : List.take 16 s.cells = s.cells := by rw [← s.len, List.take_length]
theorem durable_ok (h : At H b kr km d) (at_ : Int) : acall PP TT n_P_disk_Disk_Durable [ptr b, .int .i64 at_] H = some (.agg (d.durable at_).cells.toArray, H, none) := by
  have hx := h.app [Blk.cells z_api_Sector t_api_Sector true]
  rw [acall_eq, P_disk_Disk_Durable.eq]
  by_cases hh : d.has at_
  · have hr : (rows d.safe)[at_.toNat]? = some (d.safe.getD at_.toNat Sec.zero).cells := by
      have := hh.1; have := hh.2
      have hlt : at_.toNat < d.safe.length := by omega
      simp [rows, List.getD, hlt]
    have hfit := part_fits (rows_of d.safe).len hr
    have hpart := part_row (rows_of d.safe).len hr
    simp only [P_disk_Disk_Durable.sh, P_disk_Disk_Durable.j0, P_disk_Disk_Durable.j1, mach, Nat.reduceAdd, Nat.reduceLeDiff, Int.reduceEq, Int.reduceLT, Int.reduceLE, zg_api_Sector, box_lit, za_api_Sector, made_ok hx, has_ok hx, hh, nil_p, fa_disk_Disk_0, cellAt_eq hx.hb, ix_sec hh, cellsAt_eq hx.hr, hfit, hpart, (d.safe.getD at_.toNat Sec.zero).len, box_sec rfl z_api_Sector zl_api_Sector, cellsAt_app0, take_sec, Dk.durable]
    exact fin_sec rfl _
  · simp only [P_disk_Disk_Durable.sh, P_disk_Disk_Durable.j0, P_disk_Disk_Durable.j1, mach, Nat.reduceAdd, Nat.reduceLeDiff, Int.reduceEq, Int.reduceLT, Int.reduceLE, zg_api_Sector, box_lit, za_api_Sector, made_ok hx, has_ok hx, hh, build_sec, Sec.zero.len, box_sec rfl z_api_Sector zl_api_Sector, cellsAt_app0, take_sec, Dk.durable]
    exact fin_sec rfl _
theorem make_secs {n : Nat} (hn : n ≤ 1024) (st : AS) : aMakeSlice PP t_L_api_Sector (.int .i64 (n : Int)) (.int .i64 (n : Int)) st = some (.slice (some ⟨st.H.length, 0, none⟩) n n, newBlk st (.cells (rows (List.replicate n Sec.zero)).flatten t_api_Sector true)) := by
  have h1 : (rows (List.replicate n Sec.zero)).flatten = (List.replicate n z_api_Sector).flatten := by rw [zero_sec]; simp [rows]
  rw [h1]
  unfold aMakeSlice
  simp only [u_L_api_Sector, sz_api_Sector, by_api_Sector, zv_api_Sector]
  rw [if_pos ⟨by omega, by omega, by omega, by omega, by kernel_rfl, by omega, za_api_Sector, by kernel_rfl⟩]
  simp [aRow]
  rfl
theorem new_ok {n : Int} (H : List Blk) (hn : 1 ≤ n ∧ n ≤ 1024) : acall PP TT n_disk_New [.int .i64 n] H = some (.tuple #[ptr H.length, .int .i64 0], H ++ [dB (H.length + 1) (H.length + 2) (Dk.new n.toNat), rB (Dk.new n.toNat), .map [] 0], none) := by
  obtain ⟨m, rfl⟩ : ∃ m : Nat, n = (m : Int) := ⟨n.toNat, by omega⟩
  rw [acall_eq, disk_New.eq]
  have h1 : ¬ (m : Int) < 1 := by omega
  have h2 : ¬ (1024 : Int) < (m : Int) := by omega
  have hb : aBuild PP t_disk_Disk [(0, .slice (some ⟨H.length, 0, none⟩) m m), (1, .map (some (H.length + 1))), (2, .int .i64 (-1))] = some (.agg [.slice (some ⟨H.length, 0, none⟩) m m, .map (some (H.length + 1)), .int .i64 (-1), .bool false, .int .i64 0].toArray) := by
    kernel_rfl
  simp only [disk_New.sh, disk_New.j0, disk_New.j1, mach, Nat.reduceAdd, Nat.reduceLeDiff, Int.reduceEq, Int.reduceLT, Int.reduceLE, h1, h2, make_secs (show m ≤ 1024 by omega), newBlk, List.append_assoc, hb]
  exact fin_keep (vs' := [ptr H.length, .int .i64 0]) (l' := [dB (H.length + 1) (H.length + 2) (Dk.new m), rB (Dk.new m), .map [] 0]) rfl
    (gc_own (l := [Blk.cells (rows (List.replicate m Sec.zero)).flatten t_api_Sector true, .map [] 0, .cells [.slice (some ⟨H.length, 0, none⟩) m m, .map (some (H.length + 1)), .int .i64 (-1), .bool false, .int .i64 0] t_disk_Disk true]) [[], [], [0, 1]] [2] [2, 0, 1] rfl rfl (by simp) (by simp [blkRefs, (rows_of _).frefs])
      (by simp [lren, vren, rn_own, rn_own0, findIx]) (by simp [renBlk, lren, vren, rn_own, rn_own0, findIx, Dk.new, lren_none (rows_of _).frefs]))
theorem new_at {n : Int} (H : List Blk) (hn : 1 ≤ n ∧ n ≤ 1024) : At (H ++ [dB (H.length + 1) (H.length + 2) (Dk.new n.toNat), rB (Dk.new n.toNat), .map [] 0]) H.length (H.length + 1) (H.length + 2) (Dk.new n.toNat) :=
  ⟨by simp, by simp, ⟨[], 0, by simp, .nil 0⟩, .new (by omega) (by omega)⟩
end
end DK
end Go.Proofs.YtadllcgmimbjdaaGreat

end
