/- A part of the proof: Rn1, Rn2, Rn3, Rn4, Rn5, Ct1. Its conditions: none. -/
import Derived.Test.YtadllcgmimbjdaaGreatNm1
import Derived.Test.YtadllcgmimbjdaaGreatCmp1
import Derived.Test.YtadllcgmimbjdaaGreatRk1
set_option linter.all false
set_option linter.unusedVariables false
set_option linter.unusedSimpArgs false
set_option linter.unnecessarySimpa false
section
namespace Go.Proofs.YtadllcgmimbjdaaGreat
open Go Go.Am Go.Dsk
set_option linter.unusedVariables false
namespace DK
section
variable {H : List Blk}
/-- a row of bytes that began as an empty one -/
def canV (n0 : Nat) (l : List UInt8) : Value := if l = [] then .slice (some ⟨n0, 0, none⟩) 0 0 else .slice (some ⟨n0, 0, none⟩) l.length UNK
theorem can_ne {n0 : Nat} {l : List UInt8} (h : l ≠ []) : canV n0 l = .slice (some ⟨n0, 0, none⟩) l.length UNK := by simp [canV, h]
theorem can_refs (n0 : Nat) (l : List UInt8) : vrefs (canV n0 l) = [n0] := by unfold canV; split <;> rfl
theorem can_len (n0 : Nat) (l : List UInt8) (st : AS) : aLen PP t_L_uint8 (canV n0 l) st = some (.int .i64 l.length) := by
  unfold canV
  split
  · next h => rw [h]; exact sl_len u_L_uint8
  · exact sl_len u_L_uint8
theorem can_rd (l : List UInt8) (X : List Blk) : Rd (H ++ (byB l :: X)) (canV H.length l) l.length (bytesV l) := by
  have h : ∀ n c, n = l.length → Rd (H ++ (byB l :: X)) (.slice (some ⟨H.length, 0, none⟩) n c) l.length (bytesV l) := by
    intro n c hn
    subst hn
    exact .own (bs := bytesV l) (t := t_uint8) (own := true) (by simp) (by simp) (by rw [List.drop_zero]; exact List.take_length)
  unfold canV
  split
  · next hl => exact h 0 0 (by rw [hl]; rfl)
  · exact h _ _ rfl
theorem bsl_0 (st : AS) : bsl PP t_L_uint8 0 [] [] st = some (.slice (some ⟨st.H.length, 0, none⟩) 0 0, ⟨st.H ++ [byB []], st.esc⟩) := by kernel_rfl
theorem bsl_b (x : Int) (H : List Blk) (e : Option Nat) : bsl PP t_L_uint8 1 [0] [.int .u8 x] ⟨H, e⟩ = some (.slice (some ⟨H.length, 0, none⟩) 1 1, ⟨H ++ [.cells [.int .u8 x] t_uint8 true], e⟩) := by kernel_rfl
/-- bytes are copied into a row of one's own -/
theorem own_bytes {v : Value} {a : List UInt8} (hv : Rd H v a.length (bytesV a)) (ha : a.length ≤ 60000) : ∃ k l', l'[k]? = some (byB a) ∧ (∀ z ∈ l', blkRefs z = []) ∧ ∀ (R : Type) (F : Value → AS → Option R), eBuiltin PP .append #[t_L_uint8, t_L_uint8] [.slice (some ⟨H.length, 0, none⟩) 0 0, v] ⟨H ++ [byB []], none⟩ F = F (if a = [] then .slice (some ⟨H.length + k, 0, none⟩) 0 0 else .slice (some ⟨H.length + k, 0, none⟩) a.length UNK) ⟨H ++ l', none⟩ := by
  have hs := (hv.app (l := [byB []])).src (size := 1) (by rw [bytesV_len, Nat.mul_one]) (by_cell a)
  by_cases h0 : a = []
  · subst h0
    refine ⟨0, [byB []], rfl, by simpa using byB_flat [], fun R F => ?_⟩
    have := app_none (P := PP) (R := R) (k := F) (st := ⟨H ++ [byB []], none⟩) (n := 0) (c := 0) (a := ⟨H.length, 0, none⟩) el_L_uint8 hs
    simpa using this
  · have hp : 0 < a.length := List.length_pos_iff.2 h0
    refine ⟨1, [byB [], byB a], rfl, by simp only [List.mem_cons, List.not_mem_nil, or_false, forall_eq_or_imp, forall_eq]; exact ⟨byB_flat [], byB_flat a⟩, fun R F => ?_⟩
    have := app_full (P := PP) (R := R) (k := F) (st := ⟨H ++ [byB []], none⟩) (n := 0) (c := 0) (bk := H.length) (old := []) (o := true) el_L_uint8 (by simp; rfl) rfl hs hp (by omega) (by omega)
    rw [this]
    simp [h0]
/-- one byte more -/
theorem push_can (l : List UInt8) (x : UInt8) (hl : l.length ≤ 60000) : ∃ k l', l'[k]? = some (byB (l ++ [x])) ∧ ∀ (R : Type) (F : Value → AS → Option R), ((bsl PP t_L_uint8 1 [0] [.int .u8 x.toNat] ⟨H ++ [byB l], none⟩).bind fun q => eBuiltin PP .append #[t_L_uint8, t_L_uint8] [canV H.length l, q.1] q.2 F) = F (.slice (some ⟨H.length + k, 0, none⟩) (l.length + 1) UNK) ⟨H ++ l', none⟩ := by
  have he : bytesV l ++ [.int .u8 x.toNat] = bytesV (l ++ [x]) := by simp [bytesV]
  by_cases h0 : l = []
  · subst h0
    have hs : srcCells 1 (H ++ [byB []] ++ [Blk.cells [.int .u8 x.toNat] t_uint8 true]) (.slice (some ⟨(H ++ [byB []]).length, 0, none⟩) 1 1) = some (1, [.int .u8 x.toNat]) := by
      simp [srcCells, cellsAt]
    refine ⟨2, [byB [], Blk.cells [.int .u8 x.toNat] t_uint8 true, byB [x]], rfl, fun R F => ?_⟩
    have := app_full (P := PP) (R := R) (k := F) (st := ⟨H ++ [byB []] ++ [Blk.cells [.int .u8 x.toNat] t_uint8 true], none⟩) (n := 0) (c := 0) (bk := H.length) (old := []) (o := true) el_L_uint8 (by simp; rfl) rfl hs (by omega) (by omega) (by omega)
    rw [bsl_b]
    simp only [Option.bind_some, canV, if_true]
    rw [this]
    simp [bytesV]
    rfl
  · have hp := fun (R : Type) (F : Value → AS → Option R) => push_more0 (P := PP) (H0 := H) (l := [byB l]) (e := none) (m := l.length) (r := [.int .u8 x.toNat]) (v := .int .u8 x.toNat) (F := F) el_L_uint8 rfl (fun H' e' => bsl_b _ H' e') (old := bytesV l) rfl (by rw [bytesV_len, Nat.mul_one]) (by omega)
    rw [can_ne h0]
    refine ⟨2, [byB l].set 0 .dead ++ [Blk.cells [.int .u8 x.toNat] t_uint8 true, .cells (bytesV l ++ [.int .u8 x.toNat]) t_uint8 true], ?_, hp⟩
    simp [he]
/-- what such a row is struck to -/
theorem gc_can {k : Nat} {l' : List Blk} {l : List UInt8} (hl : l ≠ []) (hk : l'[k]? = some (byB l)) (pre post : List Value) (h1 : ∀ r ∈ lrefs pre, r < H.length) (h2 : ∀ r ∈ lrefs post, r < H.length) (hn : (lrefs pre).length + (lrefs post).length < 3000) : gc H.length (pre ++ .slice (some ⟨H.length + k, 0, none⟩) l.length UNK :: post) ⟨H ++ l', none⟩ = (pre ++ canV H.length l :: post, ⟨H ++ [byB l], none⟩) := by
  rw [gc_rowk hk (by
    intro r hr
    simp only [lrefs_app, lrefs_cons, vrefs_slice, List.mem_append, List.mem_singleton] at hr
    rcases hr with hr | hr | hr
    · exact .inl (h1 r hr)
    · exact .inr hr
    · exact .inl (h2 r hr)) (by simp) (bytesV_refs _) (by simp; omega) rfl]
  have happ : ∀ (σ : Nat → Nat) (a b : List Value), lren σ (a ++ b) = lren σ a ++ lren σ b := by
    intro σ a b
    induction a with
    | nil => rfl
    | cons x xs ih => simp only [List.cons_append, lren, ih]
  rw [happ, can_ne hl]
  have e1 : lren (mv (H.length + k) H.length) pre = pre := lren_same _ (fun r hr => mv_lt (by have := h1 r hr; omega))
  have e2 : lren (mv (H.length + k) H.length) post = post := lren_same _ (fun r hr => mv_lt (by have := h2 r hr; omega))
  simp only [lren, vren, mv_eq, e1, e2]
theorem gc_can0 (l : List UInt8) (X : List Blk) (pre post : List Value) (h1 : ∀ r ∈ lrefs pre, r < H.length) (h2 : ∀ r ∈ lrefs post, r < H.length) (hn : (lrefs pre).length + (lrefs post).length < 3000) : gc H.length (pre ++ canV H.length l :: post) ⟨H ++ (byB l :: X), none⟩ = (pre ++ canV H.length l :: post, ⟨H ++ [byB l], none⟩) := by
  refine gc_one ?_ ?_ (bytesV_refs l) ?_
  · intro r hr
    simp only [lrefs_app, lrefs_cons, can_refs, List.mem_append, List.mem_singleton] at hr
    rcases hr with hr | hr | hr
    · exact .inl (h1 r hr)
    · exact .inr hr
    · exact .inl (h2 r hr)
  · simp [can_refs]
  · simp [can_refs]; omega
end
end DK
end Go.Proofs.YtadllcgmimbjdaaGreat

end
section
namespace Go.Proofs.YtadllcgmimbjdaaGreat
open Go Go.Am Go.Dsk
set_option linter.unusedVariables false
namespace DK
section
variable {H : List Blk}
theorem rput_ok {v : Value} {a : List UInt8} (hv : Rd H v a.length (bytesV a)) (hr : ∀ r ∈ vrefs v, r < H.length) (ha : a.length ≤ 1000) {x : Nat} (hx : x < 2 ^ 64) {size : Nat} (h0 : 0 < size) (hs : size ≤ 8) : acall PP TT n_twainref02_Put [v, .int .u64 x, .int .i64 (size : Int)] H = some (tSl (a ++ be x size).length (bytesV (a ++ be x size)), H, none) := by
  have hfew := hv.few (bytesV_refs _)
  -- the bytes are copied, and noughts put behind them
  obtain ⟨k0, l0, q1, q2, q3⟩ := own_bytes hv (by omega)
  have hgc0 : gc H.length [v, .int .u64 x, .int .i64 (size : Int), (if a = [] then .slice (some ⟨H.length + k0, 0, none⟩) 0 0 else .slice (some ⟨H.length + k0, 0, none⟩) a.length UNK), .int .i64 0] ⟨H ++ l0, none⟩ = ([v, .int .u64 x, .int .i64 (size : Int), canV H.length a, .int .i64 0], ⟨H ++ [byB a], none⟩) := by
    by_cases he : a = []
    · subst he
      simp only [if_true]
      rw [gc_rowk q1 (by
        intro r hr'
        simp only [lrefs_cons, lrefs_nil, vrefs_int, vrefs_slice, List.mem_append, List.append_nil, List.nil_append, List.mem_singleton] at hr'
        rcases hr' with hr' | hr'
        · exact .inl (hr r hr')
        · exact .inr hr') (by simp) (bytesV_refs _) (by simp; omega) rfl]
      have e1 : vren (mv (H.length + k0) H.length) v = v := vren_same _ (fun r hr' => mv_lt (by have := hr r hr'; omega))
      simp [lren, vren, e1, mv_eq, canV]
    · simp only [he, if_false]
      exact gc_can (H := H) he q1 [v, .int .u64 x, .int .i64 (size : Int)] [.int .i64 0] (by simpa using hr) (by simp) (by simp; omega)
  have hloop1 := loop_upto (n0 := H.length) (step := twainref02_Put.loop3s (acall PP TT) loopG H.length) (len := size) (σ := List UInt8) (fun i l => ([v, .int .u64 x, .int .i64 (size : Int), canV H.length l, .int .i64 i], ⟨H ++ [byB l], none⟩)) (fun _ l => l ++ [0]) (fun i l => l = a ++ List.replicate i 0 ∧ i ≤ size) (fun l => (.exit 0, [v, .int .u64 x, canV H.length l], ⟨H ++ [byB l], none⟩))
    (fun i l hi ⟨hl, _⟩ => by
      have hlt : (i : Int) < (size : Int) := by omega
      have hw := wrap_add1 (show i < 4611686018427387904 by omega)
      obtain ⟨k, l', c1, c2⟩ := push_can (H := H) l 0 (by rw [hl]; simp; omega)
      have hg := gc_can (H := H) (l := l ++ [0]) (by simp) c1 [v, .int .u64 x, .int .i64 (size : Int)] [.int .i64 ((i + 1 : Nat) : Int)] (by simpa using hr) (by simp) (by simp; omega)
      refine ⟨_, _, ?_, hg, by rw [hl, List.replicate_succ', List.append_assoc], hi⟩
      have c2' : ∀ (R : Type) (F : Value → AS → Option R), ((bsl PP t_L_uint8 1 [0] [.int .u8 0] ⟨H ++ [byB l], none⟩).bind fun q => eBuiltin PP .append #[t_L_uint8, t_L_uint8] [canV H.length l, q.1] q.2 F) = F (.slice (some ⟨H.length + k, 0, none⟩) (l.length + 1) UNK) ⟨H ++ l', none⟩ := c2
      simp only [twainref02_Put.loop3s, twainref02_Put.loop3, mach, Nat.reduceAdd, Nat.reduceLeDiff, Int.reduceEq, Int.reduceLT, Int.reduceLE, hlt, c2', hw, List.length_append])
    (fun l _ => by simp only [twainref02_Put.loop3s, twainref02_Put.loop3, mach, Nat.reduceAdd, Nat.reduceLeDiff, Int.reduceEq, Int.reduceLT, Int.reduceLE, Int.lt_irrefl]) a _ _ ⟨by simp, Nat.zero_le _⟩ hgc0
  have hup1 : ∀ n, upto (fun (_ : Nat) l => l ++ [(0 : UInt8)]) n a = a ++ List.replicate n 0 := by
    intro n
    induction n with
    | zero => simp [upto]
    | succ n ih => rw [upto, ih, List.replicate_succ', List.append_assoc]
  rw [hup1] at hloop1
  have hne : a ++ List.replicate size (0 : UInt8) ≠ [] := by
    intro hc
    have := congrArg List.length hc
    simp at this; omega
  have hWl : (a ++ List.replicate size (0 : UInt8)).length = a.length + size := by simp
  rw [can_ne hne, hWl] at hloop1
  have hla := fun st : AS => hv.len (P := PP) u_L_uint8 st
  have hw0 : IntKind.i64.wrap (((a.length + size : Nat) : Int) - 1) = ((a.length + size : Nat) : Int) - 1 := wrap_i64 ⟨by omega, by omega⟩
  have hgc2 : ∀ (y : Nat) (z : Int) (l : List UInt8), gc H.length [v, .int .u64 (y : Int), .slice (some ⟨H.length, 0, none⟩) (a.length + size) UNK, .int .i64 z] ⟨H ++ [byB l], none⟩ = ([v, .int .u64 (y : Int), .slice (some ⟨H.length, 0, none⟩) (a.length + size) UNK, .int .i64 z], ⟨H ++ [byB l], none⟩) := by
    intro y z l
    refine gc_one (G := []) ?_ (by simp) (bytesV_refs l) (by simp; omega)
    intro r hr'
    simp only [lrefs_cons, lrefs_nil, vrefs_int, vrefs_slice, List.mem_append, List.append_nil, List.nil_append, List.mem_singleton] at hr'
    rcases hr' with hr' | hr'
    · exact .inl (hr r hr')
    · exact .inr hr'
  have hloop2 := loop_upto (n0 := H.length) (step := twainref02_Put.loop7s (acall PP TT) loopG H.length) (len := size) (σ := Nat × List UInt8) (fun j p => ([v, .int .u64 (p.1 : Int), .slice (some ⟨H.length, 0, none⟩) (a.length + size) UNK, .int .i64 (((a.length + size : Nat) : Int) - 1 - j)], ⟨H ++ [byB (a ++ (List.replicate (size - j) 0 ++ p.2))], none⟩)) (fun _ => beNext) (fun j p => p.1 ≤ x ∧ p.2.length = j ∧ j ≤ size) (fun p => (.exit 2, [.slice (some ⟨H.length, 0, none⟩) (a.length + size) UNK], ⟨H ++ [byB (a ++ p.2)], none⟩))
    (fun j p hj ⟨hp, hpl, _⟩ => by
      obtain ⟨y, tl⟩ := p
      simp only at hp hpl
      have hge : ((a.length + size : Nat) : Int) - 1 - (j : Int) ≥ (a.length : Int) := by omega
      have hge' : (a.length : Int) ≤ ((a.length + size : Nat) : Int) - 1 - (j : Int) := by omega
      have hi : ((a.length + size : Nat) : Int) - 1 - (j : Int) = ((a.length + (size - 1 - j) : Nat) : Int) := by omega
      have hix : aIndexAddr PP t_L_uint8 (.slice (some ⟨H.length, 0, none⟩) (a.length + size) UNK) (.int .i64 (((a.length + size : Nat) : Int) - 1 - (j : Int))) = some (.pointer (some ⟨H.length, a.length + (size - 1 - j), none⟩)) := by
        have := ix_sl (j := .i64) (b := H.length) (o := 0) (k := a.length + size) (c := UNK) (n := a.length + (size - 1 - j)) u_L_uint8 sz_uint8 (by omega)
        rw [Nat.zero_add, Nat.mul_one] at this
        rw [hi]; exact this
      have hrm : ∀ ox oy, aBin PP .rem t_uint64 ox oy (.int .u64 (y : Int)) (.int .u64 256) = some (.int .u64 ((y % 256 : Nat) : Int)) := fun ox oy => rem_nat (y := 256) (by decide)
      have hqu : ∀ ox oy, aBin PP .quo t_uint64 ox oy (.int .u64 (y : Int)) (.int .u64 256) = some (.int .u64 ((y / 256 : Nat) : Int)) := fun ox oy => bin_quo_nat (y := 256) (by decide) (fun n hn => wrap64_nat (by omega))
      have hc : ∀ st, aConv PP t_uint64 t_uint8 (.int .u64 ((y % 256 : Nat) : Int)) st = some (.int .u8 ((y % 256 : Nat) : Int), st) := by
        intro st
        simp only [aConv, u_uint64, u_uint8]
        rw [wrap8_nat, Nat.mod_mod]
      have hsub : IntKind.i64.wrap (((a.length + size : Nat) : Int) - 1 - (j : Int) - 1) = ((a.length + size : Nat) : Int) - 1 - ((j + 1 : Nat) : Int) := by rw [wrap_i64 ⟨by omega, by omega⟩]; omega
      have hlen : (bytesV (a ++ (List.replicate (size - j) 0 ++ tl))).length = a.length + size := by simp [bytesV_len, hpl]; omega
      have hle : a.length + (size - 1 - j) + 1 ≤ (bytesV (a ++ (List.replicate (size - j) 0 ++ tl))).length := by rw [hlen]; omega
      have hput : putCells (bytesV (a ++ (List.replicate (size - j) 0 ++ tl))) (a.length + (size - 1 - j)) [.int .u8 ((y % 256 : Nat) : Int)] = bytesV (a ++ (List.replicate (size - (j + 1)) 0 ++ UInt8.ofNat (y % 256) :: tl)) := by
        rw [putCells_set (by rw [hlen]; omega)]
        have := set_mid a tl (size - (j + 1)) (UInt8.ofNat (y % 256))
        rw [ofNat_toNat] at this
        have e1 : size - (j + 1) + 1 = size - j := by omega
        have e2 : size - 1 - j = size - (j + 1) := by omega
        rw [e1] at this
        rw [e2]
        exact this
      refine ⟨_, _, ?_, hgc2 _ _ _, by simp only [beNext]; omega, by simp [beNext, hpl], hj⟩
      simp only [twainref02_Put.loop7s, twainref02_Put.loop7, mach, Nat.reduceAdd, Nat.reduceLeDiff, Int.reduceEq, Int.reduceLT, Int.reduceLE, hla, hge, hge', hrm, hc, hix, hle, hput, hqu, hsub]
      rfl)
    (fun p ⟨hp, hpl, _⟩ => by
      have hge : ¬ ((a.length + size : Nat) : Int) - 1 - (size : Int) ≥ (a.length : Int) := by omega
      have hge' : ¬ (a.length : Int) ≤ ((a.length + size : Nat) : Int) - 1 - (size : Int) := by omega
      simp only [twainref02_Put.loop7s, twainref02_Put.loop7, mach, Nat.reduceAdd, Nat.reduceLeDiff, Int.reduceEq, Int.reduceLT, Int.reduceLE, hla, hge, hge', Nat.sub_self, List.replicate_zero, List.nil_append]) (x, []) [v, .int .u64 x, .slice (some ⟨H.length, 0, none⟩) (a.length + size) UNK, .int .i64 (((a.length + size : Nat) : Int) - 1)] ⟨H ++ [byB (a ++ List.replicate size 0)], none⟩ ⟨Nat.le_refl _, rfl, Nat.zero_le _⟩ (by simpa using hgc2 x (((a.length + size : Nat) : Int) - 1) (a ++ List.replicate size 0))
  have hbe : (upto (fun _ => beNext) size (x, [])).2 = be x size := rfl
  rw [hbe] at hloop2
  rw [acall_eq, twainref02_Put.eq]
  simp only [twainref02_Put.sh, mach, Nat.reduceAdd, Nat.reduceLeDiff, Int.reduceEq, Int.reduceLT, Int.reduceLE, bsl_0, q3, hloop1, twainref02_Put.j2, sl_len u_L_uint8, hw0, hloop2, twainref02_Put.j5]
  rw [List.length_append, be_len]
  exact fin_row0 (l := [byB (a ++ be x size)]) (n := a.length + size) rfl sz_uint8 (by rw [bytesV_len]; simp [be_len]) (by_noSl _) (bytesV_refs _) rfl
theorem rPut32_ok {v : Value} {a : List UInt8} (hv : Rd H v a.length (bytesV a)) (hr : ∀ r ∈ vrefs v, r < H.length) (ha : a.length ≤ 1000) {x : Nat} (hx : x < 2 ^ 32) : acall PP TT n_twainref02_Put32 [v, .int .u32 x] H = some (tSl (a ++ be x 4).length (bytesV (a ++ be x 4)), H, none) := by
  have h := rput_ok hv hr ha (x := x) (by omega) (size := 4) (by decide) (by decide)
  have hc : ∀ st, aConv PP t_uint32 t_uint64 (.int .u32 (x : Int)) st = some (.int .u64 (x : Int), st) := by
    intro st; simp only [aConv, u_uint32, u_uint64]; rw [wrap64_nat (by omega)]
  rw [show ((4 : Nat) : Int) = 4 from rfl] at h
  rw [acall_eq, twainref02_Put32.eq]
  simp only [twainref02_Put32.sh, mach, Nat.reduceAdd, Nat.reduceLeDiff, Int.reduceEq, Int.reduceLT, Int.reduceLE, hc, h]
  exact fin_old (P := PP) (vs := [tSl (a ++ be x 4).length (bytesV (a ++ be x 4))]) rfl rfl (by simp [bytesV_refs])
theorem rPut64_ok {v : Value} {a : List UInt8} (hv : Rd H v a.length (bytesV a)) (hr : ∀ r ∈ vrefs v, r < H.length) (ha : a.length ≤ 1000) {x : Nat} (hx : x < 2 ^ 64) : acall PP TT n_twainref02_Put64 [v, .int .u64 x] H = some (tSl (a ++ be x 8).length (bytesV (a ++ be x 8)), H, none) := by
  have h := rput_ok hv hr ha (x := x) hx (size := 8) (by decide) (by decide)
  rw [show ((8 : Nat) : Int) = 8 from rfl] at h
  rw [acall_eq, twainref02_Put64.eq]
  simp only [twainref02_Put64.sh, mach, Nat.reduceAdd, Nat.reduceLeDiff, Int.reduceEq, Int.reduceLT, Int.reduceLE, h]
  exact fin_old (P := PP) (vs := [tSl (a ++ be x 8).length (bytesV (a ++ be x 8))]) rfl rfl (by simp [bytesV_refs])

theorem rget_ok {v : Value} {n : Nat} {l : List UInt8} (hv : Rd H v n (bytesV l)) (hr : ∀ r ∈ vrefs v, r < H.length) (hn : l.length = n) (hnn : n ≤ 100000) {size : Nat} (hs : size ≤ 8) (hsn : size ≤ n) : acall PP TT n_twainref02_Get [v, .int .i64 (size : Int)] H = some (.tuple #[.int .u64 (getN (l.take size)), .bool true], H, none) := by
  have h1 : ¬ (n : Int) < (size : Int) := by omega
  have hlen := hv.len (P := PP) u_L_uint8 ⟨H, none⟩
  have hloop := loop_upto (n0 := H.length) (step := twainref02_Get.loop5s (acall PP TT) loopG H.length) (len := size) (σ := Unit) (fun i _ => ([v, .int .i64 size, .int .u64 (getN (l.take i)), .int .i64 i], ⟨H, none⟩)) (fun _ u => u) (fun _ _ => True) (fun _ => (.exit 0, [.int .u64 (getN (l.take size))], ⟨H, none⟩))
    (fun i _ hi _ => by
      have hlt' : (i : Int) < (size : Int) := by omega
      have hw := wrap_add1 (show i < 4611686018427387904 by omega)
      have hil : i < l.length := by omega
      have hb : getN (l.take (i + 1)) < 256 ^ (i + 1) := by
        have := getN_lt (l.take (i + 1))
        rwa [List.length_take, Nat.min_eq_left (by omega)] at this
      have hb2 : getN (l.take (i + 1)) < 2 ^ 64 := by
        have h2 : (256 : Nat) ^ (i + 1) ≤ 256 ^ 8 := Nat.pow_le_pow_right (by decide) (by omega)
        have h3 : (256 : Nat) ^ 8 = 2 ^ 64 := by decide
        omega
      have hg1 := getN_take l i hil
      have hby : (l.getD i 0).toNat < 256 := (l.getD i 0).toNat_lt
      have hg : (bytesV l)[i]? = some (.int .u8 (l.getD i 0).toNat) := bytesV_get hil
      obtain ⟨p, hp1, hp2⟩ : ∃ p, aIndexAddr PP t_L_uint8 v (.int .i64 (i : Int)) = some p ∧ aLoad false 1 ⟨H, none⟩ p = some (.int .u8 (l.getD i 0).toNat) := by
        refine ⟨rdPtr v i, ?_, hv.load1 (by omega) hg none⟩
        have := hv.index (P := PP) (k := .i64) u_L_uint8 sz_uint8 (i := (i : Int)) (by omega) (by omega)
        simpa using this
      have hcv : ∀ st, aConv PP t_uint8 t_uint64 (.int .u8 (l.getD i 0).toNat) st = some (.int .u64 (((l.getD i 0).toNat : Nat) : Int), st) := by
        intro st
        simp only [aConv, u_uint8, u_uint64]
        rw [wrap64_nat (Nat.lt_trans hby (by decide))]
      have w1 : IntKind.u64.wrap (256 * ((getN (l.take i) : Nat) : Int)) = ((getN (l.take i) * 256 : Nat) : Int) := by
        rw [show 256 * ((getN (l.take i) : Nat) : Int) = ((getN (l.take i) * 256 : Nat) : Int) by omega]
        exact wrap64_nat (by omega)
      have w2 : IntKind.u64.wrap (((getN (l.take i) * 256 : Nat) : Int) + (((l.getD i 0).toNat : Nat) : Int)) = ((getN (l.take (i + 1)) : Nat) : Int) := by
        rw [hg1, ← Int.natCast_add]
        exact wrap64_nat (by omega)
      refine ⟨_, _, ?_, gc_same (vs := [v, .int .i64 size, .int .u64 (getN (l.take (i + 1))), .int .i64 ((i + 1 : Nat) : Int)]) (by simpa using hr), trivial⟩
      simp only [twainref02_Get.loop5s, twainref02_Get.loop5, mach, Nat.reduceAdd, Nat.reduceLeDiff, Int.reduceEq, Int.reduceLT, Int.reduceLE, hlt', w1, hp1, hp2, hcv, w2, hw])
    (fun _ _ => by simp only [twainref02_Get.loop5s, twainref02_Get.loop5, mach, Nat.reduceAdd, Nat.reduceLeDiff, Int.reduceEq, Int.reduceLT, Int.reduceLE, Int.lt_irrefl]) () [v, .int .i64 size, .int .u64 0, .int .i64 0] ⟨H, none⟩ trivial (gc_same (by simpa using hr))
  rw [acall_eq, twainref02_Get.eq]
  simp only [twainref02_Get.sh, mach, Nat.reduceAdd, Nat.reduceLeDiff, Int.reduceEq, Int.reduceLT, Int.reduceLE, hlen, h1, hloop, twainref02_Get.j2]
  exact fin_lit0 rfl rfl
theorem rGet32_ok {v : Value} {n : Nat} {l : List UInt8} (hv : Rd H v n (bytesV l)) (hr : ∀ r ∈ vrefs v, r < H.length) (hn : l.length = n) (hnn : n ≤ 100000) (hsn : 4 ≤ n) : acall PP TT n_twainref02_Get32 [v] H = some (.tuple #[.int .u32 (getN (l.take 4)), .bool true], H, none) := by
  have h := rget_ok hv hr hn hnn (size := 4) (by decide) hsn
  have hb : getN (l.take 4) < 2 ^ 32 := by
    have := getN_lt (l.take 4)
    rwa [List.length_take, Nat.min_eq_left (by omega)] at this
  have hc : ∀ st, aConv PP t_uint64 t_uint32 (.int .u64 (getN (l.take 4) : Int)) st = some (.int .u32 (getN (l.take 4) : Int), st) := by
    intro st; simp only [aConv, u_uint32, u_uint64]; rw [wrap32_nat hb]
  rw [show ((4 : Nat) : Int) = 4 from rfl] at h
  rw [acall_eq, twainref02_Get32.eq]
  simp only [twainref02_Get32.sh, mach, Nat.reduceAdd, Nat.reduceLeDiff, Int.reduceEq, Int.reduceLT, Int.reduceLE, h, hc]
  exact fin_lit0 rfl rfl
end
end DK
end Go.Proofs.YtadllcgmimbjdaaGreat

end
section
namespace Go.Proofs.YtadllcgmimbjdaaGreat
open Go Go.Am Go.Dsk
set_option linter.unusedVariables false
namespace DK
section
variable {H : List Blk}
def leNext (p : List UInt8 × Nat) : List UInt8 × Nat := (p.1 ++ [UInt8.ofNat (p.2 % 256)], p.2 / 256)
theorem le_same (l : List UInt8) (x : Nat) : (upto (fun _ => leNext) 4 (l, x)).1 = l ++ le4 x := by
  simp only [upto, leNext, le4, be, beNext, List.reverse_cons, List.reverse_nil, List.nil_append, List.append_assoc, List.cons_append]
theorem rseal_ok {v : Value} {a : List UInt8} (hv : Rd H v a.length (bytesV a)) (hr : ∀ r ∈ vrefs v, r < H.length) (ha : a.length ≤ 1000) : acall PP TT n_twainref05_Put [v] H = some (tSl (sealed a).length (bytesV (sealed a)), H, none) := by
  obtain ⟨k0, l0, q1, q2, q3⟩ := own_bytes hv (by omega)
  have hsum := rsum_ok (hv.app (l := l0)) (fun r h => by have := hr r h; simp; omega) (by omega)
  have hx : crcMore 0 a < 2 ^ 32 := crcMore_lt (by decide) a
  generalize hxe : crcMore 0 a = x at hsum hx
  have hgc0 : gc H.length [(if a = [] then .slice (some ⟨H.length + k0, 0, none⟩) 0 0 else .slice (some ⟨H.length + k0, 0, none⟩) a.length UNK), .int .u32 (x : Int), .int .i64 0] ⟨H ++ l0, none⟩ = ([canV H.length a, .int .u32 (x : Int), .int .i64 0], ⟨H ++ [byB a], none⟩) := by
    by_cases he : a = []
    · subst he
      simp only [if_true]
      rw [gc_rowk q1 (by simp) (by simp) (bytesV_refs _) (by simp) rfl]
      simp [lren, vren, mv_eq, canV]
    · simp only [he, if_false]
      exact gc_can (H := H) he q1 [] [.int .u32 (x : Int), .int .i64 0] (by simp) (by simp) (by simp)
  have hloop := loop_upto (n0 := H.length) (step := twainref05_Put.loop4s (acall PP TT) loopG H.length) (len := 4) (σ := List UInt8 × Nat) (fun i p => ([canV H.length p.1, .int .u32 (p.2 : Int), .int .i64 i], ⟨H ++ [byB p.1], none⟩)) (fun _ => leNext) (fun i p => p.1.length ≤ 1000 + i ∧ p.2 < 2 ^ 32) (fun p => (.exit 0, [canV H.length p.1], ⟨H ++ [byB p.1], none⟩))
    (fun i p hi ⟨hp1, hp2⟩ => by
      obtain ⟨l, y⟩ := p
      simp only at hp1 hp2
      have hlt : (i : Int) < 4 := by omega
      have hw := wrap_add1 (show i < 4611686018427387904 by omega)
      obtain ⟨k, l', c1, c2⟩ := push_can (H := H) l (UInt8.ofNat (y % 256)) (by omega)
      rw [ofNat_toNat] at c2
      have hrm : ∀ ox oy, aBin PP .rem t_uint32 ox oy (.int .u32 (y : Int)) (.int .u32 256) = some (.int .u32 ((y % 256 : Nat) : Int)) := fun ox oy => rem_nat (y := 256) (by decide)
      have hqu : ∀ ox oy, aBin PP .quo t_uint32 ox oy (.int .u32 (y : Int)) (.int .u32 256) = some (.int .u32 ((y / 256 : Nat) : Int)) := fun ox oy => bin_quo_nat (y := 256) (by decide) (fun n hn => wrap32_nat (by omega))
      have hc : ∀ st, aConv PP t_uint32 t_uint8 (.int .u32 ((y % 256 : Nat) : Int)) st = some (.int .u8 ((y % 256 : Nat) : Int), st) := by
        intro st
        simp only [aConv, u_uint32, u_uint8]
        rw [wrap8_nat, Nat.mod_mod]
      have hg := gc_can (H := H) (l := l ++ [UInt8.ofNat (y % 256)]) (by simp) c1 [] [.int .u32 ((y / 256 : Nat) : Int), .int .i64 ((i + 1 : Nat) : Int)] (by simp) (by simp) (by simp)
      refine ⟨_, _, ?_, hg, by simp [leNext]; omega, by simp only [leNext]; omega⟩
      simp only [twainref05_Put.loop4s, twainref05_Put.loop4, mach, Nat.reduceAdd, Nat.reduceLeDiff, Int.reduceEq, Int.reduceLT, Int.reduceLE, hlt, hrm, hc, c2, hqu, hw, List.length_append])
    (fun p _ => by simp only [twainref05_Put.loop4s, twainref05_Put.loop4, mach, Nat.reduceAdd, Nat.reduceLeDiff, Int.reduceEq, Int.reduceLT, Int.reduceLE]; rfl) (a, x) _ _ ⟨by simpa using ha, hx⟩ hgc0
  rw [le_same, ← hxe] at hloop
  have hse : sealed a = a ++ le4 (crcMore 0 a) := rfl
  have hne : sealed a ≠ [] := by
    intro hc
    have := congrArg List.length hc
    rw [hse, List.length_append, le4_len] at this
    simp at this
  rw [← hse, can_ne hne] at hloop
  rw [acall_eq, twainref05_Put.eq]
  rw [← hxe] at hsum
  simp only [twainref05_Put.sh, mach, Nat.reduceAdd, Nat.reduceLeDiff, Int.reduceEq, Int.reduceLT, Int.reduceLE, bsl_0, q3, hsum, hloop, twainref05_Put.j2]
  exact fin_row0 (l := [byB (sealed a)]) rfl sz_uint8 (by rw [bytesV_len, Nat.mul_one]) (by_noSl _) (bytesV_refs _) rfl
theorem rrec_ok (n w : Nat) (hn : n < 2 ^ 32) (hw : w < 2 ^ 64) (H : List Blk) : acall PP TT n_twainref05_Record [.int .u32 n, .int .u64 w] H = some (.agg (rec n w).cells.toArray, H, none) := by
  have hrt : ∀ (l : List UInt8) (G : List Blk), Rd G (tSl l.length (bytesV l)) l.length (bytesV l) := fun l G => .tree _ _
  have hrr : ∀ (l : List UInt8) (G : List Blk), ∀ r ∈ vrefs (tSl l.length (bytesV l)), r < G.length := fun l G => by simp [bytesV_refs]
  have h1 := rPut32_ok (H := H ++ [.cells z_api_Sector t_api_Sector true, .cells z_api_Sector t_api_Sector true]) (v := .slice none 0 0) (a := []) .nil (by simp) (by decide) hn
  have h2 := rPut64_ok (H := H ++ [.cells z_api_Sector t_api_Sector true, .cells z_api_Sector t_api_Sector true]) (hrt ([] ++ be n 4) _) (hrr ([] ++ be n 4) _) (by rw [List.nil_append, be_len]; decide) hw
  have h3 := rseal_ok (H := H ++ [.cells z_api_Sector t_api_Sector true, .cells z_api_Sector t_api_Sector true]) (hrt ([] ++ be n 4 ++ be w 8) _) (hrr ([] ++ be n 4 ++ be w 8) _) (by simp [be_len])
  have hrec : sealed ([] ++ be n 4 ++ be w 8) = (rec n w).val := rfl
  rw [hrec] at h3
  simp only [List.nil_append] at h1 h2 h3
  generalize rec n w = s at h3 ⊢
  rw [s.2] at h3
  have hix : ∀ (i : Nat), i < 16 → ∀ n, aIndexAddr PP t_api_Sector (.pointer (some ⟨n, 0, none⟩)) (.int .i64 (i : Int)) = some (.pointer (some ⟨n, i, none⟩)) := by
    intro i hi n
    have := ix_arr (j := .i64) (b := n) (o := 0) (k := 16) (n := i) u_api_Sector sz_uint8 hi
    rwa [Nat.zero_add, Nat.mul_one] at this
  have hgc : ∀ (i : Nat) (cs : List Value), lrefs cs = [] → gc H.length [ptr H.length, .pointer (some ⟨H.length + 1, 0, none⟩), tSl 16 (bytesV s.val), .int .i64 (i : Int)] ⟨H ++ [.cells z_api_Sector t_api_Sector true, .cells cs t_api_Sector true], none⟩ = ([ptr H.length, .pointer (some ⟨H.length + 1, 0, none⟩), tSl 16 (bytesV s.val), .int .i64 (i : Int)], ⟨H ++ [.cells z_api_Sector t_api_Sector true, .cells cs t_api_Sector true], none⟩) := by
    intro i cs hcs
    refine gc_flats [0, 1] ?_ rfl ?_ (by simp [bytesV_refs]) ?_ ?_
    · intro z hz
      simp only [List.mem_cons, List.not_mem_nil, or_false] at hz
      rcases hz with rfl | rfl
      · rw [blkRefs_cells]; rfl
      · rw [blkRefs_cells]; exact hcs
    · simp [bytesV_refs, news_own, news_own0]
    · simp [lren, vren, once, rn_own, rn_own0, findIx, vren_none (show vrefs (tSl 16 (bytesV s.val)) = [] by simp [bytesV_refs])]
    · simp [once]
  have hz : z_api_Sector = bytesV (List.replicate 16 0) := by kernel_rfl
  have hloop := loop_upto (n0 := H.length) (step := twainref05_Record.loop4s (acall PP TT) loopG H.length) (len := 16) (σ := Unit) (fun i _ => ([ptr H.length, .pointer (some ⟨H.length + 1, 0, none⟩), tSl 16 (bytesV s.val), .int .i64 i], ⟨H ++ [.cells z_api_Sector t_api_Sector true, .cells (bytesV (s.val.take i ++ List.replicate (16 - i) 0)) t_api_Sector true], none⟩)) (fun _ u => u) (fun _ _ => True) (fun _ => (.exit 0, [ptr H.length, .pointer (some ⟨H.length + 1, 0, none⟩)], ⟨H ++ [.cells z_api_Sector t_api_Sector true, .cells s.cells t_api_Sector true], none⟩))
    (fun i _ hi _ => by
      have hlt : (i : Int) < 16 := by omega
      have hw := wrap_add1 (show i < 4611686018427387904 by omega)
      have hil : i < s.val.length := by rw [s.2]; exact hi
      have hi2 : aIndexAddr PP t_L_uint8 (tSl 16 (bytesV s.val)) (.int .i64 (i : Int)) = some (tPtr i (bytesV s.val).toArray) := by
        have := tsl_index (n := 16) (row := bytesV s.val) (j := .i64) (k := i) u_L_uint8 sz_uint8 hi
        rwa [Nat.mul_one] at this
      have hld : ∀ st, aLoad false 1 st (tPtr i (bytesV s.val).toArray) = some (.int .u8 (s.val.getD i 0).toNat) := by
        intro st
        show tLoad false 1 i (bytesV s.val).toArray = _
        simp only [tLoad, Bool.false_eq_true, if_false]
        exact bytesV_get hil
      have hln : (bytesV (s.val.take i ++ List.replicate (16 - i) 0)).length = 16 := by
        simp [bytesV_len, s.2]; omega
      have hle : i + 1 ≤ (bytesV (s.val.take i ++ List.replicate (16 - i) 0)).length := by rw [hln]; omega
      have hput : putCells (bytesV (s.val.take i ++ List.replicate (16 - i) 0)) i [.int .u8 (s.val.getD i 0).toNat] = bytesV (s.val.take (i + 1) ++ List.replicate (16 - (i + 1)) 0) := by
        rw [putCells_set (by rw [hln]; exact hi)]
        obtain ⟨k, hk⟩ : ∃ k, 16 - i = k + 1 := ⟨16 - (i + 1), by omega⟩
        have hk' : 16 - (i + 1) = k := by omega
        rw [hk, hk']
        exact set_front hil
      refine ⟨_, _, ?_, hgc (i + 1) _ (bytesV_refs _), trivial⟩
      simp only [twainref05_Record.loop4s, twainref05_Record.loop4, mach, Nat.reduceAdd, Nat.reduceLeDiff, Int.reduceEq, Int.reduceLT, Int.reduceLE, hlt, hi2, hld, hix i hi, hle, hput, hw])
    (fun _ _ => by
      have e : s.val.take 16 ++ List.replicate (16 - 16) 0 = s.val := by
        rw [Nat.sub_self, List.replicate_zero, List.append_nil]
        exact List.take_of_length_le (by rw [s.2]; exact Nat.le_refl _)
      simp only [twainref05_Record.loop4s, twainref05_Record.loop4, mach, Nat.reduceAdd, Nat.reduceLeDiff, Int.reduceEq, Int.reduceLT, Int.reduceLE, e]
      rfl) () [ptr H.length, .pointer (some ⟨H.length + 1, 0, none⟩), tSl 16 (bytesV s.val), .int .i64 0] ⟨H ++ [.cells z_api_Sector t_api_Sector true, .cells z_api_Sector t_api_Sector true], none⟩ trivial (by
      exact (hgc 0 z_api_Sector rfl).trans (by simp [hz]))
  rw [acall_eq, twainref05_Record.eq]
  simp only [twainref05_Record.sh, mach, Nat.reduceAdd, Nat.reduceLeDiff, Int.reduceEq, Int.reduceLT, Int.reduceLE, zg_api_Sector, box_lit, za_api_Sector, h1, h2, h3, hloop, twainref05_Record.j2, s.len, take_sec, zl_api_Sector, sec_all, sec_refs, put_sec]
  exact fin_sec (H := H) (l := [.cells s.cells t_api_Sector true, .cells s.cells t_api_Sector true]) rfl s
end
end DK
end Go.Proofs.YtadllcgmimbjdaaGreat

end
section
namespace Go.Proofs.YtadllcgmimbjdaaGreat
open Go Go.Am Go.Dsk
set_option linter.unusedVariables false
namespace DK
section
variable {H : List Blk} {b kr : Nat} {r : Rf} {d : Dk}
theorem ropen_ok (s : Sec) (H : List Blk) : acall PP TT n_twainref05_Open [.agg s.cells.toArray] H = some (.tuple #[.int .u32 (opened s).1, .int .u64 (opened s).2.1, .bool (opened s).2.2], H, none) := by
  have hx : Rd (H ++ [Blk.cells s.cells t_api_Sector true]) (.slice (some ⟨H.length, 0, none⟩) 16 16) s.val.length (bytesV s.val) := by
    rw [s.2]
    exact .own (bs := s.cells) (t := t_api_Sector) (own := true) (by simp) (by simp) (by rw [List.drop_zero]; exact List.take_length)
  obtain ⟨k0, l0, q1, q2, q3⟩ := own_bytes (H := H ++ [Blk.cells s.cells t_api_Sector true]) hx (by rw [s.2]; decide)
  have hne : s.val ≠ [] := by intro hc; have := s.2; rw [hc] at this; simp at this
  simp only [hne, if_false, s.2] at q3
  have hk : (H ++ [Blk.cells s.cells t_api_Sector true] ++ l0)[(H ++ [Blk.cells s.cells t_api_Sector true]).length + k0]? = some (byB s.val) := by
    rw [List.getElem?_append_right (by omega)]; simpa using q1
  have hlt : (H ++ [Blk.cells s.cells t_api_Sector true]).length + k0 < (H ++ [Blk.cells s.cells t_api_Sector true] ++ l0).length := blk_lt hk
  have rd1 : Rd (H ++ [Blk.cells s.cells t_api_Sector true] ++ l0) (.slice (some ⟨(H ++ [Blk.cells s.cells t_api_Sector true]).length + k0, 0, none⟩) 16 UNK) 16 (bytesV s.val) :=
    .own hk (by simp) (by rw [List.drop_zero]; exact List.take_length)
  have rd2 : Rd (H ++ [Blk.cells s.cells t_api_Sector true] ++ l0) (.slice (some ⟨(H ++ [Blk.cells s.cells t_api_Sector true]).length + k0, 4, none⟩) 12 UNK) 12 (bytesV (s.val.drop 4)) :=
    .own hk (by rw [bytesV_len, s.2]; decide) (by
      rw [List.take_of_length_le (by simp [bytesV_len])]
      simp [bytesV, List.map_drop])
  have g1 := rGet32_ok rd1 (by simpa using hlt) s.2 (by decide) (by decide)
  have g2 := rget_ok rd2 (by simpa using hlt) (by simp [s.2]) (by decide) (size := 8) (by decide) (by decide)
  have hall : ∀ (k : Nat) (st : AS), aSlice PP t_api_Sector (.pointer (some ⟨k, 0, none⟩)) none none none st = some (.slice (some ⟨k, 0, none⟩) 16 16) := fun k st => slice_all u_api_Sector sz_uint8 (by unfold UNK; omega)
  have hlo : aSlice PP t_L_uint8 (.slice (some ⟨(H ++ [Blk.cells s.cells t_api_Sector true]).length + k0, 0, none⟩) 16 UNK) (some (.int .i64 4)) none none ⟨H ++ [Blk.cells s.cells t_api_Sector true] ++ l0, none⟩ = some (.slice (some ⟨(H ++ [Blk.cells s.cells t_api_Sector true]).length + k0, 4, none⟩) 12 UNK) :=
    slice_lo_unk (P := PP) (m := 4) (st := ⟨H ++ [Blk.cells s.cells t_api_Sector true] ++ l0, none⟩) u_L_uint8 sz_uint8 hk sz_uint8 (by decide) (by unfold UNK; omega)
  have b1 : getN (s.val.take 4) < 2 ^ 32 := by
    have := getN_lt (s.val.take 4)
    rw [List.length_take, s.2] at this
    exact this
  have b2 : getN ((s.val.drop 4).take 8) < 2 ^ 64 := by
    have := getN_lt ((s.val.drop 4).take 8)
    rw [List.length_take, List.length_drop, s.2] at this
    exact this
  have hrc := rrec_ok _ _ b1 b2 (H ++ [Blk.cells s.cells t_api_Sector true] ++ l0)
  have hld : cellsAt (H ++ [Blk.cells s.cells t_api_Sector true] ++ l0) H.length 0 16 = some s.cells := by
    rw [cellsAt_eq (cs := s.cells) (t := t_api_Sector) (o := true) (by simp), if_pos (by rw [s.len]; exact Nat.le_refl _), List.drop_zero, take_sec]
  have hbt : (some true == some true) = true := rfl
  have hvq : veq (.agg s.cells.toArray) (.agg s.cells.toArray) = true := veq_agg s.cells (bytesV_all _ (fun _ => rfl) _)
  have hneq := fun ox oy => neq_sec (rec (getN (s.val.take 4)) (getN ((s.val.drop 4).take 8))) s (ox := ox) (oy := oy)
  have hdc : decide (rec (getN (s.val.take 4)) (getN ((s.val.drop 4).take 8)) = s) = decide (s = rec (getN (s.val.take 4)) (getN ((s.val.drop 4).take 8))) := by
    simp only [decide_eq_decide]; exact eq_comm
  rw [show ((8 : Nat) : Int) = 8 from rfl] at g2
  simp only [List.append_assoc, List.cons_append, List.nil_append, len_app, List.length_cons, List.length_nil, Nat.zero_add] at q3 g1 g2 hlo hrc hld
  rw [acall_eq, twainref05_Open.eq]
  by_cases he : s = rec (getN (s.val.take 4)) (getN ((s.val.drop 4).take 8))
  · have ho : opened s = (getN (s.val.take 4), getN ((s.val.drop 4).take 8), true) := by unfold opened; rw [if_pos he]
    have hd : (!decide (s = rec (getN (s.val.take 4)) (getN ((s.val.drop 4).take 8)))) = false := by simpa using he
    rw [ho]
    simp only [twainref05_Open.sh, mach, Nat.reduceAdd, Nat.reduceLeDiff, Int.reduceEq, Int.reduceLT, Int.reduceLE, box_lit, sec_all, bsl_0, hall, q3, g1, hlo, g2, hld, hrc, hvq, hbt, hneq, hdc, hd]
    exact fin_lit rfl rfl rfl
  · have ho : opened s = (0, 0, false) := by unfold opened; rw [if_neg he]
    have hd : (!decide (s = rec (getN (s.val.take 4)) (getN ((s.val.drop 4).take 8)))) = true := by simpa using he
    rw [ho]
    simp only [twainref05_Open.sh, mach, Nat.reduceAdd, Nat.reduceLeDiff, Int.reduceEq, Int.reduceLT, Int.reduceLE, box_lit, sec_all, bsl_0, hall, q3, g1, hlo, g2, hld, hrc, hvq, hbt, hneq, hdc, hd]
    exact fin_lit rfl rfl rfl
theorem rring_ok {base size : Nat} (h : 2 ≤ size ∧ size ≤ 8 ∧ base ≤ 1024) (H : List Blk) : acall PP TT n_twainref07_ring [.int .i64 (base : Int), .int .i64 (size : Int)] H = some (.bool true, H, none) := by
  have h1 : (size : Int) ≥ 2 := by omega
  have h1' : (2 : Int) ≤ (size : Int) := by omega
  have h2 : (size : Int) ≤ 8 := by omega
  have h3 : (base : Int) ≥ 0 := by omega
  have h3' : (0 : Int) ≤ (base : Int) := by omega
  have h4 : (base : Int) ≤ 1024 := by omega
  rw [acall_eq, twainref07_ring.eq]
  simp only [twainref07_ring.sh, mach, Nat.reduceAdd, Nat.reduceLeDiff, Int.reduceEq, Int.reduceLT, Int.reduceLE, h1, h1', h2, h3, h3', h4]
  exact fin_lit0 rfl rfl
theorem rplace_ok {base size n : Nat} (h : 2 ≤ size ∧ size ≤ 8 ∧ base ≤ 1024) (hn : n < 2 ^ 32) (H : List Blk) : acall PP TT n_twainref07_Place [.int .u32 (n : Int), .int .i64 (base : Int), .int .i64 (size : Int)] H = some (.int .i64 ((base + n % size : Nat) : Int), H, none) := by
  have hm : n % size < size := Nat.mod_lt _ (by omega)
  have c2 : ∀ st, aConv PP t_uint32 t_int (.int .u32 (n : Int)) st = some (.int .i64 (n : Int), st) := by
    intro st; simp only [aConv, u_int, u_uint32]; rw [wrap_nat (by omega)]
  have hr : ∀ ox oy, aBin PP .rem t_int ox oy (.int .i64 (n : Int)) (.int .i64 (size : Int)) = some (.int .i64 ((n % size : Nat) : Int)) := fun ox oy => rem_nat (by omega)
  have hw : IntKind.i64.wrap ((base : Int) + ((n % size : Nat) : Int)) = ((base + n % size : Nat) : Int) := by rw [wrap_i64 ⟨by omega, by omega⟩]; omega
  rw [acall_eq, twainref07_Place.eq]
  simp only [twainref07_Place.sh, mach, Nat.reduceAdd, Nat.reduceLeDiff, Int.reduceEq, Int.reduceLT, Int.reduceLE, rring_ok h, c2, hr, hw]
  exact fin_lit0 rfl rfl

theorem rLatest_ok (h : RAt H b kr r) (hs : Sim d r) {base size : Nat} (hb : 2 ≤ size ∧ size ≤ 8 ∧ base ≤ 1024) : acall PP TT n_twainref07_Latest [ptr b, .int .i64 (base : Int), .int .i64 (size : Int)] H = some (.tuple #[.int .u32 ((latest d.read base size d.safe.length).1 : Int), .int .u64 ((latest d.read base size d.safe.length).2 : Int)], H, none) := by
  obtain ⟨c, hbb⟩ := h.hb
  have hbl := blk_lt hbb
  have hf := h.few
  have hln : r.cl.length = d.safe.length := hs.len
  have hw0 : IntKind.i64.wrap ((r.cl.length : Int) - (size : Int)) = (r.cl.length : Int) - (size : Int) := wrap_i64 ⟨by omega, by omega⟩
  have hbs : IntKind.i64.wrap ((base : Int) + (size : Int)) = ((base + size : Nat) : Int) := by rw [wrap_i64 ⟨by omega, by omega⟩]; omega
  rw [acall_eq, twainref07_Latest.eq]
  by_cases hl : base + size ≤ d.safe.length
  · have hlat : latest d.read base size d.safe.length = upto (fun i best => better (slotAt d.read base size (base + i)) best) size (0, 0) := by unfold latest; rw [if_pos hl]
    have hgt : ¬ (r.cl.length : Int) - (size : Int) < (base : Int) := by omega
    have hgc : ∀ (x : Nat × Nat) (k : Nat) (X : List Blk), gc H.length [ptr b, .int .i64 (base : Int), .int .i64 (size : Int), .int .u32 (x.1 : Int), .int .u64 (x.2 : Int), .int .i64 (k : Int)] ⟨H ++ X, none⟩ = ([ptr b, .int .i64 (base : Int), .int .i64 (size : Int), .int .u32 (x.1 : Int), .int .u64 (x.2 : Int), .int .i64 (k : Int)], ⟨H, none⟩) := fun x k X => gc_old (by simp [hbl])
    have hloop := loop_upto (n0 := H.length) (step := twainref07_Latest.loop5s (acall PP TT) loopG H.length) (len := size) (σ := Nat × Nat) (fun i x => ([ptr b, .int .i64 (base : Int), .int .i64 (size : Int), .int .u32 (x.1 : Int), .int .u64 (x.2 : Int), .int .i64 ((base + i : Nat) : Int)], ⟨H, none⟩)) (fun i best => better (slotAt d.read base size (base + i)) best) (fun _ x => x.1 < 2 ^ 32 ∧ x.2 < 2 ^ 64) (fun x => (.exit 0, [.int .u32 (x.1 : Int), .int .u64 (x.2 : Int)], ⟨H, none⟩))
      (fun i x hi hxl => by
        have hlt : ((base + i : Nat) : Int) < ((base + size : Nat) : Int) := by omega
        have hw : IntKind.i64.wrap (((base + i : Nat) : Int) + 1) = ((base + (i + 1) : Nat) : Int) := by rw [wrap_i64 ⟨by omega, by omega⟩]; omega
        have hrd := rread_ok h ((base + i : Nat) : Int)
        rw [hs.read] at hrd
        obtain ⟨l1, l2⟩ := opened_lt (d.read ((base + i : Nat) : Int)).1
        have hop := ropen_ok (d.read ((base + i : Nat) : Int)).1 (H ++ [.cells (d.read ((base + i : Nat) : Int)).1.cells t_api_Sector true])
        have hpl := rplace_ok hb l1 (H ++ [.cells (d.read ((base + i : Nat) : Int)).1.cells t_api_Sector true])
        have hsl := slotAt_lt d.read base size (base + i)
        have hbl' := better_lt hsl hxl
        -- what becomes of it
        have key : ∀ (y : Nat × Nat), better (slotAt d.read base size (base + i)) x = y → twainref07_Latest.loop5s (acall PP TT) loopG H.length ([ptr b, .int .i64 (base : Int), .int .i64 (size : Int), .int .u32 (x.1 : Int), .int .u64 (x.2 : Int), .int .i64 ((base + i : Nat) : Int)], ⟨H, none⟩) = some (.inl ([ptr b, .int .i64 (base : Int), .int .i64 (size : Int), .int .u32 (y.1 : Int), .int .u64 (y.2 : Int), .int .i64 ((base + (i + 1) : Nat) : Int)], ⟨H ++ [.cells (d.read ((base + i : Nat) : Int)).1.cells t_api_Sector true], none⟩)) := by
          intro y hy
          by_cases he : (d.read ((base + i : Nat) : Int)).2 = 0
          · cases hk : (opened (d.read ((base + i : Nat) : Int)).1).2.2 with
            | false =>
              have hs0 : slotAt d.read base size (base + i) = (0, 0) := by unfold slotAt; rw [if_neg (by rw [hk]; simp)]
              have : y = x := by rw [← hy, hs0]; unfold better; rw [if_neg (by simp)]
              subst this
              rw [hk] at hop
              simp only [twainref07_Latest.loop5s, twainref07_Latest.loop5, twainref07_Latest.j3, twainref07_Latest.j4, mach, Nat.reduceAdd, Nat.reduceLeDiff, Int.reduceEq, Int.reduceLT, Int.reduceLE, hbs, hlt, hrd, zg_api_Sector, box_lit, za_api_Sector, zl_api_Sector, (d.read ((base + i : Nat) : Int)).1.len, sec_all, sec_refs, put_sec, take_sec, hop, he, hw]
            | true =>
              rw [hk] at hop
              by_cases hg : x.1 < (opened (d.read ((base + i : Nat) : Int)).1).1
              · have hg' : (x.1 : Int) < ((opened (d.read ((base + i : Nat) : Int)).1).1 : Int) := by omega
                by_cases hp : base + (opened (d.read ((base + i : Nat) : Int)).1).1 % size = base + i
                · have hs0 : slotAt d.read base size (base + i) = ((opened (d.read ((base + i : Nat) : Int)).1).1, (opened (d.read ((base + i : Nat) : Int)).1).2.1) := by unfold slotAt; rw [if_pos ⟨he, hk, hp⟩]
                  have : y = ((opened (d.read ((base + i : Nat) : Int)).1).1, (opened (d.read ((base + i : Nat) : Int)).1).2.1) := by rw [← hy, hs0]; unfold better; rw [if_pos hg]
                  subst this
                  have hp' : ((base + (opened (d.read ((base + i : Nat) : Int)).1).1 % size : Nat) : Int) = ((base + i : Nat) : Int) := by omega
                  simp only [twainref07_Latest.loop5s, twainref07_Latest.loop5, twainref07_Latest.j3, twainref07_Latest.j4, mach, Nat.reduceAdd, Nat.reduceLeDiff, Int.reduceEq, Int.reduceLT, Int.reduceLE, hbs, hlt, hrd, zg_api_Sector, box_lit, za_api_Sector, zl_api_Sector, (d.read ((base + i : Nat) : Int)).1.len, sec_all, sec_refs, put_sec, take_sec, hop, he, hg', hpl, hp', hw]
                · have hs0 : slotAt d.read base size (base + i) = (0, 0) := by unfold slotAt; rw [if_neg (fun hc => hp hc.2.2)]
                  have : y = x := by rw [← hy, hs0]; unfold better; rw [if_neg (by simp)]
                  subst this
                  have hp' : ¬ ((base + (opened (d.read ((base + i : Nat) : Int)).1).1 % size : Nat) : Int) = ((base + i : Nat) : Int) := by omega
                  simp only [twainref07_Latest.loop5s, twainref07_Latest.loop5, twainref07_Latest.j3, twainref07_Latest.j4, mach, Nat.reduceAdd, Nat.reduceLeDiff, Int.reduceEq, Int.reduceLT, Int.reduceLE, hbs, hlt, hrd, zg_api_Sector, box_lit, za_api_Sector, zl_api_Sector, (d.read ((base + i : Nat) : Int)).1.len, sec_all, sec_refs, put_sec, take_sec, hop, he, hg', hpl, hp', hw]
              · have hg' : ¬ (x.1 : Int) < ((opened (d.read ((base + i : Nat) : Int)).1).1 : Int) := by omega
                have : y = x := by
                  rw [← hy]
                  unfold better
                  rw [if_neg]
                  unfold slotAt
                  split
                  · exact hg
                  · simp
                subst this
                simp only [twainref07_Latest.loop5s, twainref07_Latest.loop5, twainref07_Latest.j3, twainref07_Latest.j4, mach, Nat.reduceAdd, Nat.reduceLeDiff, Int.reduceEq, Int.reduceLT, Int.reduceLE, hbs, hlt, hrd, zg_api_Sector, box_lit, za_api_Sector, zl_api_Sector, (d.read ((base + i : Nat) : Int)).1.len, sec_all, sec_refs, put_sec, take_sec, hop, he, hg', hw]
          · have hs0 : slotAt d.read base size (base + i) = (0, 0) := by unfold slotAt; rw [if_neg (fun hc => he hc.1)]
            have : y = x := by rw [← hy, hs0]; unfold better; rw [if_neg (by simp)]
            subst this
            simp only [twainref07_Latest.loop5s, twainref07_Latest.loop5, twainref07_Latest.j3, twainref07_Latest.j4, mach, Nat.reduceAdd, Nat.reduceLeDiff, Int.reduceEq, Int.reduceLT, Int.reduceLE, hbs, hlt, hrd, zg_api_Sector, box_lit, za_api_Sector, zl_api_Sector, (d.read ((base + i : Nat) : Int)).1.len, sec_all, sec_refs, put_sec, take_sec, hop, he, hw]
        exact ⟨_, _, key _ rfl, hgc _ _ _, hbl'⟩)
      (fun x _ => by simp only [twainref07_Latest.loop5s, twainref07_Latest.loop5, mach, Nat.reduceAdd, Nat.reduceLeDiff, Int.reduceEq, Int.reduceLT, Int.reduceLE, hbs, Int.lt_irrefl]) (0, 0) [ptr b, .int .i64 (base : Int), .int .i64 (size : Int), .int .u32 0, .int .u64 0, .int .i64 (base : Int)] ⟨H, none⟩ ⟨by decide, by decide⟩ (by simpa using hgc (0, 0) base [])
    rw [← hlat] at hloop
    simp only [twainref07_Latest.sh, twainref07_Latest.j0, twainref07_Latest.j1, mach, Nat.reduceAdd, Nat.reduceLeDiff, Int.reduceEq, Int.reduceLT, Int.reduceLE, rring_ok hb, nil_p, fa_twainref06_Disk_0, cellAt_eq hbb, aLen, u_L_twainref06_Cell, hw0, hgt, hloop, twainref07_Latest.j6]
    exact fin_lit0 rfl rfl
  · have hlat : latest d.read base size d.safe.length = (0, 0) := by unfold latest; rw [if_neg hl]
    have hgt : (r.cl.length : Int) - (size : Int) < (base : Int) := by omega
    rw [hlat]
    simp only [twainref07_Latest.sh, twainref07_Latest.j0, mach, Nat.reduceAdd, Nat.reduceLeDiff, Int.reduceEq, Int.reduceLT, Int.reduceLE, rring_ok hb, nil_p, fa_twainref06_Disk_0, cellAt_eq hbb, aLen, u_L_twainref06_Cell, hw0, hgt]
    exact fin_lit0 rfl rfl
end
end DK
end Go.Proofs.YtadllcgmimbjdaaGreat

end
section
namespace Go.Proofs.YtadllcgmimbjdaaGreat
open Go Go.Am Go.Dsk
set_option linter.unusedVariables false
namespace DK
section
variable {H : List Blk} {b kr : Nat} {r : Rf} {d : Dk}
theorem rboot_ok (h : RAt H b kr r) (hs : Sim d r) : acall PP TT n_twainref08_Boot [ptr b] H = some (.int .u32 (((latest d.read 0 2 d.safe.length).2 % 2 ^ 32 : Nat) : Int), H, none) := by
  have h1 := rLatest_ok h hs (base := 0) (size := 2) ⟨by decide, by decide, by decide⟩
  have hr : ∀ (n : Nat) ox oy, aBin PP .rem t_uint64 ox oy (.int .u64 (n : Int)) (.int .u64 4294967296) = some (.int .u64 ((n % 2 ^ 32 : Nat) : Int)) := fun n ox oy => rem_nat (y := 4294967296) (by decide)
  have hc : ∀ (n : Nat) st, aConv PP t_uint64 t_uint32 (.int .u64 ((n % 2 ^ 32 : Nat) : Int)) st = some (.int .u32 ((n % 2 ^ 32 : Nat) : Int), st) := by
    intro n st; simp only [aConv, u_uint64, u_uint32]; rw [wrap32_nat (Nat.mod_lt _ (by decide))]
  rw [show ((0 : Nat) : Int) = 0 from rfl, show ((2 : Nat) : Int) = 2 from rfl] at h1
  rw [acall_eq, twainref08_Boot.eq]
  simp only [twainref08_Boot.sh, mach, Nat.reduceAdd, Nat.reduceLeDiff, Int.reduceEq, Int.reduceLT, Int.reduceLE, h1, hr, hc]
  exact fin_lit0 rfl rfl
theorem rhot_ok (h : RAt H b kr r) (hs : Sim d r) : acall PP TT n_twainref10_Get [ptr b] H = some (.int .u64 ((latest d.read 2 4 d.safe.length).2 : Int), H, none) := by
  have h1 := rLatest_ok h hs (base := 2) (size := 4) ⟨by decide, by decide, by decide⟩
  rw [show ((2 : Nat) : Int) = 2 from rfl, show ((4 : Nat) : Int) = 4 from rfl] at h1
  rw [acall_eq, twainref10_Get.eq]
  simp only [twainref10_Get.sh, mach, Nat.reduceAdd, Nat.reduceLeDiff, Int.reduceEq, Int.reduceLT, Int.reduceLE, h1]
  exact fin_lit0 rfl rfl
theorem rdirty_ok (h : RAt H b kr r) (hs : Sim d r) : acall PP TT n_twainref11_Get [ptr b] H = some (.int .u64 ((latest d.read 6 2 d.safe.length).2 : Int), H, none) := by
  have h1 := rLatest_ok h hs (base := 6) (size := 2) ⟨by decide, by decide, by decide⟩
  rw [show ((6 : Nat) : Int) = 6 from rfl, show ((2 : Nat) : Int) = 2 from rfl] at h1
  rw [acall_eq, twainref11_Get.eq]
  simp only [twainref11_Get.sh, mach, Nat.reduceAdd, Nat.reduceLeDiff, Int.reduceEq, Int.reduceLT, Int.reduceLE, h1]
  exact fin_lit0 rfl rfl
theorem rlook_ok (h : RAt H b kr r) (hs : Sim d r) : acall PP TT n_twainref13_Look [ptr b] H = some (.agg (mtC ((latest d.read 0 2 d.safe.length).2 % 2 ^ 32) (latest d.read 2 4 d.safe.length).2 (latest d.read 6 2 d.safe.length).2).toArray, H, none) := by
  have hx := h.app [.cells z_twainref13_Meta t_twainref13_Meta true]
  have hb : ∀ x y z : Nat, aBuild PP t_twainref13_Meta [(0, .int .u32 (x : Int)), (1, .int .u64 (y : Int)), (2, .int .u64 (z : Int))] = some (.agg (mtC x y z).toArray) := fun x y z => by kernel_rfl
  have hz : z_twainref13_Meta = mtC 0 0 0 := by kernel_rfl
  have hp : ∀ x y z, putCells (mtC 0 0 0) 0 (mtC x y z) = mtC x y z := fun x y z => by simp [putCells, mtC]
  have ha : ∀ x y z, allCells (mtC x y z) = true := fun x y z => rfl
  have hr : ∀ x y z, lrefs (mtC x y z) = [] := fun x y z => rfl
  have hl : ∀ x y z, (mtC x y z).length = 3 := fun x y z => rfl
  have ht : ∀ x y z, List.take 3 (mtC x y z) = mtC x y z := fun x y z => rfl
  rw [acall_eq, twainref13_Look.eq]
  simp only [twainref13_Look.sh, mach, Nat.reduceAdd, Nat.reduceLeDiff, Int.reduceEq, Int.reduceLT, Int.reduceLE, zg_twainref13_Meta, box_lit, za_twainref13_Meta, rboot_ok hx hs, rhot_ok hx hs, rdirty_ok hx hs, hb]
  simp only [hz, hl, ha, hr, hp, ht, mach, Nat.reduceAdd, Nat.reduceLeDiff, Int.reduceEq, Int.reduceLT, Int.reduceLE]
  refine fin_of (H0 := H) (l := [.cells (mtC ((latest d.read 0 2 d.safe.length).2 % 2 ^ 32) (latest d.read 2 4 d.safe.length).2 (latest d.read 6 2 d.safe.length).2) t_twainref13_Meta true]) (l' := [.cells (mtC ((latest d.read 0 2 d.safe.length).2 % 2 ^ 32) (latest d.read 2 4 d.safe.length).2 (latest d.read 6 2 d.safe.length).2) t_twainref13_Meta true]) (vs' := [.agg (mtC ((latest d.read 0 2 d.safe.length).2 % 2 ^ 32) (latest d.read 2 4 d.safe.length).2 (latest d.read 6 2 d.safe.length).2).toArray]) ?_ rfl rfl
  simp only [frzL, frz_agg _ 7 (mtC _ _ _) _ rfl]
theorem rmine_ok (x : Nat) {y z : Nat} (hy : y < 2 ^ 64) (hz : z < 2 ^ 64) (H : List Blk) : acall PP TT n_twainref13_Mine [.agg (mtC x y z).toArray] H = some (.int .u64 ((y ||| z : Nat) : Int), H, none) := by
  rw [acall_eq, twainref13_Mine.eq]
  unfold mtC
  simp only [twainref13_Mine.sh, mach, Nat.reduceAdd, Nat.reduceLeDiff, Int.reduceEq, Int.reduceLT, Int.reduceLE, fa_twainref13_Meta_1, fa_twainref13_Meta_2, rboth_ok hy hz]
  exact fin_lit rfl rfl rfl
theorem rknown_ok {a ka : Nat} {ra : Rf} {da : Dk} (ha : RAt H a ka ra) (h : RAt H b kr r) (sa : Sim da ra) (hs : Sim d r) : acall PP TT n_twainref46_Known [ptr a, ptr b] H = some (.int .u64 ((knows da.read da.safe.length ||| knows d.read d.safe.length : Nat) : Int), H, none) := by
  have h1 := rlook_ok ha sa
  have h2 := rlook_ok h hs
  have m1 := rmine_ok ((latest da.read 0 2 da.safe.length).2 % 2 ^ 32) (latest_lt da.read 2 4 da.safe.length).2 (latest_lt da.read 6 2 da.safe.length).2 H
  have m2 := rmine_ok ((latest d.read 0 2 d.safe.length).2 % 2 ^ 32) (latest_lt d.read 2 4 d.safe.length).2 (latest_lt d.read 6 2 d.safe.length).2 H
  have k1 : (latest da.read 2 4 da.safe.length).2 ||| (latest da.read 6 2 da.safe.length).2 < 2 ^ 64 := Nat.or_lt_two_pow (latest_lt ..).2 (latest_lt ..).2
  have k2 : (latest d.read 2 4 d.safe.length).2 ||| (latest d.read 6 2 d.safe.length).2 < 2 ^ 64 := Nat.or_lt_two_pow (latest_lt ..).2 (latest_lt ..).2
  rw [acall_eq, twainref46_Known.eq]
  simp only [twainref46_Known.sh, mach, Nat.reduceAdd, Nat.reduceLeDiff, Int.reduceEq, Int.reduceLT, Int.reduceLE, h1, h2, m1, m2, rboth_ok k1 k2, knows]
  exact fin_lit0 rfl rfl
end
end DK
end Go.Proofs.YtadllcgmimbjdaaGreat

end
section
namespace Go.Proofs.YtadllcgmimbjdaaGreat
open Go Go.Am Go.Dsk
set_option linter.unusedVariables false
namespace DK
/-! ### Four disks, apart -/
section
variable {H : List Blk} {b k m : Nat} {d : Dk} {r : Rf}
theorem RAt.ren {H' : List Blk} {σ : Nat → Nat} {l : List Nat} (h : RAt H b k r) (hb : Rch H l b) (g : ∀ r, Rch H l r → ∀ x, H[r]? = some x → H'[σ r]? = some (renBlk σ x)) : Rch H l k ∧ RAt H' (σ b) (σ k) r := by
  obtain ⟨c, h1⟩ := h.hb
  have hk : Rch H l k := .step hb h1 (by simp [blkRefs])
  refine ⟨hk, ⟨c, ?_⟩, ?_, h.few⟩
  · have := g b hb _ h1
    simpa [renBlk, lren, vren] using this
  · have := g k hk _ h.hr
    rwa [renBlk_cells, lren_none (clRow_of r.cl).frefs] at this
theorem RAt.apart {b' k' : Nat} {r' : Rf} (h : RAt H b k r) (h' : RAt H b' k' r') : b ≠ k' ∧ k ≠ b' := by
  obtain ⟨c, h1⟩ := h.hb
  obtain ⟨c', h1'⟩ := h'.hb
  refine ⟨fun e => ?_, fun e => ?_⟩
  · have := h1; rw [e, h'.hr] at this; simp at this; exact absurd this.2 (by decide)
  · have := h.hr; rw [e, h1'] at this; simp at this; exact absurd this.2 (by decide)
theorem RAt.off {b' k' : Nat} (h : RAt H b k r) (h' : At H b' k' m d) : (b ≠ b' ∧ b ≠ k' ∧ b ≠ m) ∧ k ≠ b' ∧ k ≠ k' ∧ k ≠ m := by
  obtain ⟨c, h1⟩ := h.hb
  obtain ⟨es, c', h2, _⟩ := h'.hm
  refine ⟨⟨fun e => ?_, fun e => ?_, fun e => ?_⟩, fun e => ?_, fun e => ?_, fun e => ?_⟩
  · have := h1; rw [e, h'.hb] at this; simp at this
  · have := h1; rw [e, h'.hr] at this; simp at this; exact absurd this.2 (by decide)
  · have := h1; rw [e, h2] at this; simp at this
  · have := h.hr; rw [e, h'.hb] at this; simp at this; exact absurd this.2 (by decide)
  · have := h.hr; rw [e, h'.hr] at this; simp at this; exact absurd this.2 (by decide)
  · have := h.hr; rw [e, h2] at this; simp at this
theorem RAt.keep {H' : List Blk} (h : RAt H b k r) (g1 : H'[b]? = H[b]?) (g2 : H'[k]? = H[k]?) : RAt H' b k r := by
  obtain ⟨c, h1⟩ := h.hb
  exact ⟨⟨c, by rw [g1]; exact h1⟩, by rw [g2]; exact h.hr, h.few⟩
theorem At.keep2 {H' : List Blk} (h : At H b k m d) (g1 : H'[b]? = H[b]?) (g2 : H'[k]? = H[k]?) (g3 : H'[m]? = H[m]?) : At H' b k m d := by
  obtain ⟨es, c, h1, h2⟩ := h.hm
  exact ⟨by rw [g1]; exact h.hb, by rw [g2]; exact h.hr, ⟨es, c, by rw [g3]; exact h1, h2⟩, h.ok⟩
end
structure Pl where
  b1 : Nat
  k1 : Nat
  m1 : Nat
  b2 : Nat
  k2 : Nat
  m2 : Nat
  b3 : Nat
  k3 : Nat
  b4 : Nat
  k4 : Nat
structure Four (H : List Blk) (p : Pl) (a d : Dk) (r s : Rf) : Prop where
  two : Two H p.b1 p.k1 p.m1 a p.b2 p.k2 p.m2 d
  thd : RAt H p.b3 p.k3 r
  frt : RAt H p.b4 p.k4 s
  nb : p.b3 ≠ p.b4
  nk : p.k3 ≠ p.k4
section
variable {H H' : List Blk} {p : Pl} {a d a' : Dk} {r s r' : Rf}
theorem Four.app (h : Four H p a d r s) (l : List Blk) : Four (H ++ l) p a d r s := ⟨h.two.app l, h.thd.app l, h.frt.app l, h.nb, h.nk⟩
theorem Four.one (h : Four H p a d r s) (h1 : At H' p.b1 p.k1 p.m1 a') (hf : Fr H H' p.b1 p.k1 p.m1) : Four H' p a' d r s := by
  obtain ⟨⟨x1, x2, x3⟩, x4, x5, x6⟩ := h.thd.off h.two.fst
  obtain ⟨⟨y1, y2, y3⟩, y4, y5, y6⟩ := h.frt.off h.two.fst
  exact ⟨h.two.one h1 hf, h.thd.keep (hf.2 _ x1 x2 x3) (hf.2 _ x4 x5 x6), h.frt.keep (hf.2 _ y1 y2 y3) (hf.2 _ y4 y5 y6), h.nb, h.nk⟩
theorem Four.snd (h : Four H p a d r s) (h1 : At H' p.b2 p.k2 p.m2 a') (hf : Fr H H' p.b2 p.k2 p.m2) : Four H' p a a' r s := by
  obtain ⟨⟨x1, x2, x3⟩, x4, x5, x6⟩ := h.thd.off h.two.snd
  obtain ⟨⟨y1, y2, y3⟩, y4, y5, y6⟩ := h.frt.off h.two.snd
  exact ⟨h.two.two h1 hf, h.thd.keep (hf.2 _ x1 x2 x3) (hf.2 _ x4 x5 x6), h.frt.keep (hf.2 _ y1 y2 y3) (hf.2 _ y4 y5 y6), h.nb, h.nk⟩
theorem Four.third (h : Four H p a d r s) (h1 : RAt H' p.b3 p.k3 r') (hf : Fr2 H H' p.b3 p.k3) : Four H' p a d r' s := by
  obtain ⟨⟨x1, x2, x3⟩, x4, x5, x6⟩ := h.thd.off h.two.fst
  obtain ⟨⟨y1, y2, y3⟩, y4, y5, y6⟩ := h.thd.off h.two.snd
  obtain ⟨z1, z2⟩ := h.frt.apart h.thd
  exact ⟨⟨h.two.fst.keep2 (hf.2 _ x1.symm x4.symm) (hf.2 _ x2.symm x5.symm) (hf.2 _ x3.symm x6.symm), h.two.snd.keep2 (hf.2 _ y1.symm y4.symm) (hf.2 _ y2.symm y5.symm) (hf.2 _ y3.symm y6.symm), h.two.nb, h.two.nk, h.two.nm⟩, h1, h.frt.keep (hf.2 _ h.nb.symm z1) (hf.2 _ z2 h.nk.symm), h.nb, h.nk⟩
theorem Four.fourth (h : Four H p a d r s) (h1 : RAt H' p.b4 p.k4 r') (hf : Fr2 H H' p.b4 p.k4) : Four H' p a d r r' := by
  obtain ⟨⟨x1, x2, x3⟩, x4, x5, x6⟩ := h.frt.off h.two.fst
  obtain ⟨⟨y1, y2, y3⟩, y4, y5, y6⟩ := h.frt.off h.two.snd
  obtain ⟨z1, z2⟩ := h.thd.apart h.frt
  exact ⟨⟨h.two.fst.keep2 (hf.2 _ x1.symm x4.symm) (hf.2 _ x2.symm x5.symm) (hf.2 _ x3.symm x6.symm), h.two.snd.keep2 (hf.2 _ y1.symm y4.symm) (hf.2 _ y2.symm y5.symm) (hf.2 _ y3.symm y6.symm), h.two.nb, h.two.nk, h.two.nm⟩, h.thd.keep (hf.2 _ h.nb z1) (hf.2 _ z2 h.nk), h1, h.nb, h.nk⟩
def Pl.ren (σ : Nat → Nat) (p : Pl) : Pl := ⟨σ p.b1, σ p.k1, σ p.m1, σ p.b2, σ p.k2, σ p.m2, σ p.b3, σ p.k3, σ p.b4, σ p.k4⟩
theorem Four.gc {vs : List Value} {st : AS} (h : Four st.H p a d r s) (h1 : p.b1 ∈ lrefs vs) (h2 : p.b2 ∈ lrefs vs) (h3 : p.b3 ∈ lrefs vs) (h4 : p.b4 ∈ lrefs vs) : ∃ σ, (Am.gc 0 vs st).1 = lren σ vs ∧ Four (Am.gc 0 vs st).2.H (p.ren σ) a d r s := by
  obtain ⟨σ, g1, g2, g3⟩ := gc0_spec vs st
  obtain ⟨q1, q2, q3⟩ := h.two.fst.ren (.here h1) g2
  obtain ⟨r1, r2, r3⟩ := h.two.snd.ren (.here h2) g2
  obtain ⟨s1, s2⟩ := h.thd.ren (.here h3) g2
  obtain ⟨t1, t2⟩ := h.frt.ren (.here h4) g2
  exact ⟨σ, g1, ⟨q3, r3, fun e => h.two.nb (g3 _ _ (.here h1) (.here h2) e), fun e => h.two.nk (g3 _ _ q1 r1 e), fun e => h.two.nm (g3 _ _ q2 r2 e)⟩, s2, t2, fun e => h.nb (g3 _ _ (.here h3) (.here h4) e), fun e => h.nk (g3 _ _ s1 t1 e)⟩

/-! ### The loop -/
def CtI (st : AS) (p : Pl) (a d : Dk) (r s : Rf) : Prop := Four st.H p a d r s ∧ Sim a r ∧ Sim d s
variable {l : List Fl} {x y : List Nat}
abbrev uV (x : List Nat) : Value := tSl x.length (u32V x)
theorem uV_refs (x : List Nat) : vrefs (uV x) = [] := by simp [u32V_refs]
theorem fV_refs (l : List Fl) : vrefs (tSl l.length (flRow l)) = [] := by simp [fl_refs]
theorem flushes {st : AS} {i : Nat} (h : CtI st p a d r s) (vx vy v80 v81 v82 : Value) : ∃ a' d' r' s' st', twainlaw46_CompareTells.j3 (acall PP TT) loopG 0 vx vy (ptr p.b1) (ptr p.b2) (ptr p.b3) (ptr p.b4) (.int .i64 (i : Int)) v80 v81 v82 st = some (.normal, [vx, vy, ptr p.b1, ptr p.b2, ptr p.b3, ptr p.b4, v80, v81, v82], st') ∧ CtI st' p a' d' r' s' := by
  obtain ⟨H, e⟩ := st
  obtain ⟨h, sa, sd⟩ := h
  have hr : ∀ ox oy, aBin PP .rem t_int ox oy (.int .i64 (i : Int)) (.int .i64 3) = some (.int .i64 ((i % 3 : Nat) : Int)) := fun ox oy => rem_nat (y := 3) (by decide)
  by_cases hc : ((i % 3 : Nat) : Int) = 2
  · obtain ⟨H1, c1, c2, c3⟩ := flush_ok h.two.fst
    have h1 := h.one c2 c3
    obtain ⟨H2, d1, d2, d3⟩ := rflush_ok h1.thd
    have h2 := h1.third d2 d3
    obtain ⟨H3, e1, e2, e3⟩ := flush_ok h2.two.snd
    have h3 := h2.snd e2 e3
    obtain ⟨H4, f1, f2, f3⟩ := rflush_ok h3.frt
    have h4 := h3.fourth f2 f3
    refine ⟨_, _, _, _, ⟨H4, e⟩, ?_, h4, sa.flush.2, sd.flush.2⟩
    simp only [twainlaw46_CompareTells.j3, mach, Nat.reduceAdd, Nat.reduceLeDiff, Int.reduceEq, Int.reduceLT, Int.reduceLE, hr, hc, c1, d1, e1, f1]
  · refine ⟨a, d, r, s, ⟨H, e⟩, ?_, h, sa, sd⟩
    simp only [twainlaw46_CompareTells.j3, mach, Nat.reduceAdd, Nat.reduceLeDiff, Int.reduceEq, Int.reduceLT, Int.reduceLE, hr, hc]

abbrev vs9 (x y : List Nat) (p : Pl) (l : List Fl) (i : Nat) : List Value := [uV x, uV y, ptr p.b1, ptr p.b2, ptr p.b3, ptr p.b4, tSl l.length (flRow l), .int .i64 l.length, .int .i64 (i : Int)]
def I9 (x y : List Nat) (l : List Fl) (i : Nat) (X : List Value × AS) : Prop := ∃ p a d r s st, X = (vs9 x y p l i, st) ∧ CtI st p a d r s
theorem I9_gc (i : Nat) (X : List Value × AS) (h : I9 x y l i X) : I9 x y l i (Am.gc 0 X.1 X.2) := by
  obtain ⟨p, a, d, r, s, st, rfl, h1, h2⟩ := h
  obtain ⟨σ, g1, g2⟩ := h1.gc (vs := vs9 x y p l i) (by simp) (by simp) (by simp) (by simp)
  refine ⟨p.ren σ, a, d, r, s, _, Prod.ext ?_ rfl, g2, h2⟩
  rw [g1]
  simp [lren, vren_none (fV_refs l), vren_none (uV_refs x), vren_none (uV_refs y), vren, Pl.ren]
theorem loop9_ok (hl : l.length ≤ 60) {st : AS} (hf : CtI st p a d r s) :
    ∃ q, loopG 0 (twainlaw46_CompareTells.loop9s (acall PP TT) loopG 0) (vs9 x y p l 0, st) = some q ∧ ∃ p a d r s st', q = (.exit 0, [uV x, uV y, ptr p.b1, ptr p.b2, ptr p.b3, ptr p.b4], st') ∧ CtI st' p a d r s := by
  refine loop_inv (len := l.length) (I9 x y l) _ I9_gc ?_ ?_ l.length 0 _ (by omega) ⟨p, a, d, r, s, st, rfl, hf⟩
  · rintro i X hi ⟨p, a, d, r, s, ⟨H, e⟩, rfl, h1, sa, sd⟩
    right
    have hlt : (i : Int) < (l.length : Int) := by omega
    have hg : l[i]? = some l[i] := List.getElem?_eq_getElem hi
    generalize l[i] = f at hg
    have hw := wrap_add1 (show i < 4611686018427387904 by omega)
    have h2 := h1.app [.cells f.cells t_twainlaw46_Fill true]
    have hbx : (H ++ [Blk.cells f.cells t_twainlaw46_Fill true])[H.length]? = some (.cells f.cells t_twainlaw46_Fill true) := by simp
    cases hfb : f.b with
    | true =>
      obtain ⟨H1, c1, c2, c3⟩ := write_ok h2.two.snd f.at_ f.s
      have h3 := h2.snd c2 c3
      have hb1 : H1[H.length]? = some (.cells f.cells t_twainlaw46_Fill true) := by
        obtain ⟨es, c, q1, _⟩ := h1.two.snd.hm
        rw [c3.2 _ (Nat.ne_of_gt (blk_lt h1.two.snd.hb)) (Nat.ne_of_gt (blk_lt h1.two.snd.hr)) (Nat.ne_of_gt (blk_lt q1)), hbx]
      obtain ⟨H2, d1, d2, d3⟩ := rwrite_ok h3.frt f.at_ f.s
      have h4 := h3.fourth d2 d3
      obtain ⟨a', d', r', s', st', k1, k2⟩ := flushes (i := i) (st := ⟨H2, e⟩) ⟨h4, sa, (sd.write f.at_ f.s).2⟩ (uV x) (uV y) (tSl l.length (flRow l)) (.int .i64 l.length) (.int .i64 (i : Int))
      refine ⟨(vs9 x y p l (i + 1), st'), ?_, p, a', d', r', s', _, rfl, k2⟩
      simp only [twainlaw46_CompareTells.loop9s, twainlaw46_CompareTells.loop9, twainlaw46_CompareTells.j4, mach, Nat.reduceAdd, Nat.reduceLeDiff, Int.reduceEq, Int.reduceLT, Int.reduceLE, hlt, fl_ix hi, fl_ld hg, zg_twainlaw46_Fill, zl_twainlaw46_Fill, za_twainlaw46_Fill, fl_len, fl_all, fl_put, fl_lr, fa_twainlaw46_Fill_0, fa_twainlaw46_Fill_1, fa_twainlaw46_Fill_2, fl_0, fl_1, fl_part, hfb, c1, cellAt_eq hb1, cellsAt_eq hb1, d1, k1, hw]
    | false =>
      obtain ⟨H1, c1, c2, c3⟩ := write_ok h2.two.fst f.at_ f.s
      have h3 := h2.one c2 c3
      have hb1 : H1[H.length]? = some (.cells f.cells t_twainlaw46_Fill true) := by
        obtain ⟨es, c, q1, _⟩ := h1.two.fst.hm
        rw [c3.2 _ (Nat.ne_of_gt (blk_lt h1.two.fst.hb)) (Nat.ne_of_gt (blk_lt h1.two.fst.hr)) (Nat.ne_of_gt (blk_lt q1)), hbx]
      obtain ⟨H2, d1, d2, d3⟩ := rwrite_ok h3.thd f.at_ f.s
      have h4 := h3.third d2 d3
      obtain ⟨a', d', r', s', st', k1, k2⟩ := flushes (i := i) (st := ⟨H2, e⟩) ⟨h4, (sa.write f.at_ f.s).2, sd⟩ (uV x) (uV y) (tSl l.length (flRow l)) (.int .i64 l.length) (.int .i64 (i : Int))
      refine ⟨(vs9 x y p l (i + 1), st'), ?_, p, a', d', r', s', _, rfl, k2⟩
      simp only [twainlaw46_CompareTells.loop9s, twainlaw46_CompareTells.loop9, twainlaw46_CompareTells.j4, mach, Nat.reduceAdd, Nat.reduceLeDiff, Int.reduceEq, Int.reduceLT, Int.reduceLE, hlt, fl_ix hi, fl_ld hg, zg_twainlaw46_Fill, zl_twainlaw46_Fill, za_twainlaw46_Fill, fl_len, fl_all, fl_put, fl_lr, fa_twainlaw46_Fill_0, fa_twainlaw46_Fill_1, fa_twainlaw46_Fill_2, fl_0, fl_1, fl_part, hfb, c1, cellAt_eq hb1, cellsAt_eq hb1, d1, k1, hw]
  · rintro X ⟨p, a, d, r, s, st, rfl, h1⟩
    refine ⟨_, ?_, p, a, d, r, s, st, rfl, h1⟩
    simp only [twainlaw46_CompareTells.loop9s, twainlaw46_CompareTells.loop9, mach, Nat.reduceAdd, Nat.reduceLeDiff, Int.reduceEq, Int.reduceLT, Int.reduceLE, Int.lt_irrefl]

/-! ### What is told -/
abbrev vs26 (x y u : List Nat) (p : Pl) (i : Nat) : List Value := [uV x, uV y, ptr p.b1, ptr p.b2, ptr p.b3, ptr p.b4, uV u, uV u, .int .i64 u.length, .int .i64 (i : Int)]
def I26 (x y u : List Nat) (i : Nat) (X : List Value × AS) : Prop := ∃ p a d r s st, X = (vs26 x y u p i, st) ∧ CtI st p a d r s
theorem I26_gc {u : List Nat} (i : Nat) (X : List Value × AS) (h : I26 x y u i X) : I26 x y u i (Am.gc 0 X.1 X.2) := by
  obtain ⟨p, a, d, r, s, st, rfl, h1, h2⟩ := h
  obtain ⟨σ, g1, g2⟩ := h1.gc (vs := vs26 x y u p i) (by simp) (by simp) (by simp) (by simp)
  refine ⟨p.ren σ, a, d, r, s, _, Prod.ext ?_ rfl, g2, h2⟩
  rw [g1]
  simp [lren, vren_none (uV_refs u), vren_none (uV_refs x), vren_none (uV_refs y), vren, Pl.ren]
theorem loop26_ok {u : List Nat} (hu : u.length ≤ 1000) {st : AS} (hf : CtI st p a d r s) :
    ∃ q, loopG 0 (twainlaw46_CompareTells.loop26s (acall PP TT) loopG 0) (vs26 x y u p 0, st) = some q ∧ ∃ p a d r s st', q = (.exit 2, [unk, uV x, uV y, ptr p.b1, ptr p.b2, ptr p.b3, ptr p.b4], st') ∧ CtI st' p a d r s := by
  refine loop_inv (len := u.length) (I26 x y u) _ I26_gc ?_ ?_ u.length 0 _ (by omega) ⟨p, a, d, r, s, st, rfl, hf⟩
  · rintro i X hi ⟨p, a, d, r, s, st, rfl, h1⟩
    right
    have hlt : (i : Int) < (u.length : Int) := by omega
    have hg : u[i]? = some u[i] := List.getElem?_eq_getElem hi
    generalize u[i] = z at hg
    have hw := wrap_add1 (show i < 4611686018427387904 by omega)
    refine ⟨(vs26 x y u p (i + 1), st), ?_, p, a, d, r, s, _, rfl, h1⟩
    simp only [twainlaw46_CompareTells.loop26s, twainlaw46_CompareTells.loop26, mach, Nat.reduceAdd, Nat.reduceLeDiff, Int.reduceEq, Int.reduceLT, Int.reduceLE, hlt, u32_ix hi, u32_ld hg, hw]
  · rintro X ⟨p, a, d, r, s, st, rfl, h1⟩
    refine ⟨_, ?_, p, a, d, r, s, st, rfl, h1⟩
    simp only [twainlaw46_CompareTells.loop26s, twainlaw46_CompareTells.loop26, mach, Nat.reduceAdd, Nat.reduceLeDiff, Int.reduceEq, Int.reduceLT, Int.reduceLE, Int.lt_irrefl]

theorem j9_ok (hx : x.length ≤ 100) (hy : y.length ≤ 100) {st : AS} (h : CtI st p a d r s) : saysTrue (twainlaw46_CompareTells.j9 (acall PP TT) loopG 0 (uV x) (uV y) (ptr p.b1) (ptr p.b2) (ptr p.b3) (ptr p.b4) st) = true := by
  obtain ⟨H, e⟩ := st
  obtain ⟨h, sa, sd⟩ := h
  have u1 := unlike_ok h.two.fst h.two.snd
  have u2 := runlike_ok h.thd h.frt sa sd
  have k1 := known_ok h.two.fst h.two.snd
  have k2 := rknown_ok h.thd h.frt sa sd
  have s1 := suspect_ok x y (by omega) (by omega) H
  have s2 := rsuspect_ok x y (by omega) (by omega) H
  simp only [twainlaw46_CompareTells.j9, mach, Nat.reduceAdd, Nat.reduceLeDiff, Int.reduceEq, Int.reduceLT, Int.reduceLE, u1, u2, k1, k2, s1, s2, twainlaw46_lives.eq]
  exact says_fin0
theorem j6_ok (hx : x.length ≤ 100) (hy : y.length ≤ 100) {st : AS} (h : CtI st p a d r s) : saysTrue (twainlaw46_CompareTells.j6 (acall PP TT) loopG 0 (uV x) (uV y) (ptr p.b1) (ptr p.b2) (ptr p.b3) (ptr p.b4) st) = true := by
  obtain ⟨H, e⟩ := st
  have u1 := sums_ok h.1.two.fst
  have u2 := rsums_ok h.1.thd h.2.1
  have hl : (sums a).length ≤ 1000 := by simp only [sums, List.length_map, List.length_range]; omega
  obtain ⟨q, p1, p', a', d', r', s', st', rfl, q1⟩ := loop26_ok (x := x) (y := y) (u := sums a) hl (st := ⟨H, e⟩) h
  simp only [vs26, Int.natCast_zero] at p1
  simp only [twainlaw46_CompareTells.j6, mach, Nat.reduceAdd, Nat.reduceLeDiff, Int.reduceEq, Int.reduceLT, Int.reduceLE, u1, u2, tsl_len u_L_uint32, p1]
  exact j9_ok hx hy q1

/-! ### The law -/
theorem u32_of {v : List Value} (h : TOk PP t_L_uint32 v) : ∃ x : List Nat, v = [uV x] := by
  obtain ⟨rows, rfl, _, hr⟩ := h.slice_inv u_L_uint32
  have key : ∀ rows : List (List Value), (∀ r ∈ rows, TOk PP t_uint32 r) → ∃ x : List Nat, rows.length = x.length ∧ rows.flatten = u32V x := by
    intro rows
    induction rows with
    | nil => intro _; exact ⟨[], rfl, rfl⟩
    | cons r rs ih =>
      intro hr
      obtain ⟨x, h1, h2⟩ := ih (fun z hz => hr z (by simp [hz]))
      obtain ⟨n, rfl, hn⟩ := (hr r (by simp)).int_inv u_uint32
      have e1 : IntKind.u32.min = 0 := by kernel_rfl
      rw [e1] at hn
      have : ((n.toNat : Nat) : Int) = n := by omega
      exact ⟨n.toNat :: x, by simp [h1], by simp [h2, u32V, this]⟩
  obtain ⟨x, h1, h2⟩ := key rows hr
  exact ⟨x, by rw [h1, h2]⟩
def csC (n m : Int) (x y : List Nat) : List Value := [.int .i64 n, .int .i64 m, uV x, uV y]
theorem cs_arg {w : List Value} (h : TOk PP t_twainlaw46_Case w) : ∃ (n m : Int) (x y : List Nat), argV PP t_twainlaw46_Case w = .agg (csC n m x y).toArray := by
  obtain ⟨ps, rfl, hp⟩ := h.struct_inv us_twainlaw46_Case
  rw [ty_twainlaw46_Case] at hp
  match ps, hp with
  | [a, b, c, d], ⟨ha, hb, hc, hd, _⟩ =>
    obtain ⟨n, rfl, _⟩ := int_of ha
    obtain ⟨m, rfl, _⟩ := int_of hb
    obtain ⟨x, rfl⟩ := u32_of hc
    obtain ⟨y, rfl⟩ := u32_of hd
    refine ⟨n, m, x, y, ?_⟩
    unfold argV
    rw [us_twainlaw46_Case]
    rfl
theorem cs_all (n m : Int) (x y : List Nat) : allCells (csC n m x y) = true := rfl
theorem cs_0 (n m : Int) (x y : List Nat) : (csC n m x y)[0]? = some (.int .i64 n) := rfl
theorem cs_1 (n m : Int) (x y : List Nat) : (csC n m x y)[1]? = some (.int .i64 m) := rfl
theorem cs_2 (n m : Int) (x y : List Nat) : (csC n m x y)[2]? = some (uV x) := rfl
theorem cs_3 (n m : Int) (x y : List Nat) : (csC n m x y)[3]? = some (uV y) := rfl
theorem j1_ok (hl : l.length ≤ 60) (hx : x.length ≤ 100) (hy : y.length ≤ 100) {n m : Nat} (hn : 1 ≤ n ∧ n ≤ 300) (hm : 1 ≤ m ∧ m ≤ 300) (H : List Blk) (e : Option Nat) : saysTrue (twainlaw46_CompareTells.j1 (acall PP TT) loopG 0 (tSl l.length (flRow l)) (.int .i64 (n : Int)) (.int .i64 (m : Int)) (uV x) (uV y) ⟨H, e⟩) = true := by
  have n1 := new_ok (n := (n : Int)) H (by omega)
  have t1 := new_at (n := (n : Int)) H (by omega)
  revert n1 t1
  generalize hH1 : H ++ [dB (H.length + 1) (H.length + 2) (Dk.new (n : Int).toNat), rB (Dk.new (n : Int).toNat), .map [] 0] = H1
  have l1 : H1.length = H.length + 3 := by rw [← hH1]; simp
  intro n1 t1
  have n2 := new_ok (n := (m : Int)) H1 (by omega)
  have t2 := new_at (n := (m : Int)) H1 (by omega)
  revert n2 t2
  generalize hH2 : H1 ++ [dB (H1.length + 1) (H1.length + 2) (Dk.new (m : Int).toNat), rB (Dk.new (m : Int).toNat), .map [] 0] = H2
  have l2 : H2.length = H1.length + 3 := by rw [← hH2]; simp
  intro n2 t2
  have n3 := rnew_ok (n := n) H2 (by omega)
  have t3 := rnew_at (n := n) H2 (by omega)
  revert n3 t3
  generalize hH3 : H2 ++ nwL H2.length n = H3
  have l3 : H3.length = H2.length + 2 := by rw [← hH3]; simp [nwL, show ¬ n = 0 by omega]
  intro n3 t3
  have n4 := rnew_ok (n := m) H3 (by omega)
  have t4 := rnew_at (n := m) H3 (by omega)
  have hw : CtI ⟨H3 ++ nwL H3.length m, e⟩ ⟨H.length, H.length + 1, H.length + 2, H1.length, H1.length + 1, H1.length + 2, H2.length, H2.length + 1, H3.length, H3.length + 1⟩ (Dk.new n) (Dk.new m) (Rf.new n) (Rf.new m) := by
    refine ⟨⟨⟨?_, ?_, by simp; omega, by simp; omega, by simp; omega⟩, t3.app _, t4, by simp; omega, by simp; omega⟩, Sim.new n, Sim.new m⟩
    · subst hH3 hH2
      exact ((t1.app _).app _).app _
    · subst hH3
      exact (t2.app _).app _
  obtain ⟨q, p1, p, a, d, r, s, st, rfl, q1⟩ := loop9_ok (x := x) (y := y) hl hw
  simp only [vs9, Int.natCast_zero] at p1
  simp only [twainlaw46_CompareTells.j1, mach, Nat.reduceAdd, Nat.reduceLeDiff, Int.reduceEq, Int.reduceLT, Int.reduceLE, tsl_len u_L_twainlaw46_Fill, n1, n2, n3, n4, p1]
  exact j6_ok hx hy q1
theorem tells_law (l : List Fl) (n m : Int) (x y : List Nat) : saysTrue (acall PP TT n_twainlaw46_CompareTells [tSl l.length (flRow l), .agg (csC n m x y).toArray] []) = true := by
  rw [acall_eq, twainlaw46_CompareTells.eq]
  by_cases c1 : n < 1
  · simp only [twainlaw46_CompareTells.sh, twainlaw46_CompareTells.j0, mach, Nat.reduceAdd, Nat.reduceLeDiff, Int.reduceEq, Int.reduceLT, Int.reduceLE, box_lit, cs_all, fa_twainlaw46_Case_0, fa_twainlaw46_Case_1, fa_twainlaw46_Case_2, fa_twainlaw46_Case_3, cs_0, cs_1, cs_2, cs_3, c1, twainlaw46_lives.eq]
    exact says_fin0
  by_cases c2 : 300 < n
  · simp only [twainlaw46_CompareTells.sh, twainlaw46_CompareTells.j0, mach, Nat.reduceAdd, Nat.reduceLeDiff, Int.reduceEq, Int.reduceLT, Int.reduceLE, box_lit, cs_all, fa_twainlaw46_Case_0, fa_twainlaw46_Case_1, fa_twainlaw46_Case_2, fa_twainlaw46_Case_3, cs_0, cs_1, cs_2, cs_3, c1, c2, twainlaw46_lives.eq]
    exact says_fin0
  by_cases c3 : m < 1
  · simp only [twainlaw46_CompareTells.sh, twainlaw46_CompareTells.j0, mach, Nat.reduceAdd, Nat.reduceLeDiff, Int.reduceEq, Int.reduceLT, Int.reduceLE, box_lit, cs_all, fa_twainlaw46_Case_0, fa_twainlaw46_Case_1, fa_twainlaw46_Case_2, fa_twainlaw46_Case_3, cs_0, cs_1, cs_2, cs_3, c1, c2, c3, twainlaw46_lives.eq]
    exact says_fin0
  by_cases c4 : 300 < m
  · simp only [twainlaw46_CompareTells.sh, twainlaw46_CompareTells.j0, mach, Nat.reduceAdd, Nat.reduceLeDiff, Int.reduceEq, Int.reduceLT, Int.reduceLE, box_lit, cs_all, fa_twainlaw46_Case_0, fa_twainlaw46_Case_1, fa_twainlaw46_Case_2, fa_twainlaw46_Case_3, cs_0, cs_1, cs_2, cs_3, c1, c2, c3, c4, twainlaw46_lives.eq]
    exact says_fin0
  by_cases c5 : (60 : Int) < (l.length : Int)
  · simp only [twainlaw46_CompareTells.sh, twainlaw46_CompareTells.j0, mach, Nat.reduceAdd, Nat.reduceLeDiff, Int.reduceEq, Int.reduceLT, Int.reduceLE, box_lit, cs_all, fa_twainlaw46_Case_0, fa_twainlaw46_Case_1, fa_twainlaw46_Case_2, fa_twainlaw46_Case_3, cs_0, cs_1, cs_2, cs_3, c1, c2, c3, c4, tsl_len u_L_twainlaw46_Fill, c5, twainlaw46_lives.eq]
    exact says_fin0
  by_cases c6 : (100 : Int) < (x.length : Int)
  · simp only [twainlaw46_CompareTells.sh, twainlaw46_CompareTells.j0, mach, Nat.reduceAdd, Nat.reduceLeDiff, Int.reduceEq, Int.reduceLT, Int.reduceLE, box_lit, cs_all, fa_twainlaw46_Case_0, fa_twainlaw46_Case_1, fa_twainlaw46_Case_2, fa_twainlaw46_Case_3, cs_0, cs_1, cs_2, cs_3, c1, c2, c3, c4, tsl_len u_L_twainlaw46_Fill, tsl_len u_L_uint32, c5, c6, twainlaw46_lives.eq]
    exact says_fin0
  by_cases c7 : (100 : Int) < (y.length : Int)
  · simp only [twainlaw46_CompareTells.sh, twainlaw46_CompareTells.j0, mach, Nat.reduceAdd, Nat.reduceLeDiff, Int.reduceEq, Int.reduceLT, Int.reduceLE, box_lit, cs_all, fa_twainlaw46_Case_0, fa_twainlaw46_Case_1, fa_twainlaw46_Case_2, fa_twainlaw46_Case_3, cs_0, cs_1, cs_2, cs_3, c1, c2, c3, c4, tsl_len u_L_twainlaw46_Fill, tsl_len u_L_uint32, c5, c6, c7, twainlaw46_lives.eq]
    exact says_fin0
  obtain ⟨n', rfl⟩ : ∃ k : Nat, n = (k : Int) := ⟨n.toNat, by omega⟩
  obtain ⟨m', rfl⟩ : ∃ k : Nat, m = (k : Int) := ⟨m.toNat, by omega⟩
  simp only [twainlaw46_CompareTells.sh, twainlaw46_CompareTells.j0, mach, Nat.reduceAdd, Nat.reduceLeDiff, Int.reduceEq, Int.reduceLT, Int.reduceLE, box_lit, cs_all, fa_twainlaw46_Case_0, fa_twainlaw46_Case_1, fa_twainlaw46_Case_2, fa_twainlaw46_Case_3, cs_0, cs_1, cs_2, cs_3, c1, c2, c3, c4, tsl_len u_L_twainlaw46_Fill, tsl_len u_L_uint32, c5, c6, c7]
  exact j1_ok (by omega) (by omega) (by omega) (by omega) (by omega) _ _
end
end DK
end Go.Proofs.YtadllcgmimbjdaaGreat

end
