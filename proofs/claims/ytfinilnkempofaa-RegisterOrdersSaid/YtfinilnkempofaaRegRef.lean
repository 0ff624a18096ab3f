/- A part of the proof: RegRef. Its conditions: none. -/
import Derived.Test.YtfinilnkempofaaRegOps
set_option linter.all false
set_option linter.unusedVariables false
set_option linter.unusedSimpArgs false
set_option linter.unnecessarySimpa false
namespace Go.Proofs.Ytfinilnkempofaa
open Go Go.Am Go.Reg

/-- an op's cells -/
def opc (x : Rw (List Value)) : List Value := .bool x.w :: (x.v ++ [.int .i64 x.f, .int .i64 x.t])

structure OkRw (x : Rw (List Value)) : Prop where
  v : TOk PP t_api_Sector x.v
  f : IntKind.i64.min ≤ x.f ∧ x.f ≤ IntKind.i64.max
  t : IntKind.i64.min ≤ x.t ∧ x.t ≤ IntKind.i64.max

theorem sec_len {v : List Value} (h : TOk PP t_api_Sector v) : v.length = 16 := by
  have := flat_len 12 t_api_Sector v qflat_api_Sector.flat h
  rw [this]
  have h16 : PP.cellsOf t_api_Sector = 16 := by kernel_rfl
  exact h16

theorem sec_cells {v : List Value} (h : TOk PP t_api_Sector v) : allCells v = true ∧ lrefs v = [] ∧ v.all noSl = true := by
  obtain ⟨ps, rfl, hl, hp⟩ := h.array_inv qu_api_Sector
  have qu_uint8 : PP.underlying t_uint8 = some (.int .u8) := by kernel_rfl
  clear hl h
  induction ps with
  | nil => exact ⟨rfl, rfl, rfl⟩
  | cons p ps ih =>
    obtain ⟨h1, h2, h3⟩ := ih (fun x hx => hp x (by simp [hx]))
    obtain ⟨n, rfl, _⟩ := (hp p (by simp)).int_inv qu_uint8
    refine ⟨?_, ?_, ?_⟩
    · simp only [List.flatten_cons, allCells_append, h1, Bool.and_true]; rfl
    · simp [h2]
    · simp [h3, noSl]

theorem opc_len {x : Rw (List Value)} (h : OkRw x) : (opc x).length = 19 := by simp [opc, sec_len h.v]
theorem opc_take {x : Rw (List Value)} (h : OkRw x) : (opc x).take 19 = opc x := List.take_of_length_le (by rw [opc_len h]; omega)
theorem opc_cells {x : Rw (List Value)} (h : OkRw x) : allCells (opc x) = true ∧ lrefs (opc x) = [] ∧ (opc x).all noSl = true := by
  obtain ⟨h1, h2, h3⟩ := sec_cells h.v
  refine ⟨?_, by simp [opc, h2], by simp [opc, h3, noSl]⟩
  unfold allCells at h1 ⊢
  simp [opc, cellV, h1]

theorem i64_wrap {n : Int} (h : -9223372036854775808 ≤ n ∧ n ≤ 9223372036854775807) : IntKind.i64.wrap n = n := by rw [IntKind.wrap_i64]; omega

attribute [local simp] box_agg box_one load_one load_agg store_agg cellAt_app cellAt_app0 cellsAt_app cellsAt_app0 storeL_app storeL_app0 newBlk_app newBlk_bare newPtr_def un_not bcase_if
  bin_add bin_sub bin_mul bin_eql bin_neq bin_lss bin_leq bin_gtr bin_geq pick_bool fin_flat fin_flat' flatV noSl oneOf_one joinEsc_none escOf_nil storeL cellAt cellsAt
  qfa_twainref36_Op_0 qfa_twainref36_Op_1 qfa_twainref36_Op_2 qfa_twainref36_Op_3 qfa_history_Op_0 qfa_history_Op_1 qfa_history_Op_2 qfa_history_Op_3 qzg_twainref36_Op qzg_history_Op qzg_api_Sector qza_twainref36_Op qza_history_Op qza_api_Sector

theorem must_ok {x : Rw (List Value)} (h : OkRw x) (H : List Blk) : acall PP TT n_twainref37_must [.agg (opc x).toArray] H = some (.bool (mustR x), H, none) := by
  obtain ⟨h1, h2, h3⟩ := opc_cells h
  have hl := sec_len h.v
  rw [acall_eq, twainref37_must.eq]
  simp [twainref37_must.sh, h1]
  simp [opc, mustR, hl]
  cases x.w <;> simp

theorem ahead_ok {x y : Rw (List Value)} (hx : OkRw x) (hy : OkRw y) (H : List Blk) : acall PP TT n_twainref37_ahead [.agg (opc x).toArray, .agg (opc y).toArray] H = some (.bool (aheadR x y), H, none) := by
  obtain ⟨h1, h2, h3⟩ := opc_cells hx
  obtain ⟨g1, g2, g3⟩ := opc_cells hy
  have hl := sec_len hx.v
  have gl := sec_len hy.v
  rw [acall_eq, twainref37_ahead.eq]
  simp [twainref37_ahead.sh, h1, g1]
  simp [opc, aheadR, hl, gl]
  by_cases h : 0 ≤ x.t <;> simp [h]

/-- numbers, as a row's cells -/
def nums (l : List Int) : List Value := l.map fun n => .int .i64 n
theorem nums_len (l : List Int) : (nums l).length = l.length := by simp [nums]
theorem nums_refs (l : List Int) : lrefs (nums l) = [] := by
  induction l with
  | nil => rfl
  | cons x xs ih => simpa [nums] using ih

/-- where a number stands in a row, from a place on -/
def placeFrom (l : List Int) (n : Int) (i : Nat) : Int :=
  match l with
  | [] => -1
  | x :: xs => if x = n then i else placeFrom xs n (i + 1)

theorem placeFrom_ne (n : Int) : ∀ (l : List Int) (i : Nat), placeFrom l n i = -1 ∨ (i : Int) ≤ placeFrom l n i
  | [], i => .inl rfl
  | x :: xs, i => by
    simp only [placeFrom]
    split
    · exact .inr (Int.le_refl _)
    · rcases placeFrom_ne n xs (i + 1) with h | h
      · exact .inl h
      · exact .inr (by omega)

theorem place_loop {H : List Blk} {v : Value} {l : List Int} (hr : Rd H v l.length (nums l)) (hv : ∀ r ∈ vrefs v, r < H.length) (hm : l.length < 2 ^ 62) (n : Int) : ∀ (k i : Nat), i + k = l.length →
    loopG H.length (twainref37_place.loop2s (acall PP TT) loopG H.length) ([.int .i64 n, v, .int .i64 l.length, .int .i64 i], ⟨H, none⟩) =
      some (if placeFrom (l.drop i) n i = -1 then (.exit 0, [unk], ⟨H, none⟩) else (.ret, [.int .i64 (placeFrom (l.drop i) n i)], ⟨H, none⟩))
  | 0, i, hk => by
    rw [loopG_eq, gc_same (by simpa using hv)]
    have : l.drop i = [] := List.drop_eq_nil_of_le (by omega)
    have hi : ¬ ((i : Int) < (l.length : Int)) := by omega
    simp [twainref37_place.loop2s, twainref37_place.loop2, this, placeFrom, hi]
  | k + 1, i, hk => by
    rw [loopG_eq, gc_same (by simpa using hv)]
    have hlt : i < l.length := by omega
    have hi : ((i : Int) < (l.length : Int)) := by omega
    have hix := hr.index (P := PP) qu_L_int qsz_int (k := .i64) (i := (i : Int)) (by omega) hi
    have hld := hr.load1 (by omega) (off := i) (x := .int .i64 l[i]) (by simp [nums, hlt]) none
    have hw : IntKind.i64.wrap ((i : Int) + 1) = ((i + 1 : Nat) : Int) := by rw [i64_wrap (by omega)]; omega
    have ih := place_loop hr hv hm n k (i + 1) (by omega)
    rw [List.drop_eq_getElem_cons hlt]
    simp at hix
    simp [twainref37_place.loop2s, twainref37_place.loop2, hi, hix, hld, placeFrom, hw]
    by_cases hn : l[i] = n
    · simp [hn]
    · simp [hn]; exact ih

theorem place_ok {H : List Blk} {v : Value} {l : List Int} (hr : Rd H v l.length (nums l)) (hv : ∀ r ∈ vrefs v, r < H.length) (hm : l.length < 2 ^ 62) (n : Int) :
    acall PP TT n_twainref37_place [v, .int .i64 n] H = some (.int .i64 (placeFrom l n 0), H, none) := by
  have h0 := place_loop hr hv hm n l.length 0 (by omega)
  rw [acall_eq, twainref37_place.eq]
  simp [twainref37_place.sh, hr.len (P := PP) qu_L_int]
  simp at h0
  rw [h0]
  simp
  by_cases h : placeFrom l n 0 = -1
  · simp [h, twainref37_place.j2]
  · simp [h]

theorem place_mem (l : List Int) (n : Int) (i : Nat) : 0 ≤ placeFrom l n i ↔ n ∈ l := by
  induction l generalizing i with
  | nil => simp [placeFrom]
  | cons x xs ih =>
    simp only [placeFrom, List.mem_cons]
    split
    · rename_i h; simp [h]
    · rename_i h; rw [ih]; constructor
      · exact .inr
      · rintro (h1 | h1)
        · exact absurd h1.symm h
        · exact h1

/-- ops, as a slice's cells -/
def opsC (l : List (Rw (List Value))) : List Value := (l.map opc).flatten
def OkOps (l : List (Rw (List Value))) : Prop := ∀ x ∈ l, OkRw x

theorem opsC_len {l : List (Rw (List Value))} (h : OkOps l) : (opsC l).length = l.length * 19 := by
  have := chunk_len (c := 19) (l.map opc) (fun r hr => by obtain ⟨x, hx, rfl⟩ := List.mem_map.1 hr; exact opc_len (h x hx))
  simpa [opsC] using this
theorem opsC_get {l : List (Rw (List Value))} (h : OkOps l) {i : Nat} {x : Rw (List Value)} (hx : l[i]? = some x) : ((opsC l).drop (i * 19)).take 19 = opc x :=
  chunk_get (c := 19) (l.map opc) (fun r hr => by obtain ⟨x, hx, rfl⟩ := List.mem_map.1 hr; exact opc_len (h x hx)) i (opc x) (by simp [hx])
theorem opsC_refs {l : List (Rw (List Value))} (h : OkOps l) : lrefs (opsC l) = [] := by
  induction l with
  | nil => rfl
  | cons x xs ih =>
    have h1 := (opc_cells (h x (by simp))).2.1
    have h2 := ih (fun y hy => h y (by simp [hy]))
    simp only [opsC, List.map_cons, List.flatten_cons, lrefs_app, h1, List.nil_append]
    exact h2

/-- an op of a slice that is read -/
theorem op_load {H : List Blk} {v : Value} {l : List (Rw (List Value))} (hr : Rd H v l.length (opsC l)) (hl : OkOps l) {i : Nat} {x : Rw (List Value)} (hx : l[i]? = some x) (e : Option Nat) :
    aLoad true 19 ⟨H, e⟩ (rdPtr v (i * 19)) = some (.agg (opc x).toArray) := by
  have hlt : i < l.length := lt_of_get hx
  have h1 := opsC_len hl
  rw [hr.load (by omega) (by omega) (by rw [h1]; omega) e, opsC_get hl hx]

theorem whole_ok {H : List Blk} {v rv : Value} {l : List (Rw (List Value))} {row : List Int} (hr : Rd H v l.length (opsC l)) (hv : vrefs v = []) (hl : OkOps l) (hm : l.length < 2 ^ 62)
    (hw : Rd H rv row.length (nums row)) (hwv : ∀ r ∈ vrefs rv, r < H.length) (hwm : row.length < 2 ^ 62) :
    ∃ b, acall PP TT n_twainref37_whole [v, rv] H = some (.bool b, H, none) ∧ (b = true ↔ ∀ (k : Nat) x, l[k]? = some x → mustR x = true → (k : Int) ∈ row) := by
  obtain ⟨r, h1, h2⟩ := loop_rule (n0 := H.length) (step := twainref37_whole.loop2s (acall PP TT) loopG H.length) (len := l.length) (fun i (_ : Unit) => ([rv, v, .int .i64 l.length, .int .i64 i], ⟨H, none⟩))
    (fun i _ => ∀ (k : Nat) x, k < i → l[k]? = some x → mustR x = true → (k : Int) ∈ row)
    (fun r => (∃ G, r = (.ret, [.bool false], ⟨H ++ G, none⟩) ∧ ∃ (k : Nat) (x : _), l[k]? = some x ∧ mustR x = true ∧ ¬ (k : Int) ∈ row) ∨ (r = (.exit 0, [unk], ⟨H, none⟩) ∧ ∀ (k : Nat) x, l[k]? = some x → mustR x = true → (k : Int) ∈ row))
    (fun i _ hi hok => by
      have hi' : ((i : Int) < (l.length : Int)) := by omega
      obtain ⟨x, hx⟩ : ∃ x, l[i]? = some x := ⟨_, List.getElem?_eq_getElem hi⟩
      have hix := hr.index (P := PP) qu_L_twainref36_Op qsz_twainref36_Op (k := .i64) (i := (i : Int)) (by omega) hi'
      have hxo := hl x (List.mem_of_getElem? hx)
      have htk := opc_take hxo
      have hld := op_load hr hl hx none
      obtain ⟨h1, h2, h3⟩ := opc_cells hxo
      have hn := opc_len hxo
      have hw' : IntKind.i64.wrap ((i : Int) + 1) = ((i + 1 : Nat) : Int) := by rw [i64_wrap (by omega)]; omega
      have hpl := fun (l' : List Blk) => place_ok (H := H ++ l') (hw.app) (fun r hr => by have := hwv r hr; simp; omega) hwm (i : Int)
      simp at hix
      by_cases hbad : mustR x = true ∧ placeFrom row (i : Int) 0 < 0
      · refine .inl ⟨(.ret, [.bool false], ⟨H ++ [.cells (opc x) t_twainref36_Op true], none⟩), ?_, .inl ⟨_, rfl, i, x, hx, hbad.1, fun hc => ?_⟩⟩
        · simp [twainref37_whole.loop2s, twainref37_whole.loop2, twainref37_whole.j1, twainref37_whole.j2, hi', hix, hld, h1, putCells_all, hn, qzl_twainref36_Op, h2, htk, must_ok hxo, hpl, hw', hbad.1, hbad.2]
        · have := (place_mem row i 0).2 hc; omega
      · refine .inr ⟨([rv, v, .int .i64 l.length, .int .i64 ((i + 1 : Nat) : Int)], ⟨H ++ [.cells (opc x) t_twainref36_Op true], none⟩), (), ?_, gc_old (by simpa [hv] using hwv), fun k y hk hy hm => ?_⟩
        · cases hmx : mustR x with
          | false => simp [twainref37_whole.loop2s, twainref37_whole.loop2, twainref37_whole.j1, twainref37_whole.j2, hi', hix, hld, h1, putCells_all, hn, qzl_twainref36_Op, h2, htk, must_ok hxo, hpl, hw', hmx]
          | true =>
            have hp : ¬ placeFrom row (i : Int) 0 < 0 := fun hc => hbad ⟨hmx, hc⟩
            simp [twainref37_whole.loop2s, twainref37_whole.loop2, twainref37_whole.j1, twainref37_whole.j2, hi', hix, hld, h1, putCells_all, hn, qzl_twainref36_Op, h2, htk, must_ok hxo, hpl, hw', hmx, hp]
        · by_cases hki : k = i
          · subst hki
            rw [hx] at hy; simp at hy; subst hy
            exact (place_mem row k 0).1 (Int.not_lt.1 (fun hc => hbad ⟨hm, hc⟩))
          · exact hok k y (by omega) hy hm)
    (fun _ hok => ⟨(.exit 0, [unk], ⟨H, none⟩), by simp [twainref37_whole.loop2s, twainref37_whole.loop2], .inr ⟨rfl, fun k x hx hm => hok k x (lt_of_get hx) hx hm⟩⟩)
    l.length 0 () ([rv, v, .int .i64 l.length, .int .i64 0], ⟨H, none⟩) (by omega) (fun k x hk => by omega) (gc_same (by simpa [hv] using hwv))
  rw [acall_eq, twainref37_whole.eq]
  rcases h2 with ⟨G, rfl, k, x, hx, hm, hn⟩ | ⟨rfl, hall⟩
  · refine ⟨false, ?_, by simp; exact ⟨k, x, hx, hm, hn⟩⟩
    simp [twainref37_whole.sh, hr.len (P := PP) qu_L_twainref36_Op, h1]
  · refine ⟨true, ?_, by simpa using hall⟩
    simp [twainref37_whole.sh, hr.len (P := PP) qu_L_twainref36_Op, h1, twainref37_whole.j4]

open Classical in
theorem next_ok {H : List Blk} {v rv : Value} {l : List (Rw (List Value))} {row : List Int} (hr : Rd H v l.length (opsC l)) (hv : vrefs v = []) (hl : OkOps l) (hm : l.length < 2 ^ 62)
    (hw : Rd H rv row.length (nums row)) (hwv : ∀ r ∈ vrefs rv, r < H.length) (hwm : row.length < 2 ^ 62) {n : Nat} {x : Rw (List Value)} (hx : l[n]? = some x) {u : List Value} (hu : TOk PP t_api_Sector u) :
    ∃ b, acall PP TT n_twainref37_next [v, rv, .int .i64 n, .agg u.toArray] H = some (.bool b, H, none) ∧
      (b = true ↔ ¬ (n : Int) ∈ row ∧ (x.w = false → x.v = u) ∧ ∀ (k : Nat) y, l[k]? = some y → k ≠ n → aheadR y x = true → (k : Int) ∈ row) := by
  have hn : n < l.length := lt_of_get hx
  have hxo := hl x (List.mem_of_getElem? hx)
  obtain ⟨c1, c2, c3⟩ := opc_cells hxo
  have cn := opc_len hxo
  obtain ⟨u1, u2, qu_int⟩ := sec_cells hu
  have un := sec_len hu
  have xn := sec_len hxo.v
  have hixn := hr.index (P := PP) qu_L_twainref36_Op qsz_twainref36_Op (k := .i64) (i := (n : Int)) (by omega) (by omega)
  simp at hixn
  have htkn := opc_take hxo
  -- the fields of the op that may come
  have hw0 : ∀ e, aLoad false 1 ⟨H ++ [.cells u t_api_Sector true], e⟩ (rdPtr v (n * 19)) = some (.bool x.w) := fun e => by
    refine (hr.app (l := [.cells u t_api_Sector true])).load1 (by omega) ?_ e
    have := congrArg (·[0]?) (opsC_get hl hx)
    rw [List.getElem?_take_of_lt (by omega), List.getElem?_drop] at this
    simpa [opc] using this
  have hv1 : ∀ e, aLoad true 16 ⟨H ++ [.cells u t_api_Sector true], e⟩ (rdPtr v (n * 19 + 1)) = some (.agg x.v.toArray) := fun e => by
    have h1 := opsC_len hl
    rw [(hr.app (l := [.cells u t_api_Sector true])).load (by omega) (by omega) (by rw [h1]; omega) e]
    have := opsC_get hl hx
    have h2 : ((opsC l).drop (n * 19 + 1)).take 16 = x.v := by
      rw [← List.drop_drop]
      have h3 : (((opsC l).drop (n * 19)).drop 1).take 16 = ((((opsC l).drop (n * 19)).take 19).drop 1).take 16 := by
        rw [List.drop_take, List.take_take]; rfl
      rw [h3, this]
      simp [opc, xn]
    rw [h2]
  obtain ⟨r, h1, h2⟩ := loop_rule (n0 := H.length) (step := twainref37_next.loop4s (acall PP TT) loopG H.length) (len := l.length) (fun i (_ : Unit) => ([v, rv, .int .i64 n, v, .int .i64 l.length, .int .i64 i], ⟨H, none⟩))
    (fun i _ => ∀ (k : Nat) y, k < i → l[k]? = some y → k ≠ n → aheadR y x = true → (k : Int) ∈ row)
    (fun r => (∃ G, r = (.ret, [.bool false], ⟨H ++ G, none⟩) ∧ ∃ (k : Nat) (y : _), l[k]? = some y ∧ k ≠ n ∧ aheadR y x = true ∧ ¬ (k : Int) ∈ row) ∨ (r = (.exit 0, [unk], ⟨H, none⟩) ∧ ∀ (k : Nat) y, l[k]? = some y → k ≠ n → aheadR y x = true → (k : Int) ∈ row))
    (fun i _ hi hok => by
      have hi' : ((i : Int) < (l.length : Int)) := by omega
      obtain ⟨y, hy⟩ : ∃ y, l[i]? = some y := ⟨_, List.getElem?_eq_getElem hi⟩
      have hix := hr.index (P := PP) qu_L_twainref36_Op qsz_twainref36_Op (k := .i64) (i := (i : Int)) (by omega) hi'
      have hyo := hl y (List.mem_of_getElem? hy)
      have htk := opc_take hyo
      have hld := op_load hr hl hy none
      obtain ⟨h1, h2, h3⟩ := opc_cells hyo
      have hyn := opc_len hyo
      have hldn := op_load (hr.app (l := [.cells (opc y) t_twainref36_Op true])) hl hx none
      have hw' : IntKind.i64.wrap ((i : Int) + 1) = ((i + 1 : Nat) : Int) := by rw [i64_wrap (by omega)]; omega
      have hpl := fun (l' : List Blk) => place_ok (H := H ++ l') (hw.app) (fun r hr => by have := hwv r hr; simp; omega) hwm (i : Int)
      simp at hix
      by_cases hin : i = n
      · subst hin
        refine .inr ⟨([v, rv, .int .i64 i, v, .int .i64 l.length, .int .i64 ((i + 1 : Nat) : Int)], ⟨H ++ [.cells (opc y) t_twainref36_Op true], none⟩), (), ?_, gc_old (by simpa [hv] using hwv), fun k z hk hz hne hm => ?_⟩
        · simp [twainref37_next.loop4s, twainref37_next.loop4, twainref37_next.j3, twainref37_next.j4, hi', hix, hld, h1, putCells_all, hyn, qzl_twainref36_Op, h2, htk, hw']
        · exact hok k z (by omega) hz hne hm
      have hin' : ¬ ((i : Int) = (n : Int)) := by omega
      by_cases hbad : aheadR y x = true ∧ placeFrom row (i : Int) 0 < 0
      · refine .inl ⟨(.ret, [.bool false], ⟨H ++ [.cells (opc y) t_twainref36_Op true], none⟩), ?_, .inl ⟨_, rfl, i, y, hy, hin, hbad.1, fun hc => ?_⟩⟩
        · simp [twainref37_next.loop4s, twainref37_next.loop4, twainref37_next.j3, twainref37_next.j4, hi', hix, hixn, hld, hldn, h1, putCells_all, hyn, qzl_twainref36_Op, h2, htk, ahead_ok hyo hxo, hpl, hw', hbad.1, hbad.2, hin']
        · have := (place_mem row i 0).2 hc; omega
      · refine .inr ⟨([v, rv, .int .i64 n, v, .int .i64 l.length, .int .i64 ((i + 1 : Nat) : Int)], ⟨H ++ [.cells (opc y) t_twainref36_Op true], none⟩), (), ?_, gc_old (by simpa [hv] using hwv), fun k z hk hz hne hm => ?_⟩
        · cases hmx : aheadR y x with
          | false => simp [twainref37_next.loop4s, twainref37_next.loop4, twainref37_next.j3, twainref37_next.j4, hi', hix, hixn, hld, hldn, h1, putCells_all, hyn, qzl_twainref36_Op, h2, htk, ahead_ok hyo hxo, hpl, hw', hmx, hin']
          | true =>
            have hp : ¬ placeFrom row (i : Int) 0 < 0 := fun hc => hbad ⟨hmx, hc⟩
            simp [twainref37_next.loop4s, twainref37_next.loop4, twainref37_next.j3, twainref37_next.j4, hi', hix, hixn, hld, hldn, h1, putCells_all, hyn, qzl_twainref36_Op, h2, htk, ahead_ok hyo hxo, hpl, hw', hmx, hp, hin']
        · by_cases hki : k = i
          · subst hki
            rw [hy] at hz; simp at hz; subst hz
            exact (place_mem row k 0).1 (Int.not_lt.1 (fun hc => hbad ⟨hm, hc⟩))
          · exact hok k z (by omega) hz hne hm)
    (fun _ hok => ⟨(.exit 0, [unk], ⟨H, none⟩), by simp [twainref37_next.loop4s, twainref37_next.loop4], .inr ⟨rfl, fun k x hx hm => hok k x (lt_of_get hx) hx hm⟩⟩)
    l.length 0 () ([v, rv, .int .i64 n, v, .int .i64 l.length, .int .i64 0], ⟨H ++ [.cells u t_api_Sector true], none⟩) (by omega) (fun k x hk => by omega) (gc_old (by simpa [hv] using hwv))
  have hpl := place_ok (H := H ++ [.cells u t_api_Sector true]) (hw.app) (fun r hr => by have := hwv r hr; simp; omega) hwm (n : Int)
  have hfr := qfr_twainref36_Op_0 (hr.app (l := [.cells u t_api_Sector true])) (by omega) (off := n * 19)
  have hfr1 := qfr_twainref36_Op_1 (hr.app (l := [.cells u t_api_Sector true])) (by omega) (off := n * 19)
  simp at hfr
  rw [acall_eq, twainref37_next.eq]
  have hlen := (hr.app (l := [.cells u t_api_Sector true])).len (P := PP) qu_L_twainref36_Op
  have htu : u.take 16 = u := List.take_of_length_le (by omega)
  by_cases hp : 0 ≤ placeFrom row (n : Int) 0
  · refine ⟨false, ?_, by simp; intro h; exact absurd ((place_mem row n 0).1 hp) h⟩
    simp [twainref37_next.sh, u1, hpl, hp, twainref37_next.j0]
  have hpn : ¬ (n : Int) ∈ row := fun hc => hp ((place_mem row n 0).2 hc)
  by_cases hrd : x.w = false ∧ x.v ≠ u
  · refine ⟨false, ?_, by simp; intro _ h; exact absurd (h hrd.1) hrd.2⟩
    simp [twainref37_next.sh, u1, un, htu, hpl, hp, twainref37_next.j0, hixn, hfr, hfr1, hw0, hv1, hrd.1, bin_neq_flat qflat_api_Sector hxo.v hu, hrd.2]
  have hrd' : x.w = false → x.v = u := fun h => Classical.byContradiction fun hc => hrd ⟨h, hc⟩
  rcases h2 with ⟨G, rfl, k, y, hy, hne, hm, hnn⟩ | ⟨rfl, hall⟩
  · refine ⟨false, ?_, by simp; intro _ _; exact ⟨k, y, hy, hne, hm, hnn⟩⟩
    cases hxw : x.w with
    | true => simp [twainref37_next.sh, u1, un, htu, hpl, hp, twainref37_next.j0, twainref37_next.j1, hixn, hfr, hfr1, hw0, hv1, hxw, hlen, h1]
    | false => simp [twainref37_next.sh, u1, un, htu, hpl, hp, twainref37_next.j0, twainref37_next.j1, hixn, hfr, hfr1, hw0, hv1, hxw, hlen, h1, bin_neq_flat qflat_api_Sector hu hu, hrd' hxw]
  · refine ⟨true, ?_, by simp; exact ⟨hpn, hrd', hall⟩⟩
    cases hxw : x.w with
    | true => simp [twainref37_next.sh, u1, un, htu, hpl, hp, twainref37_next.j0, twainref37_next.j1, twainref37_next.j6, hixn, hfr, hfr1, hw0, hv1, hxw, hlen, h1]
    | false => simp [twainref37_next.sh, u1, un, htu, hpl, hp, twainref37_next.j0, twainref37_next.j1, twainref37_next.j6, hixn, hfr, hfr1, hw0, hv1, hxw, hlen, h1, bin_neq_flat qflat_api_Sector hu hu, hrd' hxw]

end Go.Proofs.Ytfinilnkempofaa
