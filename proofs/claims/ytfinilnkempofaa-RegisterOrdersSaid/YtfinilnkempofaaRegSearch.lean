/- A part of the proof: RegSearch. Its conditions: none. -/
import Derived.Test.YtfinilnkempofaaRegRef
set_option linter.all false
set_option linter.unusedVariables false
set_option linter.unusedSimpArgs false
set_option linter.unnecessarySimpa false
namespace Go.Proofs.Ytfinilnkempofaa
open Go Go.Am Go.Reg

theorem bsl31_0 (H : List Blk) (e : Option Nat) : bsl PP t_L_int 0 [] [] ⟨H, e⟩ = some (.slice (some ⟨H.length, 0, none⟩) 0 0, ⟨H ++ [.cells [] t_int true], e⟩) := by kernel_rfl
theorem bsl31_1 (n : Int) (H : List Blk) (e : Option Nat) : bsl PP t_L_int 1 [0] [.int .i64 n] ⟨H, e⟩ = some (.slice (some ⟨H.length, 0, none⟩) 1 1, ⟨H ++ [.cells [.int .i64 n] t_int true], e⟩) := by kernel_rfl
theorem qby_int : bytesP PP t_int = some 8 := by kernel_rfl
theorem qz_int : zeroP PP t_int = some (.int .i64 0) := by kernel_rfl

theorem nums_cells (l : List Int) : (nums l).all cellV = true := by
  induction l with
  | nil => rfl
  | cons x xs ih => simp [nums, cellV]

section
variable {R : Type} {H : List Blk} {e : Option Nat} {rv : Value} {row : List Int} {k : Value → AS → Option R}

/-- append to an empty row of no room -/
theorem app31_empty (hr : Rd H rv row.length (nums row)) (hm : row.length < 2 ^ 40) (b : Nat) : eBuiltin PP .append #[t_L_int, t_L_int] [.slice (some ⟨b, 0, none⟩) 0 0, rv] ⟨H, e⟩ k =
    if row.length = 0 then k (.slice (some ⟨b, 0, none⟩) 0 0) ⟨H, e⟩ else (cellsAt H b 0 0).bind fun _ => k (.slice (some ⟨H.length, 0, none⟩) row.length UNK) ⟨H ++ [.cells (nums row) t_int true], e⟩ := by
  have hs := hr.src (size := 1) (by simp [nums]) (nums_cells row)
  simp only [eBuiltin, aAppend, qu_L_int, qsz_int, qby_int, qz_int, Option.getD_some, hs]
  by_cases h0 : row.length = 0
  · simp [h0, Value.cells]
  · have h1 : row.length * 8 ≤ 140737488355328 := by omega
    have hu : ¬ (0 = UNK) := by decide
    simp [h0, Value.cells, h1, hu]
    cases hc : cellsAt H b 0 0 with
    | none => simp
    | some l =>
      have hl : l = [] := by
        unfold cellsAt at hc
        split at hc
        · split at hc
          · simp at hc; exact hc
          · simp at hc
        · simp at hc
      subst hl
      simp [aRow, newBlk]

/-- append one number to a row of one's own -/
theorem app31_own {b : Nat} {n : Int} (hb : H[b]? = some (.cells (nums row) t_int true)) (hy : Rd H rv 1 [.int .i64 n]) (hm : row.length < 2 ^ 40) : eBuiltin PP .append #[t_L_int, t_L_int] [.slice (some ⟨b, 0, none⟩) row.length UNK, rv] ⟨H, e⟩ k =
    k (.slice (some ⟨H.length, 0, none⟩) (row.length + 1) UNK) ⟨H.set b .dead ++ [.cells (nums (row ++ [n])) t_int true], e⟩ := by
  have hs := hy.src (size := 1) (by simp) (by simp [cellV])
  have h1 : (row.length + 1) * 8 ≤ 140737488355328 := by omega
  simp only [eBuiltin, aAppend, qu_L_int, qsz_int, qby_int, qz_int, Option.getD_some, hs]
  simp [Value.cells, h1, hb, nums_len, aRow, newBlk, List.take_of_length_le]
  simp [nums, List.take_of_length_le]

/-- a row, and one more: it is a row of its own -/
theorem longer_ok (hr : Rd H rv row.length (nums row)) (hm : row.length < 2 ^ 39) (n : Int) :
    ∃ G : List Blk, ((bsl PP t_L_int 0 [] [] ⟨H, e⟩).bind fun r28 => eBuiltin PP .append #[t_L_int, t_L_int] [r28.1, rv] r28.2 fun x29 s30 => (bsl PP t_L_int 1 [0] [.int .i64 n] s30).bind fun r31 => eBuiltin PP .append #[t_L_int, t_L_int] [x29, r31.1] r31.2 k) =
      k (.slice (some ⟨H.length + G.length, 0, none⟩) (row.length + 1) UNK) ⟨H ++ (G ++ [.cells (nums (row ++ [n])) t_int true]), e⟩ := by
  rw [bsl31_0, Option.bind_some]
  simp only
  rw [app31_empty hr.app (by omega)]
  by_cases h0 : row.length = 0
  · have hrow : row = [] := List.eq_nil_of_length_eq_zero h0
    subst hrow
    refine ⟨[.cells [] t_int true, .cells [.int .i64 n] t_int true], ?_⟩
    simp only [List.length_nil, if_true]
    rw [bsl31_1, Option.bind_some]
    have hy : Rd (H ++ [Blk.cells [] t_int true] ++ [.cells [.int .i64 n] t_int true]) (.slice (some ⟨(H ++ [Blk.cells [] t_int true]).length, 0, none⟩) 1 1) 1 [.int .i64 n] :=
      .own (bs := [.int .i64 n]) (t := t_int) (own := true) (by simp) (by simp) (by simp)
    have := app31_empty (e := e) (k := k) (row := [n]) hy (by simp) H.length
    simp only
    rw [this]
    simp [cellsAt, nums]
  · rw [if_neg h0]
    refine ⟨[.cells [] t_int true, .dead, .cells [.int .i64 n] t_int true], ?_⟩
    have hc : cellsAt (H ++ [Blk.cells [] t_int true]) H.length 0 0 = some [] := by simp [cellsAt]
    rw [hc, Option.bind_some, bsl31_1, Option.bind_some]
    simp only
    have hb : (H ++ [Blk.cells [] t_int true] ++ [Blk.cells (nums row) t_int true] ++ [Blk.cells [.int .i64 n] t_int true])[(H ++ [Blk.cells [] t_int true]).length]? = some (.cells (nums row) t_int true) := by simp
    have hy : Rd (H ++ [Blk.cells [] t_int true] ++ [Blk.cells (nums row) t_int true] ++ [Blk.cells [.int .i64 n] t_int true]) (.slice (some ⟨(H ++ [Blk.cells [] t_int true] ++ [Blk.cells (nums row) t_int true]).length, 0, none⟩) 1 1) 1 [.int .i64 n] :=
      .own (bs := [.int .i64 n]) (t := t_int) (own := true) (by simp) (by simp) (by simp)
    rw [app31_own hb hy (by omega)]
    congr 1
    · simp
    · simp

end

/-- which ops stand in a row -/
def inRow (row : List Int) : Nat → Bool := fun k => decide ((k : Int) ∈ row)

theorem inRow_ins (row : List Int) (n : Nat) : inRow (row ++ [(n : Int)]) = ins (inRow row) n := by
  funext k
  simp only [inRow, ins, List.mem_append, List.mem_singleton, Bool.decide_or]
  by_cases h : k = n
  · subst h; simp
  · have : ¬ ((k : Int) = (n : Int)) := by omega
    simp [h, this]

/-- what the search tells of a row and what the sector has -/
structure Says (l : List (Rw (List Value))) (row : List Int) (u : List Value) (s : Int) (b : Bool) (s' : Int) : Prop where
  le : s' ≤ s
  nonneg : 0 ≤ s → 0 ≤ s'
  found : b = true → ∃ r, Comp l (inRow row) u r
  not : b = false → 0 < s' → Dead l (inRow row) u

attribute [local simp] box_agg box_one load_one load_agg store_agg cellAt_app cellAt_app0 cellsAt_app cellsAt_app0 storeL_app storeL_app0 newBlk_app newBlk_bare newPtr_def un_not bcase_if
  bin_add bin_sub bin_mul bin_eql bin_neq bin_lss bin_leq bin_gtr bin_geq pick_bool fin_flat fin_flat' flatV noSl oneOf_one joinEsc_none escOf_nil storeL cellAt cellsAt
  qfa_twainref36_Op_0 qfa_twainref36_Op_1 qfa_twainref36_Op_2 qfa_twainref36_Op_3 qfa_history_Op_0 qfa_history_Op_1 qfa_history_Op_2 qfa_history_Op_3 qzg_twainref36_Op qzg_history_Op qzg_api_Sector qza_twainref36_Op qza_history_Op qza_api_Sector qzl_twainref36_Op qzl_history_Op qzl_api_Sector

theorem nums_noSl (l : List Int) : (nums l).all noSl = true := by
  induction l with
  | nil => rfl
  | cons x xs ih => simp [nums, noSl]

theorem fin_row {H L : List Blk} {rv : Value} {row : List Int} {b : Bool} (hw : Rd H rv row.length (nums row)) (hwv : ∀ r ∈ vrefs rv, r < H.length) :
    ∃ out, fin PP false H.length [rv, .bool b] ⟨H ++ L, none⟩ = some (.tuple #[out, .bool b], H, none) ∧ (out = rv ∨ ∃ n cs, out = tSl n cs ∧ lrefs cs = []) := by
  unfold fin endFrz
  simp only [Bool.false_eq_true, if_false, frzL]
  rcases frz_old (P := PP) (l := L) hw hwv 7 with h | ⟨rfl, h⟩
  · refine ⟨rv, ?_, .inl rfl⟩
    simp only [h, frz_noSl PP.depth 8 (.bool b) _ rfl, frz_noSl H.length 8 (.bool b) _ rfl]
    rw [gc_old (by simpa using hwv)]
    rfl
  · refine ⟨tSl 0 [], ?_, .inr ⟨0, [], rfl, rfl⟩⟩
    simp only [h, frz_noSl H.length 8 (.bool b) _ rfl]
    rw [gc_old (by simp)]
    rfl

theorem fin_new {H L : List Blk} {row : List Int} {b : Bool} {k c : Nat} (hk : L[k]? = some (.cells (nums row) t_int true)) :
    fin PP false H.length [.slice (some ⟨H.length + k, 0, none⟩) row.length c, .bool b] ⟨H ++ L, none⟩ = some (.tuple #[tSl row.length (nums row), .bool b], H, none) := by
  unfold fin endFrz
  simp only [Bool.false_eq_true, if_false, frzL]
  rw [frz_new (P := PP) (sz := 1) hk qsz_int (by simp [nums]) (nums_noSl row)]
  have ht : (nums row).take (row.length * 1) = nums row := List.take_of_length_le (by simp [nums])
  simp only [ht, frz_noSl H.length 8 (.bool b) _ rfl]
  rw [gc_none (by simp [nums_refs])]
  rfl

theorem fin_nil {H L : List Blk} {b : Bool} : fin PP false H.length [.slice none 0 0, .bool b] ⟨H ++ L, none⟩ = some (.tuple #[tSl 0 [], .bool b], H, none) := by
  unfold fin endFrz
  have : frz PP H.length 8 (.slice none 0 0) (H ++ L) = (tSl 0 [], H ++ L) := rfl
  simp only [Bool.false_eq_true, if_false, frzL, this, frz_noSl H.length 8 (.bool b) _ rfl]
  rw [gc_none (by simp)]
  rfl

theorem fin_tree {H L : List Blk} {cs : List Value} {b : Bool} {n : Nat} (hc : lrefs cs = []) : fin PP false H.length [tSl n cs, .bool b] ⟨H ++ L, none⟩ = some (.tuple #[tSl n cs, .bool b], H, none) := by
  unfold fin endFrz
  simp only [Bool.false_eq_true, if_false, frzL, frz_noSl H.length 8 (tSl n cs) _ rfl, frz_noSl H.length 8 (.bool b) _ rfl]
  rw [gc_none (by simp [hc])]
  rfl

theorem search_ok {v : Value} {l : List (Rw (List Value))} (hv : vrefs v = []) (hl : OkOps l) (hm : l.length < 1000) (hrd : ∀ H, Rd H v l.length (opsC l)) :
    ∀ (m : Nat) (H : List Blk) (rv : Value) (row : List Int) (u : List Value) (sp : Nat) (s : Int), l.length < cnt l.length (inRow row) + m → row.length ≤ cnt l.length (inRow row) → TOk PP t_api_Sector u →
      Rd H rv row.length (nums row) → (∀ r ∈ vrefs rv, r < H.length ∧ r ≠ sp) → H[sp]? = some (.cells [.int .i64 s] t_int true) → 0 ≤ s → s ≤ 20000 →
    ∃ (b : Bool) (s' : Int) (out : Value), acall PP TT n_twainref37_search [v, rv, .agg u.toArray, .pointer (some ⟨sp, 0, none⟩)] H = some (.tuple #[out, .bool b], H.set sp (.cells [.int .i64 s'] t_int true), none) ∧ Says l row u s b s' ∧
      (out = rv ∨ ∃ n cs, out = tSl n cs ∧ lrefs cs = [])
  | 0, H, rv, row, u, sp, s, hc, _, _, _, _, _, _, _ => by have := cnt_le (inRow row) l.length; omega
  | m + 1, H, rv, row, u, sp, s, hc, hrl, hu, hw, hwv, hsp, hs0, hs1 => by
    obtain ⟨u1, u2, qu_int⟩ := sec_cells hu
    have un := sec_len hu
    have htu : u.take 16 = u := List.take_of_length_le (by omega)
    have hcl := cnt_le (inRow row) l.length
    have hspl := lt_of_get hsp
    obtain ⟨b0, hb1, hb2⟩ := whole_ok (H := H ++ [.cells u t_api_Sector true]) (hrd _) hv hl (by omega) hw.app (fun r hr => by have := (hwv r hr).1; simp; omega) (by omega)
    cases b0 with
    | true =>
      obtain ⟨out, h1, h2⟩ := fin_row (L := [.cells u t_api_Sector true]) (b := true) hw (fun r hr => (hwv r hr).1)
      refine ⟨true, s, out, ?_, ⟨Int.le_refl _, fun h => h, fun _ => ⟨[], .done (fun k x hx hm => ?_)⟩, by simp⟩, h2⟩
      · have hset : H.set sp (.cells [.int .i64 s] t_int true) = H := by
          apply List.ext_getElem?; intro i
          by_cases hi : sp = i
          · subst hi; rw [List.getElem?_set_self hspl, hsp]
          · rw [List.getElem?_set_ne hi]
        rw [acall_eq, twainref37_search.eq, hset]
        simp [twainref37_search.sh, u1, hb1]
        exact h1
      · simpa [inRow] using hb2.1 rfl k x hx hm
    | false =>
      have hnw : ¬ allMust l (inRow row) := fun h => by
        have := hb2.2 (fun k x hx hm => by simpa [inRow] using h k x hx hm)
        simp at this
      have hg : ∀ (X : Blk) (L : List Blk), (H.set sp X ++ L)[sp]? = some X := fun X L => by rw [List.getElem?_append_left (by simpa using hspl), List.getElem?_set_self hspl]
      have hst : ∀ (X Y : Blk) (L : List Blk), (H.set sp X ++ L).set sp Y = H.set sp Y ++ L := fun X Y L => by rw [List.set_append_left _ _ (by simpa using hspl), List.set_set]
      have hga : ∀ (X : Blk) (L : List Blk) (k : Nat), (H.set sp X ++ L)[H.length + k]? = L[k]? := fun X L k => by have := get_app (H := H.set sp X) (l := L) k; simpa using this
      have hga0 : ∀ (X : Blk) (L : List Blk), (H.set sp X ++ L)[H.length]? = L[0]? := fun X L => by have := get_app (H := H.set sp X) (l := L) 0; simpa using this
      have hsa : ∀ (X Y : Blk) (L : List Blk) (k : Nat), (H.set sp X ++ L).set (H.length + k) Y = H.set sp X ++ L.set k Y := fun X Y L k => by have := set_app (H := H.set sp X) (l := L) k Y; simpa using this
      have hsp0 : ∀ x, (Value.pointer (some ⟨sp, 0, none⟩) = x) → aNil x = some x := fun x hx => by subst hx; rfl
      have hgc : ∀ (i : Int) (s : Int) (L : List Blk), gc H.length [v, rv, .pointer (some ⟨sp, 0, none⟩), .pointer (some ⟨H.length, 0, none⟩), .int .i64 l.length, .int .i64 i] ⟨H.set sp (.cells [.int .i64 s] t_int true) ++ (.cells u t_api_Sector true :: L), none⟩ =
          ([v, rv, .pointer (some ⟨sp, 0, none⟩), .pointer (some ⟨H.length, 0, none⟩), .int .i64 l.length, .int .i64 i], ⟨H.set sp (.cells [.int .i64 s] t_int true) ++ [.cells u t_api_Sector true], none⟩) := fun i s L => by
        have := gc_one (vs := [v, rv, .pointer (some ⟨sp, 0, none⟩), .pointer (some ⟨H.length, 0, none⟩), .int .i64 l.length, .int .i64 i]) (H := H.set sp (.cells [.int .i64 s] t_int true)) (G := L) (cs := u) (t := t_api_Sector) (o := true)
          (by
            intro r hr
            simp [hv] at hr
            rcases hr with hr | rfl | rfl
            · have := (hwv r hr).1; simp; omega
            · simp; omega
            · simp) (by simp) u2 (by
            have := hw.few (nums_refs row)
            simp [hv]; omega)
        simpa using this
      obtain ⟨r, h1, h2⟩ := loop_rule (n0 := H.length) (step := twainref37_search.loop4s (acall PP TT) loopG H.length) (len := l.length)
        (fun i (s' : Int) => ([v, rv, .pointer (some ⟨sp, 0, none⟩), .pointer (some ⟨H.length, 0, none⟩), .int .i64 l.length, .int .i64 i], ⟨H.set sp (.cells [.int .i64 s'] t_int true) ++ [.cells u t_api_Sector true], none⟩))
        (fun i s' => 0 ≤ s' ∧ s' ≤ s ∧ (0 < s' → ∀ n (x : Rw (List Value)), n < i → l[n]? = some x → canNext l (inRow row) n → (x.w = false → x.v = u) → Dead l (ins (inRow row) n) (if x.w = true then x.v else u)))
        (fun r => (∃ G out s', r = (.ret, [out, .bool true], ⟨H.set sp (.cells [.int .i64 s'] t_int true) ++ G, none⟩) ∧ 0 ≤ s' ∧ s' ≤ s ∧ (∃ q, Comp l (inRow row) u q) ∧
            ∃ n cs, lrefs cs = [] ∧ fin PP false H.length [out, .bool true] ⟨H.set sp (.cells [.int .i64 s'] t_int true) ++ G, none⟩ = some (.tuple #[tSl n cs, .bool true], H.set sp (.cells [.int .i64 s'] t_int true), none)) ∨
          (∃ s', r = (.exit 0, [unk, unk], ⟨H.set sp (.cells [.int .i64 s'] t_int true) ++ [.cells u t_api_Sector true], none⟩) ∧ 0 ≤ s' ∧ s' ≤ s ∧ (0 < s' → ∀ n (x : Rw (List Value)), l[n]? = some x → canNext l (inRow row) n → (x.w = false → x.v = u) → Dead l (ins (inRow row) n) (if x.w = true then x.v else u))))
        (fun i s' hi ⟨ho1, ho2, ho3⟩ => by
          have hi' : ((i : Int) < (l.length : Int)) := by omega
          obtain ⟨x, hx⟩ : ∃ x, l[i]? = some x := ⟨_, List.getElem?_eq_getElem hi⟩
          have hxo := hl x (List.mem_of_getElem? hx)
          have hw' : IntKind.i64.wrap ((i : Int) + 1) = ((i + 1 : Nat) : Int) := by rw [i64_wrap (by omega)]; omega
          by_cases hs' : s' ≤ 0
          · refine .inr ⟨([v, rv, .pointer (some ⟨sp, 0, none⟩), .pointer (some ⟨H.length, 0, none⟩), .int .i64 l.length, .int .i64 ((i + 1 : Nat) : Int)], ⟨H.set sp (.cells [.int .i64 s'] t_int true) ++ [.cells u t_api_Sector true], none⟩), s', ?_, hgc _ _ _, ho1, ho2, fun h => by omega⟩
            simp [twainref37_search.loop4s, twainref37_search.loop4, twainref37_search.j1, twainref37_search.j4, hi', aNil, hg, hs', hw']
          obtain ⟨b1, hn1, hn2⟩ := next_ok (H := H.set sp (.cells [.int .i64 s'] t_int true) ++ [.cells u t_api_Sector true]) (hrd _) hv hl (by omega) ((hw.set (fun r hr => (hwv r hr).2) _).app) (fun r hr => by have := (hwv r hr).1; simp; omega) (by omega) hx hu
          cases b1 with
          | false =>
            refine .inr ⟨([v, rv, .pointer (some ⟨sp, 0, none⟩), .pointer (some ⟨H.length, 0, none⟩), .int .i64 l.length, .int .i64 ((i + 1 : Nat) : Int)], ⟨H.set sp (.cells [.int .i64 s'] t_int true) ++ [.cells u t_api_Sector true], none⟩), s', ?_, hgc _ _ _, ho1, ho2, fun h n y hny hy hc hvy => ?_⟩
            · simp [twainref37_search.loop4s, twainref37_search.loop4, twainref37_search.j1, twainref37_search.j4, hi', aNil, hg, hs', hga0, un, htu, hn1, hw']
            · by_cases hni : n = i
              · subst hni
                rw [hx] at hy; simp at hy; subst hy
                have := hn2.2 ⟨by have := hc.1; simpa [inRow] using this, hvy, fun k z hz hk ha => by simpa [inRow] using hc.2 k z x hz hx hk ha⟩
                simp at this
              · exact ho3 h n y (by omega) hy hc hvy
          | true =>
            obtain ⟨hnr, hvu, hah⟩ := hn2.1 rfl
            have hcan : canNext l (inRow row) i := ⟨by simpa [inRow] using hnr, fun k z y hz hy hk ha => by rw [hx] at hy; simp at hy; subst hy; simpa [inRow] using hah k z hz hk ha⟩
            have hval : TOk PP t_api_Sector (if x.w = true then x.v else u) := by split; exact hxo.v; exact hu
            obtain ⟨v1, v2, v3⟩ := sec_cells hval
            have vn := sec_len hval
            have htv : (if x.w = true then x.v else u).take 16 = (if x.w = true then x.v else u) := List.take_of_length_le (by omega)
            have xn := sec_len hxo.v
            obtain ⟨xv1, xv2, xv3⟩ := sec_cells hxo.v
            have hixn := (hrd (H.set sp (Blk.cells [.int .i64 (s' - 1)] t_int true) ++ [Blk.cells u t_api_Sector true] ++ [Blk.cells u t_api_Sector true])).index (P := PP) qu_L_twainref36_Op qsz_twainref36_Op (k := .i64) (i := (i : Int)) (by omega) hi'
            simp at hixn
            have hwx : IntKind.i64.wrap (s' - 1) = s' - 1 := i64_wrap (by omega)
            have hfr := qfr_twainref36_Op_0 (hrd H) (by omega) (off := i * 19)
            have hfr1 := qfr_twainref36_Op_1 (hrd H) (by omega) (off := i * 19)
            simp at hfr
            have hw0 : ∀ H e, aLoad false 1 ⟨H, e⟩ (rdPtr v (i * 19)) = some (.bool x.w) := fun H e => by
              refine (hrd H).load1 (by omega) ?_ e
              have := congrArg (·[0]?) (opsC_get hl hx)
              rw [List.getElem?_take_of_lt (by omega), List.getElem?_drop] at this
              simpa [opc] using this
            have hv1 : ∀ H e, aLoad true 16 ⟨H, e⟩ (rdPtr v (i * 19 + 1)) = some (.agg x.v.toArray) := fun H e => by
              have h1 := opsC_len hl
              rw [(hrd H).load (by omega) (by omega) (by rw [h1]; omega) e]
              have := opsC_get hl hx
              have h2 : ((opsC l).drop (i * 19 + 1)).take 16 = x.v := by
                rw [← List.drop_drop]
                have h3 : (((opsC l).drop (i * 19)).drop 1).take 16 = ((((opsC l).drop (i * 19)).take 19).drop 1).take 16 := by
                  rw [List.drop_take, List.take_take]; rfl
                rw [h3, this]
                simp [opc, xn]
              rw [h2]
            -- the row with it, and what has been told of it
            have hrow2 : Rd (H.set sp (Blk.cells [.int .i64 (s' - 1)] t_int true) ++ [Blk.cells u t_api_Sector true, Blk.cells (if x.w = true then x.v else u) t_api_Sector true]) rv row.length (nums row) := (hw.set (fun r hr => (hwv r hr).2) _).app
            obtain ⟨G, hG⟩ := longer_ok (R := AEx × List Value × AS) (e := none) (k := fun x32 s33 => (aLoad true 16 s33 (.pointer (some ⟨H.length + 1, 0, none⟩))).bind fun x34 =>
              (acall PP TT n_twainref37_search [v, x32, x34, .pointer (some ⟨sp, 0, none⟩)] s33.H).bind fun r35 =>
              (pureRun PP (Instr.extract r35.1 0)).bind fun x36 =>
              (pureRun PP (Instr.extract r35.1 1)).bind fun x37 =>
              bcase x37 (
              some (AEx.ret, [v, rv, .pointer (some ⟨sp, 0, none⟩), .pointer (some ⟨H.length, 0, none⟩), x36, .bool true, .int .i64 l.length, .int .i64 i], AS.mk r35.2.1 (joinEsc s33.esc r35.2.2))) (
              some (AEx.normal, [v, rv, .pointer (some ⟨sp, 0, none⟩), .pointer (some ⟨H.length, 0, none⟩), unk, unk, .int .i64 l.length, .int .i64 i], AS.mk r35.2.1 (joinEsc s33.esc r35.2.2)))) hrow2 (by omega) (i : Int)
            have hmem : inRow (row ++ [(i : Int)]) = ins (inRow row) i := inRow_ins row i
            have hcnt := cnt_ins hcan.1 l.length hi
            obtain ⟨b2, s2, out2, hs2, hsay, hout⟩ := search_ok hv hl hm hrd m (H.set sp (Blk.cells [.int .i64 (s' - 1)] t_int true) ++ [Blk.cells u t_api_Sector true, Blk.cells (if x.w = true then x.v else u) t_api_Sector true] ++ (G ++ [Blk.cells (nums (row ++ [(i : Int)])) t_int true]))
              (.slice (some ⟨(H.set sp (Blk.cells [.int .i64 (s' - 1)] t_int true) ++ [Blk.cells u t_api_Sector true, Blk.cells (if x.w = true then x.v else u) t_api_Sector true]).length + G.length, 0, none⟩) (row.length + 1) UNK) (row ++ [(i : Int)]) (if x.w = true then x.v else u) sp (s' - 1)
              (by rw [hmem, hcnt]; omega) (by rw [hmem, hcnt]; simp; omega) hval
              (by
                have : (row ++ [(i : Int)]).length = row.length + 1 := by simp
                rw [this]
                exact .own (bs := nums (row ++ [(i : Int)])) (t := t_int) (own := true) (by rw [get_app]; simp) (by simp) (by simp))
              (fun r hr => by simp at hr; subst hr; simp; omega)
              (by rw [List.append_assoc]; exact hg _ _) (by omega) (by omega)
            have hround : twainref37_search.loop4s (acall PP TT) loopG H.length ([v, rv, .pointer (some ⟨sp, 0, none⟩), .pointer (some ⟨H.length, 0, none⟩), .int .i64 l.length, .int .i64 i], ⟨H.set sp (.cells [.int .i64 s'] t_int true) ++ [Blk.cells u t_api_Sector true], none⟩) = (if b2 = true then some (.inr (.ret, [out2, .bool true], ⟨H.set sp (.cells [.int .i64 s2] t_int true) ++ ([Blk.cells u t_api_Sector true, Blk.cells (if x.w = true then x.v else u) t_api_Sector true] ++ (G ++ [Blk.cells (nums (row ++ [(i : Int)])) t_int true])), none⟩))
                else some (.inl ([v, rv, .pointer (some ⟨sp, 0, none⟩), .pointer (some ⟨H.length, 0, none⟩), .int .i64 l.length, .int .i64 ((i + 1 : Nat) : Int)], ⟨H.set sp (.cells [.int .i64 s2] t_int true) ++ ([Blk.cells u t_api_Sector true, Blk.cells (if x.w = true then x.v else u) t_api_Sector true] ++ (G ++ [Blk.cells (nums (row ++ [(i : Int)])) t_int true])), none⟩))) := by
              have hs0' : ¬ s' ≤ 0 := hs'
              have hd : ∀ (X : Blk), (H.set sp X ++ [Blk.cells u t_api_Sector true, Blk.cells (if x.w = true then x.v else u) t_api_Sector true] ++ (G ++ [Blk.cells (nums (row ++ [(i : Int)])) t_int true]))[H.length + 1]? = some (Blk.cells (if x.w = true then x.v else u) t_api_Sector true) := fun X => by rw [List.append_assoc, hga]; rfl
              have hset2 : (H.set sp (.cells [.int .i64 (s' - 1)] t_int true) ++ [Blk.cells u t_api_Sector true, Blk.cells (if x.w = true then x.v else u) t_api_Sector true] ++ (G ++ [Blk.cells (nums (row ++ [(i : Int)])) t_int true])).set sp (.cells [.int .i64 s2] t_int true) = H.set sp (.cells [.int .i64 s2] t_int true) ++ ([Blk.cells u t_api_Sector true, Blk.cells (if x.w = true then x.v else u) t_api_Sector true] ++ (G ++ [Blk.cells (nums (row ++ [(i : Int)])) t_int true])) := by
                rw [List.append_assoc, hst]
              rw [hset2] at hs2
              cases hxw : x.w with
              | true =>
                simp only [hxw, if_true] at hG hs2 hd hval v1 v2 vn htv ⊢
                simp [twainref37_search.loop4s, twainref37_search.loop4, twainref37_search.j1, twainref37_search.j2, twainref37_search.j4, hi', aNil, hg, hst, hs', hga0, hga, hsa, un, htu, hn1, hw', hwx, u1, u2, hixn, hfr, hfr1, hw0, hv1, hxw, xn, xv1, xv2, putCells_all, qzl_api_Sector]
                unfold twainref37_search.j3
                rw [hG]
                simp at hs2
                simp [hd, vn, htv, hs2]
                cases b2 <;> simp [hw']
              | false =>
                simp only [hxw, Bool.false_eq_true, if_false] at hG hs2 hd hval v1 v2 vn htv ⊢
                simp [twainref37_search.loop4s, twainref37_search.loop4, twainref37_search.j1, twainref37_search.j2, twainref37_search.j4, hi', aNil, hg, hst, hs', hga0, hga, hsa, un, htu, hn1, hw', hwx, u1, u2, hixn, hfr, hfr1, hw0, hv1, hxw, xn, xv1, xv2, putCells_all, qzl_api_Sector]
                unfold twainref37_search.j3
                rw [hG]
                simp at hs2
                simp [hd, vn, htv, hs2]
                cases b2 <;> simp [hw']
            cases b2 with
            | true =>
              simp only [if_true] at hround
              refine .inl ⟨_, hround, .inl ⟨_, out2, s2, rfl, hsay.nonneg (by omega), by have := hsay.le; omega, ?_, ?_⟩⟩
              · obtain ⟨q, hq⟩ := hsay.found rfl
                rw [hmem] at hq
                exact ⟨i :: q, .step hx hcan hvu hq⟩
              · rcases hout with rfl | ⟨n, cs, rfl, hcs⟩
                · refine ⟨row.length + 1, nums (row ++ [(i : Int)]), nums_refs _, ?_⟩
                  have hLk : ([Blk.cells u t_api_Sector true, Blk.cells (if x.w = true then x.v else u) t_api_Sector true] ++ (G ++ [Blk.cells (nums (row ++ [(i : Int)])) t_int true]))[2 + G.length]? = some (Blk.cells (nums (row ++ [(i : Int)])) t_int true) := by
                    rw [← List.append_assoc, List.getElem?_append_right (by simp; omega)]
                    have h0 : 2 + G.length - ([Blk.cells u t_api_Sector true, Blk.cells (if x.w = true then x.v else u) t_api_Sector true] ++ G).length = 0 := by simp; omega
                    rw [h0]; rfl
                  have := fin_new (H := H.set sp (.cells [.int .i64 s2] t_int true)) (b := true) (c := UNK) hLk
                  simpa [Nat.add_assoc] using this
                · refine ⟨n, cs, hcs, ?_⟩
                  have := fin_tree (H := H.set sp (.cells [.int .i64 s2] t_int true)) (L := [Blk.cells u t_api_Sector true, Blk.cells (if x.w = true then x.v else u) t_api_Sector true] ++ (G ++ [Blk.cells (nums (row ++ [(i : Int)])) t_int true])) (b := true) (n := n) hcs
                  simpa using this
            | false =>
              simp only [Bool.false_eq_true, if_false] at hround
              refine .inr ⟨_, s2, hround, by simpa using hgc _ _ _, hsay.nonneg (by omega), by have := hsay.le; omega, fun h n y hny hy hc hvy => ?_⟩
              by_cases hni : n = i
              · subst hni
                rw [hx] at hy; simp at hy; subst hy
                have := hsay.not rfl h
                rwa [hmem] at this
              · exact ho3 (by have := hsay.le; omega) n y (by omega) hy hc hvy)
        (fun s' ⟨ho1, ho2, ho3⟩ => ⟨(.exit 0, [unk, unk], ⟨H.set sp (.cells [.int .i64 s'] t_int true) ++ [.cells u t_api_Sector true], none⟩), by simp [twainref37_search.loop4s, twainref37_search.loop4], .inr ⟨s', rfl, ho1, ho2, fun h n x hx => ho3 h n x (lt_of_get hx) hx⟩⟩)
        l.length 0 s ([v, rv, .pointer (some ⟨sp, 0, none⟩), .pointer (some ⟨H.length, 0, none⟩), .int .i64 l.length, .int .i64 0], ⟨H.set sp (.cells [.int .i64 s] t_int true) ++ [.cells u t_api_Sector true], none⟩) (by omega) ⟨hs0, Int.le_refl _, fun _ n x hn => by omega⟩ (by simpa using hgc 0 s [])
      rcases h2 with ⟨G, out, s', rfl, hs0', hs1', hq, n, cs, hcs, hfin⟩ | ⟨s', rfl, hs0', hs1', hall⟩
      · refine ⟨true, s', tSl n cs, ?_, ⟨hs1', fun _ => hs0', fun _ => hq, by simp⟩, .inr ⟨n, cs, rfl, hcs⟩⟩
        rw [acall_eq, twainref37_search.eq]
        simp [twainref37_search.sh, u1, hb1, (hrd (H ++ [Blk.cells u t_api_Sector true])).len (P := PP) qu_L_twainref36_Op]
        have hset : H.set sp (.cells [.int .i64 s] t_int true) = H := by
          apply List.ext_getElem?; intro i
          by_cases hi : sp = i
          · subst hi; rw [List.getElem?_set_self hspl, hsp]
          · rw [List.getElem?_set_ne hi]
        rw [hset] at h1
        simp [h1]
        exact hfin
      · refine ⟨false, s', tSl 0 [], ?_, ⟨hs1', fun _ => hs0', by simp, fun _ h => dead_none hnw (hall h)⟩, .inr ⟨0, [], rfl, rfl⟩⟩
        rw [acall_eq, twainref37_search.eq]
        simp [twainref37_search.sh, u1, hb1, (hrd (H ++ [Blk.cells u t_api_Sector true])).len (P := PP) qu_L_twainref36_Op]
        have hset : H.set sp (.cells [.int .i64 s] t_int true) = H := by
          apply List.ext_getElem?; intro i
          by_cases hi : sp = i
          · subst hi; rw [List.getElem?_set_self hspl, hsp]
          · rw [List.getElem?_set_ne hi]
        rw [hset] at h1
        simp [h1, twainref37_search.j6]
        have := fin_tree (H := H.set sp (.cells [.int .i64 s'] t_int true)) (L := [Blk.cells u t_api_Sector true]) (cs := []) (b := false) (n := 0) rfl
        simpa using fin_nil (H := H.set sp (.cells [.int .i64 s'] t_int true)) (L := [Blk.cells u t_api_Sector true])

end Go.Proofs.Ytfinilnkempofaa
