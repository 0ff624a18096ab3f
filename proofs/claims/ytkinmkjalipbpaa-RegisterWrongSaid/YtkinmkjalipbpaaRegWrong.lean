/- A read that ended ahead of all writes, and tells another value than was there, is wrong. -/
import Derived.Test.YtkinmkjalipbpaaRegRow
set_option linter.all false
set_option linter.unusedVariables false
set_option linter.unusedSimpArgs false
set_option linter.unnecessarySimpa false
namespace Go.Reg
section
variable {V : Type}

theorem wrong_dead {L : List (Rw V)} {u v : V} (h0 : L[0]? = some ⟨false, v, 0, 1⟩) (hv : v ≠ u) (hrest : ∀ k x, L[k + 1]? = some x → 2 ≤ x.f) : Dead L (fun _ => false) u := by
  refine dead_none (fun hm => ?_) (fun n x hx hc hval => ?_)
  · have := hm 0 _ h0 rfl
    simp at this
  · cases n with
    | zero =>
      rw [h0] at hx; simp at hx; subst hx
      exact absurd (hval rfl) hv
    | succ k =>
      have hf := hrest k x hx
      have := hc.2 0 _ x h0 hx (by omega) (by simp only [aheadR, Bool.and_eq_true, decide_eq_true_eq]; omega)
      simp at this

end
end Go.Reg
namespace Go.Proofs.Ytkinmkjalipbpaa
open Go Go.Am Go.Reg

def wrF (i : Nat) (x : List Value) : Rw (List Value) := ⟨true, x, 2 + 2 * i, 3 + 2 * i⟩
def opsW (v : List Value) (rows : List (List Value)) : List (Rw (List Value)) := ⟨false, v, 0, 1⟩ :: rows.mapIdx wrF

theorem i64_in {n : Int} (h : -9223372036854775808 ≤ n) (h' : n ≤ 9223372036854775807) : IntKind.i64.min ≤ n ∧ n ≤ IntKind.i64.max := by
  have h1 : IntKind.i64.min = -9223372036854775808 := by kernel_rfl
  have h2 : IntKind.i64.max = 9223372036854775807 := by kernel_rfl
  rw [h1, h2]; exact ⟨h, h'⟩

theorem wrF_ok {i : Nat} {x : List Value} (hi : i < 1000) (hx : TOk PP 24 x) : OkRw (wrF i x) := ⟨hx, i64_in (by simp only [wrF]; omega) (by simp only [wrF]; omega), i64_in (by simp only [wrF]; omega) (by simp only [wrF]; omega)⟩
theorem rd0_ok {x : List Value} (hx : TOk PP 24 x) : OkRw ⟨false, x, 0, 1⟩ := ⟨hx, i64_in (n := 0) (by omega) (by omega), i64_in (n := 1) (by omega) (by omega)⟩

theorem opsW_get (v : List Value) (rows : List (List Value)) (k : Nat) : (opsW v rows)[k + 1]? = (rows[k]?).map (wrF k) := by simp [opsW]
theorem opsW_len (v : List Value) (rows : List (List Value)) : (opsW v rows).length = rows.length + 1 := by simp [opsW]
theorem opsW_ok {v : List Value} {rows : List (List Value)} (hv : TOk PP 24 v) (hr : ∀ r ∈ rows, TOk PP 24 r) (hm : rows.length < 1000) : OkOps (opsW v rows) := fun x hx => by
  obtain ⟨k, hk⟩ := List.mem_iff_getElem?.1 hx
  cases k with
  | zero => simp [opsW] at hk; subst hk; exact rd0_ok hv
  | succ k =>
    rw [opsW_get] at hk
    obtain ⟨r, h1, rfl⟩ := Option.map_eq_some_iff.1 hk
    exact wrF_ok (by have := lt_of_get h1; omega) (hr r (List.mem_of_getElem? h1))
theorem opsW_take (v : List Value) (rows : List (List Value)) {i : Nat} {x : List Value} (hx : rows[i]? = some x) : (opsW v rows).take (i + 2) = (opsW v rows).take (i + 1) ++ [wrF i x] := by
  rw [List.take_add_one, opsW_get, hx]; rfl

theorem sec_ex {v : List Value} (h : TOk PP 24 v) : ∃ a0 a1 a2 a3 a4 a5 a6 a7 a8 a9 a10 a11 a12 a13 a14 a15, v = [a0, a1, a2, a3, a4, a5, a6, a7, a8, a9, a10, a11, a12, a13, a14, a15] := by
  have := sec_len h
  match v, this with
  | [a0, a1, a2, a3, a4, a5, a6, a7, a8, a9, a10, a11, a12, a13, a14, a15], _ => exact ⟨a0, a1, a2, a3, a4, a5, a6, a7, a8, a9, a10, a11, a12, a13, a14, a15, rfl⟩

/-- an op, as it is written -/
theorem build40_4 {v : List Value} (h : TOk PP 24 v) (w : Bool) (f t : Int) : aBuild PP 40 [(0, .bool w), (1, .agg v.toArray), (2, .int .i64 f), (3, .int .i64 t)] = some (.agg (opc ⟨w, v, f, t⟩).toArray) := by
  obtain ⟨c1, _, _⟩ := sec_cells h
  unfold aBuild
  simp only [z40v]
  rw [if_pos ⟨by kernel_rfl, by simp [Value.cells, c1, allCells, cellV] at c1 ⊢; exact c1⟩]
  obtain ⟨a0, a1, a2, a3, a4, a5, a6, a7, a8, a9, a10, a11, a12, a13, a14, a15, rfl⟩ := sec_ex h
  clear c1 h
  refine Eq.trans (b := some (.agg #[.bool w, a0, a1, a2, a3, a4, a5, a6, a7, a8, a9, a10, a11, a12, a13, a14, a15, .int .i64 f, .int .i64 t])) ?_ rfl
  kernel_rfl

theorem build40_3 {v : List Value} (h : TOk PP 24 v) (f t : Int) : aBuild PP 40 [(1, .agg v.toArray), (2, .int .i64 f), (3, .int .i64 t)] = some (.agg (opc ⟨false, v, f, t⟩).toArray) := by
  obtain ⟨c1, _, _⟩ := sec_cells h
  unfold aBuild
  simp only [z40v]
  rw [if_pos ⟨by kernel_rfl, by simp [Value.cells, c1, allCells, cellV] at c1 ⊢; exact c1⟩]
  obtain ⟨a0, a1, a2, a3, a4, a5, a6, a7, a8, a9, a10, a11, a12, a13, a14, a15, rfl⟩ := sec_ex h
  clear c1 h
  refine Eq.trans (b := some (.agg #[.bool false, a0, a1, a2, a3, a4, a5, a6, a7, a8, a9, a10, a11, a12, a13, a14, a15, .int .i64 f, .int .i64 t])) ?_ rfl
  kernel_rfl

theorem says_fin {n0 : Nat} {st : AS} : saysTrue (fin PP false n0 [.bool true] st) = true := by
  unfold fin endFrz
  simp only [Bool.false_eq_true, if_false, frzL, frz_noSl n0 8 (.bool true) st.H rfl]
  rw [gc_vals _ _ _ rfl]
  rfl

/-- a row of ops becomes a value of its own -/
theorem frz_row40 {n0 b c q : Nat} {H : List Blk} {A : List (Rw (List Value))} (hA : OkOps A) (hb : H[b]? = some (.cells (opsC A) 40 true)) (hn : n0 ≤ b) :
    frz PP n0 (q + 1) (.slice (some ⟨b, 0, none⟩) A.length c) H = (tSl A.length (opsC A), H.set b .dead) := by
  have hl := opsC_len hA
  have h1 : 0 + A.length * 19 ≤ (opsC A).length := by omega
  have h2 : (opsC A).take (A.length * 19) = opsC A := List.take_of_length_le (by omega)
  simp only [frz, hb, sz40]
  rw [if_pos ⟨hn, h1⟩]
  simp only [List.drop_zero, h2]
  rw [frzL_noSl _ _ _ _ (opsC_cells hA).2]

/-- the loop's state -/
def WI (u v : List Value) (rows : List (List Value)) (i : Nat) (X : List Value × AS) : Prop :=
  ∃ (p b cap : Nat) (st : AS), X = ([.pointer (some ⟨p, 0, none⟩), .slice (some ⟨b, 0, none⟩) (i + 1) cap, tSl rows.length rows.flatten, .int .i64 rows.length, .int .i64 i], st) ∧ (cap = UNK ∨ cap = i + 1) ∧
    st.H[p]? = some (.cells u 24 true) ∧ st.H[b]? = some (.cells (opsC ((opsW v rows).take (i + 1))) 40 true)

theorem rows_refs {rows : List (List Value)} (h : ∀ r ∈ rows, TOk PP 24 r) : lrefs rows.flatten = [] := by
  induction rows with
  | nil => rfl
  | cons r rows ih => simp [(sec_cells (h r (by simp))).2.1, ih (fun x hx => h x (by simp [hx]))]

theorem wrong_loop {u v : List Value} {rows : List (List Value)} (hu : TOk PP 24 u) (hv : TOk PP 24 v) (hr : ∀ r ∈ rows, TOk PP 24 r) (hm : rows.length ≤ 30) {X : List Value × AS} (hX : WI u v rows 0 X) :
    ∃ r, loopG 0 (f4.loop5s (acall PP TT) loopG 0) X = some r ∧ ∃ (p b cap : Nat) (st : AS), r = (.exit 0, [.pointer (some ⟨p, 0, none⟩), .slice (some ⟨b, 0, none⟩) (rows.length + 1) cap], st) ∧
      st.H[p]? = some (.cells u 24 true) ∧ st.H[b]? = some (.cells (opsC (opsW v rows)) 40 true) := by
  have hok := opsW_ok hv hr (by omega)
  have hlen := opsW_len v rows
  have htk : ∀ i, OkOps ((opsW v rows).take i) := fun i x hx => hok x (List.mem_of_mem_take hx)
  have hrr := rows_refs hr
  have hvr : vrefs (tSl rows.length rows.flatten) = [] := by simp [hrr]
  obtain ⟨u1, u2, u3⟩ := sec_cells hu
  refine loop_inv (len := rows.length) (WI u v rows) _ ?_ ?_ ?_ rows.length 0 X (by omega) hX
  · rintro i X ⟨p, b, cap, st, rfl, hcap, hp, hb⟩
    have hrefs : lrefs [.pointer (some ⟨p, 0, none⟩), .slice (some ⟨b, 0, none⟩) (i + 1) cap, tSl rows.length rows.flatten, .int .i64 rows.length, .int .i64 i] = [p, b] := by simp [hrr]
    obtain ⟨σ, g1, g2, g3⟩ := gc_flat 0 [.pointer (some ⟨p, 0, none⟩), .slice (some ⟨b, 0, none⟩) (i + 1) cap, tSl rows.length rows.flatten, .int .i64 rows.length, .int .i64 i] st (fun r hr => by
      rw [hrefs] at hr
      simp at hr
      rcases hr with rfl | rfl
      · exact ⟨_, _, _, hp, u2⟩
      · exact ⟨_, _, _, hb, opsC_refs (htk _)⟩)
    rw [hrefs] at g3
    refine ⟨σ p, σ b, cap, _, Prod.ext ?_ rfl, hcap, (g3 p (by simp)).2 _ hp, (g3 b (by simp)).2 _ hb⟩
    rw [g1]
    have hvs : vren σ (tSl rows.length rows.flatten) = tSl rows.length rows.flatten := vren_same _ (fun b hb => by rw [hvr] at hb; simp at hb)
    simp [lren, hvs, vren]
  · rintro i X hi ⟨p, b, cap, ⟨H, e⟩, rfl, hcap, hp, hb⟩
    simp only at hp hb
    obtain ⟨x, hx⟩ : ∃ x, rows[i]? = some x := ⟨_, List.getElem?_eq_getElem hi⟩
    have hxt := hr x (List.mem_of_getElem? hx)
    obtain ⟨c1, c2, c3⟩ := sec_cells hxt
    have cn := sec_len hxt
    have hw := wrF_ok (i := i) (by omega) hxt
    have hi' : ((i : Int) < (rows.length : Int)) := by omega
    have hrd : Rd H (tSl rows.length rows.flatten) rows.length rows.flatten := .tree _ _
    have hix := hrd.index (P := PP) u38 sz24 (k := .i64) (i := (i : Int)) (by omega) hi'
    simp at hix
    have hl16 : ∀ r ∈ rows, r.length = 16 := fun r h => sec_len (hr r h)
    have hfl := chunk_len rows hl16
    have hld : aLoad true 16 ⟨H, e⟩ (rdPtr (tSl rows.length rows.flatten) (i * 16)) = some (.agg x.toArray) := by
      rw [hrd.load (by omega) (by omega) (by rw [hfl]; omega) e, chunk_get rows hl16 i x hx]
    have hstb : storeL ⟨H ++ [Blk.cells z24 24 true], e⟩ H.length 0 x = some ⟨H ++ [Blk.cells x 24 true], e⟩ := by
      rw [storeL_app0]
      simp [storeL, cn, zl24, c1, putCells_all, c2, escOf]
    have htx : x.take 16 = x := List.take_of_length_le (by omega)
    have hl2 : cellsAt (H ++ [Blk.cells x 24 true]) H.length 0 16 = some x := by
      rw [cellsAt_app0]; simp [cellsAt, cn, htx]
    have hm1 : IntKind.i64.wrap (2 * (i : Int)) = 2 * (i : Int) := i64_wrap (by omega)
    have hm2 : IntKind.i64.wrap (2 + 2 * (i : Int)) = 2 + 2 * (i : Int) := i64_wrap (by omega)
    have hm3 : IntKind.i64.wrap (3 + 2 * (i : Int)) = 3 + 2 * (i : Int) := i64_wrap (by omega)
    have hm4 : IntKind.i64.wrap ((i : Int) + 1) = ((i + 1 : Nat) : Int) := by rw [i64_wrap (by omega)]; omega
    have hbd := build40_4 hxt true (2 + 2 * (i : Int)) (3 + 2 * (i : Int))
    have hbs := bsl26_1 hw (H ++ [Blk.cells x 24 true]) e
    have hA1 : ((opsW v rows).take (i + 1)).length = i + 1 := by rw [List.length_take, hlen]; omega
    have hro : RowO 0 (H ++ [Blk.cells x 24 true] ++ [Blk.cells (opc (wrF i x)) 40 true]) (.slice (some ⟨b, 0, none⟩) (i + 1) cap) ((opsW v rows).take (i + 1)) :=
      .inr ⟨b, cap, by omega, by rw [hA1], by rw [hA1]; exact hcap, by rw [List.append_assoc, List.getElem?_append_left (lt_of_get hb)]; exact hb⟩
    have hy : Rd (H ++ [Blk.cells x 24 true] ++ [Blk.cells (opc (wrF i x)) 40 true]) (.slice (some ⟨(H ++ [Blk.cells x 24 true]).length, 0, none⟩) 1 1) 1 (opc (wrF i x)) :=
      .own (bs := opc (wrF i x)) (t := 40) (own := true) (by simp) (by simp) (by simp)
    obtain ⟨H2, happ, h2n, h2k⟩ := app26 (e := e) hro (htk _) hw hy (by omega)
    refine .inr ⟨([.pointer (some ⟨p, 0, none⟩), .slice (some ⟨(H ++ [Blk.cells x 24 true] ++ [Blk.cells (opc (wrF i x)) 40 true]).length, 0, none⟩) (i + 1 + 1) UNK, tSl rows.length rows.flatten, .int .i64 rows.length, .int .i64 ((i + 1 : Nat) : Int)], ⟨H2 ++ [Blk.cells (opsC ((opsW v rows).take (i + 1) ++ [wrF i x])) 40 true], e⟩), ?_, p, _, UNK, ⟨H2 ++ [Blk.cells (opsC ((opsW v rows).take (i + 1) ++ [wrF i x])) 40 true], e⟩, rfl, .inl rfl, ?_, ?_⟩
    · simp only [f4.loop5s, f4.loop5, List.getD_cons_zero, List.getD_cons_succ, bin_lss, Option.bind_some, hi', decide_true, bcase_true, hix, hld, zg24, box_agg za24, store_agg cn, hstb, load_agg, hl2, Option.map_some, bin_mul, bin_add, hm1, hm2, hm3, hbd]
      rw [show (⟨true, x, 2 + 2 * (i : Int), 3 + 2 * (i : Int)⟩ : Rw (List Value)) = wrF i x from rfl, hbs]
      simp only [Option.bind_some]
      rw [happ]
      simp only [bin_add, hm4, Option.bind_some, hA1]
    · have hlt := lt_of_get hp
      rw [List.getElem?_append_left (by rw [h2n]; simp; omega)]
      have hp2 : (H ++ [Blk.cells x 24 true] ++ [Blk.cells (opc (wrF i x)) 40 true])[p]? = some (.cells u 24 true) := by
        rw [List.append_assoc, List.getElem?_append_left hlt]; exact hp
      rcases h2k p with h | ⟨_, cs, h⟩
      · rw [h]; exact hp2
      · rw [hp2] at h; simp at h
    · simp only
      rw [← h2n, opsW_take v rows hx, get_app0]; rfl
  · rintro X ⟨p, b, cap, st, rfl, hcap, hp, hb⟩
    refine ⟨_, ?_, p, b, cap, st, rfl, hp, ?_⟩
    · simp [f4.loop5s, f4.loop5, bin_lss, bcase_if]
    · rw [hb, List.take_of_length_le (by rw [hlen]; omega)]

theorem comp_of_told {l : List (Rw (List Value))} {u : List Value} {b : Bool} {out : Value} (h : Told l u b out) (hd : Dead l (fun _ => false) u) : b = false ∧ out = tSl 0 [] := by
  cases b with
  | true => obtain ⟨r, _, hr⟩ := h.yes rfl; exact absurd hr (hd r)
  | false => exact ⟨rfl, (h.no rfl).1⟩

theorem wrong_ok {u v : List Value} {rows : List (List Value)} (hu : TOk PP 24 u) (hv : TOk PP 24 v) (hr : ∀ r ∈ rows, TOk PP 24 r) :
    saysTrue (acall PP TT 4 [.agg u.toArray, .agg v.toArray, tSl rows.length rows.flatten] []) = true := by
  obtain ⟨u1, u2, u3⟩ := sec_cells hu
  obtain ⟨v1, v2, v3⟩ := sec_cells hv
  have un := sec_len hu
  have vn := sec_len hv
  have htu : u.take 16 = u := List.take_of_length_le (by omega)
  have htv : v.take 16 = v := List.take_of_length_le (by omega)
  have hlu : cellsAt [Blk.cells u 24 true, Blk.cells v 24 true] 0 0 16 = some u := by simp [cellsAt, un, htu]
  have hlv : cellsAt [Blk.cells u 24 true, Blk.cells v 24 true] 1 0 16 = some v := by simp [cellsAt, vn, htv]
  have hrd : Rd [] (tSl rows.length rows.flatten) rows.length rows.flatten := .tree _ _
  have hln := fun st => hrd.len (P := PP) u38 st
  have heq := bin_eql_flat (ox := .tmp 18) (oy := .tmp 19) flat24 hu hv
  rw [acall_eq, f4.eq]
  by_cases hm : (30 : Int) < (rows.length : Int)
  · simp only [f4.sh, box_agg u1, Option.bind_some, List.nil_append, box_agg v1, hln, bin_gtr, hm, decide_true, bcase_true, f4.j0, List.getD_cons_zero, List.getD_cons_succ, f9.eq, List.cons_append]
    exact says_fin
  · by_cases huv : u = v
    · have heq : aBin PP .eql 24 (.tmp 18) (.tmp 19) (.agg u.toArray) (.agg v.toArray) = some (.bool true) := by rw [heq]; simp [huv]
      simp only [f4.sh, box_agg u1, Option.bind_some, List.nil_append, box_agg v1, hln, bin_gtr, hm, decide_false, bcase_false, f4.j0, List.getD_cons_zero, List.getD_cons_succ, List.cons_append, load_agg, List.length_nil, List.length_cons, Nat.zero_add, hlu, hlv, Option.map_some, heq, bcase_true, f9.eq]
      exact says_fin
    · have hm' : rows.length ≤ 30 := by omega
      have hbd := build40_3 hv 0 1
      have hbs := bsl26_1 (rd0_ok hv) [Blk.cells u 24 true, Blk.cells v 24 true] none
      obtain ⟨r, hlp, p, b, cap, ⟨H, e⟩, rfl, hp, hb⟩ := wrong_loop hu hv hr hm' (X := ([.pointer (some ⟨0, 0, none⟩), .slice (some ⟨2, 0, none⟩) 1 1, tSl rows.length rows.flatten, .int .i64 rows.length, .int .i64 0], ⟨[Blk.cells u 24 true, Blk.cells v 24 true] ++ [Blk.cells (opc ⟨false, v, 0, 1⟩) 40 true], none⟩))
        ⟨0, 2, 1, _, rfl, .inr rfl, rfl, by simp [opsW, opsC]⟩
      simp only at hp hb
      have hok := opsW_ok hv hr (by omega)
      have hlen := opsW_len v rows
      have hfz : (jFrz PP 0 [.pointer (some ⟨p, 0, none⟩), .slice (some ⟨b, 0, none⟩) (rows.length + 1) cap] ⟨H, e⟩ true) = ([.pointer (some ⟨p, 0, none⟩), tSl (opsW v rows).length (opsC (opsW v rows))], ⟨H.set b .dead, e⟩) := by
        have h1 := frz_row40 (n0 := 0) (c := cap) (q := 7) hok hb (by omega)
        rw [hlen] at h1
        simp only [jFrz, frzL, frz_noSl 0 8 (.pointer (some ⟨p, 0, none⟩)) H rfl, h1, hlen]
      have hpb : b ≠ p := fun h => by subst h; rw [hp] at hb; simp at hb
      have hpu : (H.set b .dead)[p]? = some (.cells u 24 true) := by rw [List.getElem?_set_ne hpb]; exact hp
      have hl3 : ∀ H' : List Blk, H'[p]? = some (.cells u 24 true) → cellsAt H' p 0 16 = some u := fun H' h => by simp [cellsAt, h, un, htu]
      obtain ⟨b1, o1, H1, e1, hright, hk1, ht1⟩ := right_ok hok (by omega) (H.set b .dead) hu
      obtain ⟨b2, o2, H2, e2, hord, hk2, ht2⟩ := order_ok hok (by omega) H1 hu
      have hdead : Dead (opsW v rows) (fun _ => false) u := wrong_dead (v := v) rfl (fun h => huv h.symm) (fun k x hx => by
        rw [opsW_get] at hx
        obtain ⟨r, _, rfl⟩ := Option.map_eq_some_iff.1 hx
        simp only [wrF]; omega)
      obtain ⟨rfl, rfl⟩ := comp_of_told ht1 hdead
      obtain ⟨rfl, rfl⟩ := comp_of_told ht2 hdead
      have hn31 := fun st => (Rd.tree (H := []) 0 ([] : List Value)).len (P := PP) u31 st
      have hp1 := hk1 p _ _ _ hpu (by decide)
      simp only [f4.sh, box_agg u1, Option.bind_some, List.nil_append, box_agg v1, hln, bin_gtr, hm, decide_false, bcase_false, f4.j0, List.getD_cons_zero, List.getD_cons_succ, List.cons_append, load_agg, List.length_nil, List.length_cons, Nat.zero_add, hlu, hlv, Option.map_some, heq, huv, f4.j1, hbd, Nat.reduceAdd] at hbs ⊢
      rw [hbs]
      simp only [Option.bind_some, hln]
      rw [show (⟨[Blk.cells u 24 true, Blk.cells v 24 true, Blk.cells (opc ⟨false, v, 0, 1⟩) 40 true], none⟩ : AS) = ⟨[Blk.cells u 24 true, Blk.cells v 24 true] ++ [Blk.cells (opc ⟨false, v, 0, 1⟩) 40 true], none⟩ from rfl, hlp]
      simp only [Option.bind_some, if_true, List.getD_cons_zero, List.getD_cons_succ, hfz]
      simp only [f4.j4, load_agg, hl3 _ hpu, Option.map_some, Option.bind_some, hright, ext20, ext21, hl3 _ hp1, hord, bin_eql, decide_true, bcase_true, un_not, Bool.not_false, hn31]
      simp only [Int.natCast_zero, decide_true, bcase_true, f9.eq, Option.bind_some]
      exact says_fin

end Go.Proofs.Ytkinmkjalipbpaa
