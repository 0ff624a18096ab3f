/- A part of the proof: RegOrder. Its conditions: none. -/
import Derived.Test.YtfinilnkempofaaRegBegin
set_option linter.all false
set_option linter.unusedVariables false
set_option linter.unusedSimpArgs false
set_option linter.unnecessarySimpa false
namespace Go.Proofs.Ytfinilnkempofaa
open Go Go.Am Go.Reg

theorem build92b {u : List Value} (hu : TOk PP t_api_Sector u) : aBuild PP t_register_state [(1, .agg u.toArray)] = some (.agg (stc 0 u).toArray) := by
  obtain ⟨u1, _, _⟩ := sec_cells hu
  match u, sec_len hu, u1 with
  | [a0, a1, a2, a3, a4, a5, a6, a7, a8, a9, a10, a11, a12, a13, a14, a15], _, u1 =>
    simp only [allCells_cons, Bool.and_eq_true, allCells_nil] at u1
    obtain ⟨b0, b1, b2, b3, b4, b5, b6, b7, b8, b9, b10, b11, b12, b13, b14, b15, _⟩ := u1
    unfold aBuild
    have hz : zeroP PP t_register_state = some (.agg qz_register_state.toArray) := by kernel_rfl
    rw [hz]
    simp only
    rw [if_pos ⟨show plainL qz_register_state = true by kernel_rfl, by simp [Value.cells, b0, b1, b2, b3, b4, b5, b6, b7, b8, b9, b10, b11, b12, b13, b14, b15]⟩]
    refine Eq.trans (b := some (.agg #[.int .u64 0, a0, a1, a2, a3, a4, a5, a6, a7, a8, a9, a10, a11, a12, a13, a14, a15])) ?_ rfl
    kernel_rfl

theorem rowC_noSl (r : List Nat) : (rowC r).all noSl = true := nums_noSl _
theorem rowC_refs (r : List Nat) : lrefs (rowC r) = [] := nums_refs _

/-- results that are values of their own -/
theorem fin_vals {n0 : Nat} {st : AS} {v v' w : Value} {H2 : List Blk} (hf : frz PP n0 8 v st.H = (v', H2)) (hw : noSl w = true) (hv : vrefs v' = []) (hw2 : vrefs w = []) :
    ∃ H' e, fin PP false n0 [v, w] st = some (.tuple #[v', w], H', e) ∧ ∀ r, r < n0 → H'[r]? = H2[r]? := by
  unfold fin endFrz
  simp only [Bool.false_eq_true, if_false, frzL, hf, frz_noSl n0 8 w H2 hw]
  have := gc_vals n0 [v', w] ⟨H2, st.esc⟩ (by simp [hv, hw2])
  obtain ⟨σ, _, h2, _⟩ := gc_spec n0 [v', w] ⟨H2, st.esc⟩
  rw [this]
  exact ⟨_, _, rfl, fun r hr => (h2 r hr).2⟩

/-- blocks that stay: all but rows of numbers and maps -/
def KeepL (H H' : List Blk) : Prop := ∀ (i : Nat) (cs : List Value) (t : TypeId) (o : Bool), H[i]? = some (.cells cs t o) → t ≠ t_int → H'[i]? = some (.cells cs t o)

theorem KeepL.refl (H : List Blk) : KeepL H H := fun _ _ _ _ h _ => h
theorem KeepL.trans {H H' H'' : List Blk} (h : KeepL H H') (h' : KeepL H' H'') : KeepL H H'' := fun i cs t o hi ht => h' i cs t o (h i cs t o hi ht) ht

/-- a row of the call's own -/
theorem frz_rowq {n0 b c q : Nat} {H : List Blk} {cs : List Value} {r : List Nat} (hb : H[b]? = some (.cells cs t_int true)) (hn : n0 ≤ b) (hc : cs.take r.length = rowC r) (hl : r.length ≤ cs.length) :
    frz PP n0 (q + 1) (.slice (some ⟨b, 0, none⟩) r.length c) H = (tSl r.length (rowC r), H.set b .dead) := by
  have h1 : 0 + r.length * 1 ≤ cs.length := by omega
  simp only [frz, hb, qsz_int]
  rw [if_pos ⟨hn, h1⟩]
  simp only [List.drop_zero, Nat.mul_one, hc]
  rw [frzL_noSl _ _ _ _ (rowC_noSl r)]

theorem frz_row {n0 b c : Nat} {H : List Blk} {cs : List Value} {r : List Nat} (hb : H[b]? = some (.cells cs t_int true)) (hn : n0 ≤ b) (hc : cs.take r.length = rowC r) (hl : r.length ≤ cs.length) :
    frz PP n0 8 (.slice (some ⟨b, 0, none⟩) r.length c) H = (tSl r.length (rowC r), H.set b .dead) := frz_rowq (q := 7) hb hn hc hl

section
variable {l : List (Rw (List Value))}

theorem find_ok (hl : OkOps l) (hm : l.length ≤ 60) {H0 H : List Blk} {hb mb M : Nat} {A : List Nat} {av : Value} (h : Bg H0 (tSl l.length (opsC l)) l l.length l.length H hb mb M A av) {u : List Value} (hu : TOk PP t_api_Sector u) :
    ∃ (b : Bool) (out : Value) (H' : List Blk) (e : Option Nat), acall PP TT n_P_register_hunt_find [.pointer (some ⟨hb, 0, none⟩), .agg u.toArray] H = some (.tuple #[out, .bool b], H', e) ∧ KeepL H H' ∧
      (b = true → ∃ r, out = tSl r.length (rowC r) ∧ Comp l (fun _ => false) u r) ∧ (b = false → out = tSl 0 [] ∧ Dead l (fun _ => false) u) := by
  obtain ⟨u1, u2, qu_int⟩ := sec_cells hu
  have un := sec_len hu
  have htu : u.take 16 = u := List.take_of_length_le (by omega)
  obtain ⟨ab, hab⟩ : ∃ ab, ∀ r ∈ vrefs av, r = ab := by
    rcases h.av with ⟨rfl, _⟩ | ⟨ab, _, rfl, _⟩
    · exact ⟨0, fun r hr => by simp at hr⟩
    · exact ⟨ab, fun r hr => by simpa using hr⟩
  let fv : Value := .func (.func n_P_register_hunt_find_1) #[] #[.pointer (some ⟨H.length, 0, none⟩), .pointer (some ⟨H.length + 2, 0, none⟩), .pointer (some ⟨H.length + 3, 0, none⟩)]
  let L : List Blk := [Blk.cells [.pointer (some ⟨hb, 0, none⟩)] t_P_register_hunt true, Blk.cells u t_api_Sector true, Blk.cells [.slice none 0 0] t_L_int true, Blk.cells [fv] t_Fd15f66 true]
  let p : Pl := { lo := H.length, hb := hb, ab := ab, mb := mb, hc := H.length, rc := H.length + 2, fc := H.length + 3, v := tSl l.length (opsC l), av := av, M := M, A := A }
  have hrdA : Rd H av A.length (sets A) := by
    rcases h.av with ⟨rfl, rfl⟩ | ⟨ab, _, rfl, hg⟩
    · exact .nil
    · exact .own hg (by simp) (by rw [List.drop_zero, List.take_of_length_le (by simp [sets_len])])
  have c : Cx p l := ⟨by simp [p, opsC_refs hl], hl, hm, fun _ => .tree _ _, h.aLen, fun k => by
      rw [show p.M = M from rfl, h.m]
      exact ⟨fun ⟨_, hh⟩ => hh, fun ⟨x, hx, hh⟩ => ⟨lt_of_get hx, x, hx, hh⟩⟩, fun i x hx k => h.a i x (lt_of_get hx) hx k⟩
  have hfx : Fx p (H ++ L) [] [] := by
    refine ⟨⟨?_, hrdA.app, hab, h.mlt, h.alt⟩, fun r hr => ?_, ?_, ?_, ⟨.slice none 0 0, ?_, .inl ⟨rfl, rfl⟩⟩, ⟨[], 0, ?_, .nil, fun e he => by simp at he⟩, fun e he => by simp at he, by simp [p]⟩
    · show (H ++ L)[hb]? = _
      rw [List.getElem?_append_left (lt_of_get h.hbk)]; exact h.hbk
    · rcases h.av with ⟨h1, _⟩ | ⟨ab', _, h1, hg⟩
      · have : p.av = av := rfl
        rw [this, h1] at hr; simp at hr
      · have : p.av = av := rfl
        rw [this, h1] at hr; simp at hr
        subst hr
        exact ⟨_, _, by rw [List.getElem?_append_left (lt_of_get hg)]; exact hg⟩
    · show (H ++ L)[H.length]? = _
      rw [get_app0]; rfl
    · show (H ++ L)[H.length + 3]? = _
      rw [get_app]; rfl
    · show (H ++ L)[H.length + 2]? = _
      rw [get_app]; rfl
    · show (H ++ L)[mb]? = _
      rw [List.getElem?_append_left (lt_of_get h.mbk)]; exact h.mbk
  have hz0 : (0 : Nat).testBit = fun _ => false := by funext k; simp
  have hc0 : cnt l.length (0 : Nat).testBit = 0 := by
    rw [hz0]
    generalize l.length = n
    induction n with
    | zero => rfl
    | succ n ih => simp [cnt, ih]
  obtain ⟨b, H', e, row', T', hcall, hkeep, hfx', htell⟩ := from_ok c (l.length + 1) (H ++ L) 0 u [] [] hfx (by decide) hu (by simp) (by omega) (fun e he => by simp at he)
  obtain ⟨rv, hrc, hrv⟩ := hfx'.rc
  have hcall' : acall PP TT n_P_register_hunt_find_1 [.agg (stc 0 u).toArray, .pointer (some ⟨H.length, 0, none⟩), .pointer (some ⟨H.length + 2, 0, none⟩), .pointer (some ⟨H.length + 3, 0, none⟩)] (H ++ L) = some (.bool b, H', e) := hcall
  have hkl : ∀ H3 : List Blk, (∀ r, r < H.length → H3[r]? = H'[r]?) → KeepL H H3 := fun H3 h3 i cs t o hi ht => by
    have hlt := lt_of_get hi
    rw [h3 i hlt]
    exact hkeep.low.2 i cs t o hi ht (by simp only [p]; omega)
  have hst : aStore 1 ⟨H ++ [Blk.cells [.pointer (some ⟨hb, 0, none⟩)] t_P_register_hunt true, Blk.cells u t_api_Sector true, Blk.cells [.slice none 0 0] t_L_int true, Blk.cells [.nilFunc] t_Fd15f66 true], none⟩ (.pointer (some ⟨H.length + 3, 0, none⟩)) fv = some ⟨H ++ L, none⟩ := by
    show storeL _ _ _ [fv] = _
    rw [storeL_app]
    simp [storeL, putCells, L, fv, lrefs, vrefs, arefs, escOf, cellV]
    omega
  have hlf : cellAt (H ++ L) (H.length + 3) 0 = some fv := by rw [cellAt_app]; rfl
  have hlu : cellsAt (H ++ L) (H.length + 1) 0 16 = some u := by
    rw [cellsAt_app]
    simp [cellsAt, L, un, htu]
  have hlr : cellAt H' (H.length + 2) 0 = some rv := by
    have : H'[H.length + 2]? = some (.cells [rv] t_L_int true) := hrc
    simp [cellAt, this]
  have hstart : ∀ (K : Option (Value × List Blk × Option Nat)), (P_register_hunt_find.sh (acall PP TT) loopG H.length (.pointer (some ⟨hb, 0, none⟩)) (.agg u.toArray) ⟨H, none⟩ = K) ↔ (bcase (.bool (!b)) (fin PP false H.length [.slice none 0 0, .bool false] ⟨H', joinEsc none e⟩) ((aLoad false 1 ⟨H', joinEsc none e⟩ (.pointer (some ⟨H.length + 2, 0, none⟩))).bind fun x12 => fin PP false H.length [x12, .bool true] ⟨H', joinEsc none e⟩) = K) := by
    intro K
    simp only [P_register_hunt_find.sh, box_ptr, box_agg u1, Option.bind_some, qzg_L_int, qzg_Fd15f66, box_slice, box_nilFunc, List.append_assoc, List.cons_append, List.nil_append, List.length_append, List.length_cons, List.length_nil, Nat.zero_add, Nat.reduceAdd]
    rw [show (Value.func (.func n_P_register_hunt_find_1) #[] #[.pointer (some ⟨H.length, 0, none⟩), .pointer (some ⟨H.length + 2, 0, none⟩), .pointer (some ⟨H.length + 3, 0, none⟩)]) = fv from rfl, hst]
    simp only [Option.bind_some, load_one, load_agg, hlf, hlu, Option.map_some, build92b hu, fv, fn42, hcall', un_not]
  cases b with
  | true =>
    obtain ⟨r, hr1, hr2⟩ := htell.found rfl
    simp only [List.nil_append] at hr1
    subst hr1
    rcases hrv with ⟨rfl, rfl⟩ | ⟨b', cs', rfl, hb', htk, hle, hlo⟩
    · obtain ⟨H3, e3, hf, h3⟩ := fin_vals (n0 := H.length) (st := ⟨H', joinEsc none e⟩) (v := .slice none 0 0) (v' := tSl 0 []) (w := .bool true) (H2 := H') rfl rfl rfl rfl
      refine ⟨true, _, H3, e3, ?_, hkl _ h3, fun _ => ⟨[], rfl, by rw [← hz0]; exact hr2⟩, by simp⟩
      rw [acall_eq, P_register_hunt_find.eq, hstart]
      simp only [Bool.not_true, bcase_false, load_one, hlr, Option.bind_some]
      exact hf
    · obtain ⟨H3, e3, hf, h3⟩ := fin_vals (n0 := H.length) (st := ⟨H', joinEsc none e⟩) (w := .bool true) (frz_row (c := UNK) hb' hlo htk hle) rfl (by simp [rowC_refs]) rfl
      refine ⟨true, _, H3, e3, ?_, hkl _ (fun r hr => by rw [h3 r hr, List.getElem?_set_ne]; have : H.length ≤ b' := hlo; omega), fun _ => ⟨row', rfl, by rw [← hz0]; exact hr2⟩, by simp⟩
      rw [acall_eq, P_register_hunt_find.eq, hstart]
      simp only [Bool.not_true, bcase_false, load_one, hlr, Option.bind_some]
      exact hf
  | false =>
    obtain ⟨_, hd, _⟩ := htell.not rfl
    obtain ⟨H3, e3, hf, h3⟩ := fin_vals (n0 := H.length) (st := ⟨H', joinEsc none e⟩) (v := .slice none 0 0) (v' := tSl 0 []) (w := .bool false) (H2 := H') rfl rfl rfl rfl
    refine ⟨false, _, H3, e3, ?_, hkl _ h3, by simp, fun _ => ⟨rfl, by rw [← hz0]; exact hd⟩⟩
    rw [acall_eq, P_register_hunt_find.eq, hstart]
    simp only [Bool.not_false, bcase_true]
    exact hf

/-- what is told of a row: it is complete; of none: there is none -/
structure Told (l : List (Rw (List Value))) (u : List Value) (b : Bool) (out : Value) : Prop where
  yes : b = true → ∃ r, out = tSl r.length (rowC r) ∧ Comp l (fun _ => false) u r
  no : b = false → out = tSl 0 [] ∧ Dead l (fun _ => false) u

theorem sec_lit {u : List Value} (hu : TOk PP t_api_Sector u) : u.all lit = true := by
  obtain ⟨ps, rfl, hl, hp⟩ := hu.array_inv qu_api_Sector
  have qu_uint8 : PP.underlying t_uint8 = some (.int .u8) := by kernel_rfl
  clear hl hu
  induction ps with
  | nil => rfl
  | cons p ps ih =>
    have := ih (fun x hx => hp x (by simp [hx]))
    obtain ⟨n, rfl, _⟩ := (hp p (by simp)).int_inv qu_uint8
    simp [this, lit]

theorem order_ok (hl : OkOps l) (hm : l.length ≤ 60) (H : List Blk) {u : List Value} (hu : TOk PP t_api_Sector u) :
    ∃ (b : Bool) (out : Value) (H' : List Blk) (e : Option Nat), acall PP TT n_register_Order [tSl l.length (opsC l), .agg u.toArray] H = some (.tuple #[out, .bool b], H', e) ∧ KeepL H H' ∧ Told l u b out := by
  obtain ⟨u1, u2, qu_int⟩ := sec_cells hu
  have un := sec_len hu
  have htu : u.take 16 = u := List.take_of_length_le (by omega)
  obtain ⟨H2, e2, hb, mb, M, A, av, hbeg, hbg⟩ := begin_ok hl hm (H ++ [Blk.cells u t_api_Sector true])
  obtain ⟨b, out, H3, e3, hfind, hk, hyes, hno⟩ := find_ok hl hm hbg hu
  have hpre : H2[H.length]? = some (.cells u t_api_Sector true) := by
    rw [hbg.pre H.length (by simp), get_app0]; rfl
  have hlu : cellsAt H2 H.length 0 16 = some u := by simp [cellsAt, hpre, un, htu]
  have hlu1 : cellsAt (H ++ [Blk.cells u t_api_Sector true]) H.length 0 16 = some u := by
    rw [cellsAt_app0]; simp [cellsAt, un, htu]
  have hv : frz PP H.length 8 out H3 = (out, H3) ∧ vrefs out = [] := by
    cases b with
    | true => obtain ⟨r, rfl, _⟩ := hyes rfl; exact ⟨rfl, by simp [rowC_refs]⟩
    | false => obtain ⟨rfl, _⟩ := hno rfl; exact ⟨rfl, rfl⟩
  obtain ⟨H4, e4, hfin, h4⟩ := fin_vals (n0 := H.length) (st := ⟨H3, joinEsc (joinEsc none e2) e3⟩) (w := .bool b) hv.1 rfl hv.2 rfl
  refine ⟨b, out, H4, e4, ?_, fun i cs t o hi ht => ?_, hyes, hno⟩
  · rw [acall_eq, register_Order.eq, register_Order.sh]
    have hlt : ¬ (60 : Int) < (l.length : Int) := by omega
    simp only [box_agg u1, Option.bind_some, (Rd.tree (H := H) l.length (opsC l)).len qu_L_history_Op, bin_gtr, hlt, decide_false, bcase_false, load_agg, hlu1, hlu, Option.map_some, hbeg, veq_agg u (sec_lit hu), hfind, ext20, ext21, beq_self_eq_true, Bool.and_self, if_true]
    exact hfin
  · have hlt := lt_of_get hi
    rw [h4 i hlt]
    refine hk i cs t o ?_ ht
    rw [hbg.pre i (by simp; omega), List.getElem?_append_left hlt]
    exact hi

theorem right_ok (hl : OkOps l) (hm : l.length ≤ 60) (H : List Blk) {u : List Value} (hu : TOk PP t_api_Sector u) :
    ∃ (b : Bool) (out : Value) (H' : List Blk) (e : Option Nat), acall PP TT n_register_Right [tSl l.length (opsC l), .agg u.toArray] H = some (.tuple #[.bool b, .int .i64 0], H', e) ∧ KeepL H H' ∧ Told l u b out := by
  obtain ⟨u1, u2, qu_int⟩ := sec_cells hu
  have un := sec_len hu
  have htu : u.take 16 = u := List.take_of_length_le (by omega)
  obtain ⟨b, out, H2, e2, hord, hk, htold⟩ := order_ok hl hm (H ++ [Blk.cells u t_api_Sector true]) hu
  have hlu1 : cellsAt (H ++ [Blk.cells u t_api_Sector true]) H.length 0 16 = some u := by
    rw [cellsAt_app0]; simp [cellsAt, un, htu]
  obtain ⟨H4, e4, hfin, h4⟩ := fin_vals (n0 := H.length) (st := ⟨H2, joinEsc none e2⟩) (v := .bool b) (w := .int .i64 0) (frz_noSl _ _ _ _ rfl) rfl rfl rfl
  refine ⟨b, out, H4, e4, ?_, fun i cs t o hi ht => ?_, htold⟩
  · rw [acall_eq, register_Right.eq, register_Right.sh]
    have hlt : ¬ (60 : Int) < (l.length : Int) := by omega
    simp only [box_agg u1, Option.bind_some, (Rd.tree (H := H) l.length (opsC l)).len qu_L_history_Op, bin_gtr, hlt, decide_false, bcase_false, load_agg, hlu1, Option.map_some, hord, ext20, ext21]
    exact hfin
  · have hlt := lt_of_get hi
    rw [h4 i hlt]
    refine hk i cs t o ?_ ht
    rw [List.getElem?_append_left hlt]
    exact hi

end

end Go.Proofs.Ytfinilnkempofaa
