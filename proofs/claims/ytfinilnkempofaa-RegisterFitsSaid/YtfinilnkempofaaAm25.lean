/- What is struck, reckoned by relative numbers; rows of encoded elements; the end of a call. -/
import Derived.Test.YtfinilnkempofaaAm24
set_option linter.all false
set_option linter.unusedVariables false
set_option linter.unusedSimpArgs false
set_option linter.unnecessarySimpa false
namespace Go.Am

/-! ### What is led to, by relative numbers -/

def reachR (R : List (List Nat)) : Nat → List Nat → List Nat → Option (List Nat)
  | _, [], acc => some acc
  | 0, _ :: _, _ => none
  | k + 1, r :: rs, acc => if acc.contains r = true then reachR R k rs acc else reachR R k (R.getD r [] ++ rs) (acc ++ [r])

theorem reachR_spec {R : List (List Nat)} : ∀ (k : Nat) (rs acc ks : List Nat), reachR R k rs acc = some ks → (∀ r ∈ acc, r ∈ ks) ∧ (∀ r ∈ rs, r ∈ ks) ∧ ∀ j ∈ ks, j ∉ acc → ∀ r ∈ R.getD j [], r ∈ ks
  | 0, [], acc, ks, h => by simp [reachR] at h; subst h; exact ⟨fun _ h => h, fun _ h => by simp at h, fun j h hn => absurd h hn⟩
  | 0, _ :: _, acc, ks, h => by simp [reachR] at h
  | k + 1, [], acc, ks, h => by simp [reachR] at h; subst h; exact ⟨fun _ h => h, fun _ h => by simp at h, fun j h hn => absurd h hn⟩
  | k + 1, r :: rs, acc, ks, h => by
    simp only [reachR] at h
    split at h
    · rename_i hc
      obtain ⟨h1, h2, h3⟩ := reachR_spec k rs acc ks h
      refine ⟨h1, fun x hx => ?_, h3⟩
      rcases List.mem_cons.1 hx with rfl | hx
      · exact h1 _ (by simpa using hc)
      · exact h2 x hx
    · obtain ⟨h1, h2, h3⟩ := reachR_spec k _ _ ks h
      refine ⟨fun x hx => h1 x (by simp [hx]), fun x hx => ?_, fun j hj hn x hx => ?_⟩
      · rcases List.mem_cons.1 hx with rfl | hx
        · exact h1 _ (by simp)
        · exact h2 x (by simp [hx])
      · by_cases hjr : j = r
        · subst hjr; exact h2 x (by simp only [List.mem_append]; exact .inl hx)
        · exact h3 j hj (by simp [hn, hjr]) x hx

section
variable {P : Program} {H0 l : List Blk} {vs : List Value} {e : Option Nat}

theorem contains_rel (n r : Nat) (acc : List Nat) : (acc.map (n + ·)).contains (n + r) = acc.contains r := by
  induction acc with
  | nil => rfl
  | cons x xs ih =>
    simp only [List.map_cons, List.contains_cons, ih]
    congr 1
    by_cases h : r = x
    · subst h; simp
    · have : ¬ n + r = n + x := by omega
      rw [show (n + r == n + x) = false from beq_eq_false_iff_ne.2 this, show (r == x) = false from beq_eq_false_iff_ne.2 h]

theorem reach_refs (H : List Blk) (n fuel r : Nat) (rs acc : List Nat) (hr : n ≤ r) : reach H n (fuel + 1) (r :: rs) acc = if acc.contains r = true then reach H n fuel rs acc else reach H n fuel (blkRefs (H.getD r .dead) ++ rs) (acc ++ [r]) := by
  simp only [reach]
  rw [if_neg (by omega)]
  split
  · rfl
  · congr 2
    cases hb : H[r]? with
    | none => simp [List.getD, hb, blkRefs]
    | some b => cases b <;> simp [List.getD, hb, blkRefs]

theorem reach_rel {R : List (List Nat)} (hR : l.map blkRefs = R.map (List.map (H0.length + ·))) : ∀ (k fuel : Nat) (rs acc ks : List Nat), reachR R k rs acc = some ks → k ≤ fuel →
    reach (H0 ++ l) H0.length fuel (rs.map (H0.length + ·)) (acc.map (H0.length + ·)) = ks.map (H0.length + ·)
  | k, fuel, [], acc, ks, h, _ => by
    have : acc = ks := by cases k <;> simpa [reachR] using h
    subst this
    cases fuel <;> rfl
  | 0, fuel, _ :: _, acc, ks, h, _ => by simp [reachR] at h
  | k + 1, 0, r :: rs, acc, ks, h, hf => by omega
  | k + 1, fuel + 1, r :: rs, acc, ks, h, hf => by
    simp only [reachR] at h
    rw [List.map_cons, reach_refs _ _ _ _ _ _ (by omega), contains_rel]
    have hb : blkRefs ((H0 ++ l).getD (H0.length + r) .dead) = (R.getD r []).map (H0.length + ·) := by
      have h1 : (H0 ++ l)[H0.length + r]? = l[r]? := get_app r
      have h2 := congrArg (fun x => x[r]?) hR
      simp only [List.getElem?_map] at h2
      simp only [List.getD, h1]
      cases hl : l[r]? with
      | none =>
        rw [hl] at h2
        cases hq : R[r]? with
        | none => rfl
        | some q => rw [hq] at h2; simp at h2
      | some b =>
        rw [hl] at h2
        simp only [Option.map_some] at h2
        cases hq : R[r]? with
        | none => rw [hq] at h2; simp at h2
        | some q => rw [hq] at h2; simp at h2; simp [h2]
    split at h
    · rename_i hc
      rw [if_pos hc]
      exact reach_rel hR k fuel rs acc ks h (by omega)
    · rename_i hc
      rw [if_neg hc, hb, ← List.map_append, show acc.map (H0.length + ·) ++ [H0.length + r] = (acc ++ [r]).map (H0.length + ·) by simp]
      exact reach_rel hR k fuel _ _ ks h (by omega)

theorem findIx_rel (n j : Nat) : ∀ (ks : List Nat) (i : Nat), findIx (n + j) (ks.map (n + ·)) i = findIx j ks i
  | [], _ => rfl
  | x :: xs, i => by
    simp only [List.map_cons, findIx, findIx_rel n j xs]
    by_cases h : x = j
    · simp [h]
    · have : ¬ n + x = n + j := by omega
      simp [h]

theorem renum_rel (n j : Nat) (ks : List Nat) : renum n (ks.map (n + ·)) (n + j) = n + (findIx j ks 0).getD j := by
  have : ¬ n + j < n := by omega
  simp only [renum, this, if_false, findIx_rel]
  cases findIx j ks 0 <;> rfl
theorem renum_rel0 (n : Nat) (ks : List Nat) : renum n (ks.map (n + ·)) n = n + (findIx 0 ks 0).getD 0 := renum_rel n 0 ks
theorem renum_old {n r : Nat} (ks : List Nat) (h : r < n) : renum n ks r = r := by simp [renum, h]

/-- new names -/
def rn (n : Nat) (ks : List Nat) : Nat → Nat := renum n (ks.map (n + ·))
theorem rn_own (n j : Nat) (ks : List Nat) : rn n ks (n + j) = n + (findIx j ks 0).getD j := renum_rel n j ks
theorem rn_own0 (n : Nat) (ks : List Nat) : rn n ks n = n + (findIx 0 ks 0).getD 0 := renum_rel n 0 ks
theorem lren_none {σ : Nat → Nat} {cs : List Value} (h : lrefs cs = []) : lren σ cs = cs := lren_same cs (fun b hb => by rw [h] at hb; simp at hb)
theorem vren_none {σ : Nat → Nat} {v : Value} (h : vrefs v = []) : vren σ v = v := vren_same v (fun b hb => by rw [h] at hb; simp at hb)

/-- what is struck, to the letter: R: what each block of one's own names, rs: what the values name, ks: what stays, in its order -/
theorem gc_own (R : List (List Nat)) (rs ks : List Nat) (hk : reachR R 64 rs [] = some ks) (he : escOk H0.length e = true) (hvs : lrefs vs = rs.map (H0.length + ·)) (hR : l.map blkRefs = R.map (List.map (H0.length + ·)))
    {vs' : List Value} {l' : List Blk} (h1 : lren (rn H0.length ks) vs = vs') (h2 : (ks.map fun j => renBlk (rn H0.length ks) (l.getD j .dead)) = l') :
    gc H0.length vs ⟨H0 ++ l, e⟩ = (vs', ⟨H0 ++ l', none⟩) := by
  subst h1 h2
  obtain ⟨_, g2, g3⟩ := reachR_spec 64 rs [] ks hk
  unfold gc
  simp only [he, if_true]
  have hrch := reach_rel (H0 := H0) hR 64 ((H0 ++ l).length * 64 + 4096) rs [] ks hk (by omega)
  simp only [List.map_nil] at hrch
  rw [hvs, hrch]
  have hget : ∀ j, (H0 ++ l).getD (H0.length + j) .dead = l.getD j .dead := fun j => by simp only [List.getD, get_app]
  have hnew : ((ks.map (H0.length + ·)).map fun r => (H0 ++ l).getD r .dead) = ks.map fun j => l.getD j .dead := by
    simp only [List.map_map, Function.comp_def, hget]
  have c1 : closed H0.length (ks.map (H0.length + ·)) (rs.map (H0.length + ·)) = true := by
    unfold closed
    rw [List.all_eq_true]
    intro r hr
    obtain ⟨j, hj, rfl⟩ := List.mem_map.1 hr
    rw [contains_rel]
    simp [g2 j hj]
  have c2 : ((ks.map fun j => l.getD j .dead).all fun b => closed H0.length (ks.map (H0.length + ·)) (blkRefs b)) = true := by
    rw [List.all_eq_true]
    intro b hb
    obtain ⟨j, hj, rfl⟩ := List.mem_map.1 hb
    have hb : blkRefs (l.getD j .dead) = (R.getD j []).map (H0.length + ·) := by
      have h2 := congrArg (fun x => x[j]?) hR
      simp only [List.getElem?_map] at h2
      simp only [List.getD]
      cases hl : l[j]? with
      | none =>
        rw [hl] at h2
        cases hq : R[j]? with
        | none => rfl
        | some q => rw [hq] at h2; simp at h2
      | some b =>
        rw [hl] at h2
        simp only [Option.map_some] at h2
        cases hq : R[j]? with
        | none => rw [hq] at h2; simp at h2
        | some q => rw [hq] at h2; simp at h2; simp [h2]
    rw [hb]
    unfold closed
    rw [List.all_eq_true]
    intro r hr
    obtain ⟨i, hi, rfl⟩ := List.mem_map.1 hr
    rw [contains_rel]
    simp [g3 j hj (by simp) i hi]
  rw [hnew, if_pos ⟨c1, c2, by simp⟩]
  simp [rn, List.map_map, Function.comp_def]

/-! ### The end of a call -/

theorem escOk_none {n : Nat} : escOk n none = true := rfl

/-- what is told of a call whose results name nothing that it made -/
theorem gc_clean (hr : lrefs vs = []) (he : escOk H0.length e = true) : gc H0.length vs ⟨H0 ++ l, e⟩ = (vs, ⟨H0, none⟩) := by
  unfold gc
  simp only [he, if_true]
  have h0 : reach (H0 ++ l) H0.length ((H0 ++ l).length * 64 + 4096) (lrefs vs) [] = [] := reach_low _ _ _ _ _ (fun r hr' => by rw [hr] at hr'; simp at hr')
  rw [h0]
  have h1 : closed H0.length [] (lrefs vs) = true := by rw [hr]; rfl
  have hle : H0.length ≤ (H0 ++ l).length := by simp
  simp only [h1, List.map_nil, List.all_nil, true_and, hle, if_true, List.append_nil]
  rw [lren_none hr]
  simp

theorem fin_of {vs' : List Value} {l' : List Blk} (hf : frzL (frz P H0.length 8) vs (H0 ++ l) = (vs', H0 ++ l')) (hr : lrefs vs' = []) (he : escOk H0.length e = true) :
    fin P false H0.length vs ⟨H0 ++ l, e⟩ = some (oneOf vs', H0, none) := by
  unfold fin endFrz
  simp only [Bool.false_eq_true, if_false, hf, gc_clean hr he, escBelow]

theorem fin_lit {vs : List Value} (hf : vs.all flatV = true) (hr : lrefs vs = []) (he : escOk H0.length e = true) : fin P false H0.length vs ⟨H0 ++ l, e⟩ = some (oneOf vs, H0, none) :=
  fin_of (frzL_flatV _ _ _ _ hf) hr he
theorem fin_lit0 {vs : List Value} (hf : vs.all flatV = true) (hr : lrefs vs = []) : fin P false H0.length vs ⟨H0, none⟩ = some (oneOf vs, H0, none) := fin_flat' hf hr

/-- a row of one's own that is told -/
theorem frz_own {k q n c sz : Nat} {cs : List Value} {t : TypeId} (hk : l[k]? = some (.cells cs t true)) (hs : sizeP P t = some sz) (hn : cs.length = n * sz) (hc : cs.all noSl = true) :
    frz P H0.length (q + 1) (.slice (some ⟨H0.length + k, 0, none⟩) n c) (H0 ++ l) = (tSl n cs, H0 ++ l.set k .dead) := by
  rw [frz_new hk hs (by omega) hc, ← hn, List.take_length]
theorem frz_own0 {q n c sz : Nat} {cs : List Value} {t : TypeId} (hk : l[0]? = some (.cells cs t true)) (hs : sizeP P t = some sz) (hn : cs.length = n * sz) (hc : cs.all noSl = true) :
    frz P H0.length (q + 1) (.slice (some ⟨H0.length, 0, none⟩) n c) (H0 ++ l) = (tSl n cs, H0 ++ l.set 0 .dead) := frz_own (k := 0) hk hs hn hc
theorem frz_nil {n0 q : Nat} {H : List Blk} : frz P n0 (q + 1) (.slice none 0 0) H = (tSl 0 [], H) := by simp [frz]

/-! ### RowsOf of elements -/

/-- elements of so many cells each, that name nothing -/
structure RowsOf (sz : Nat) (rows : List (List Value)) : Prop where
  len : ∀ r ∈ rows, r.length = sz
  refs : ∀ r ∈ rows, lrefs r = []
  cells : ∀ r ∈ rows, r.all cellV = true
  flat : ∀ r ∈ rows, r.all noSl = true

theorem RowsOf.nil {sz : Nat} : RowsOf sz [] := ⟨fun _ h => by simp at h, fun _ h => by simp at h, fun _ h => by simp at h, fun _ h => by simp at h⟩
theorem RowsOf.snoc {sz : Nat} {rows : List (List Value)} (h : RowsOf sz rows) {r : List Value} (h1 : r.length = sz) (h2 : lrefs r = []) (h3 : r.all cellV = true) (h4 : r.all noSl = true) : RowsOf sz (rows ++ [r]) := by
  have key : ∀ x, x ∈ rows ++ [r] → x ∈ rows ∨ x = r := fun x hx => by simpa using hx
  exact ⟨fun x hx => (key x hx).elim (h.len x) (fun e => e ▸ h1), fun x hx => (key x hx).elim (h.refs x) (fun e => e ▸ h2), fun x hx => (key x hx).elim (h.cells x) (fun e => e ▸ h3), fun x hx => (key x hx).elim (h.flat x) (fun e => e ▸ h4)⟩
theorem RowsOf.frefs {sz : Nat} {rows : List (List Value)} (h : RowsOf sz rows) : lrefs rows.flatten = [] := by
  have : ∀ rs : List (List Value), (∀ r ∈ rs, lrefs r = []) → lrefs rs.flatten = [] := by
    intro rs
    induction rs with
    | nil => intro _; rfl
    | cons x xs ih => intro hx; simp only [List.flatten_cons, lrefs_app, hx x (by simp), ih (fun r hr => hx r (by simp [hr])), List.append_nil]
  exact this rows h.refs
theorem RowsOf.fall {sz : Nat} {rows : List (List Value)} (p : Value → Bool) (h : ∀ r ∈ rows, r.all p = true) : rows.flatten.all p = true := by
  induction rows with
  | nil => rfl
  | cons x xs ih => simp only [List.flatten_cons, List.all_append, h x (by simp), ih (fun r hr => h r (by simp [hr])), Bool.and_self]
theorem RowsOf.fcells {sz : Nat} {rows : List (List Value)} (h : RowsOf sz rows) : rows.flatten.all cellV = true := RowsOf.fall (sz := sz) _ h.cells
theorem RowsOf.fflat {sz : Nat} {rows : List (List Value)} (h : RowsOf sz rows) : rows.flatten.all noSl = true := RowsOf.fall (sz := sz) _ h.flat
theorem RowsOf.flen {sz : Nat} {rows : List (List Value)} (h : RowsOf sz rows) : rows.flatten.length = rows.length * sz := by
  have : ∀ rs : List (List Value), (∀ r ∈ rs, r.length = sz) → rs.flatten.length = rs.length * sz := by
    intro rs
    induction rs with
    | nil => intro _; simp
    | cons x xs ih =>
      intro hx
      simp only [List.flatten_cons, List.length_append, hx x (by simp), ih (fun r hr => hx r (by simp [hr])), List.length_cons, Nat.succ_mul]
      omega
  exact this rows h.len
theorem RowsOf.get {sz : Nat} {rows : List (List Value)} (h : RowsOf sz rows) {k : Nat} {r : List Value} (hr : rows[k]? = some r) : r.length = sz ∧ lrefs r = [] ∧ r.all cellV = true ∧ r.all noSl = true :=
  have hm := List.mem_of_getElem? hr
  ⟨h.len r hm, h.refs r hm, h.cells r hm, h.flat r hm⟩

theorem tsl_index {t elem : TypeId} {n sz k : Nat} {j : IntKind} {row : List Value} (hu : P.underlying t = some (.slice elem)) (hs : sizeP P elem = some sz) (hk : k < n) :
    aIndexAddr P t (tSl n row) (.int j (k : Int)) = some (tPtr (k * sz) row.toArray) := by
  show aIndexAddr P t (.iface n (.tuple row.toArray)) _ = _
  simp only [aIndexAddr, hu, hs, tIndex]
  rw [if_pos ⟨by omega, by omega⟩]
  simp

theorem tptr_load {sz k : Nat} {rows : List (List Value)} {r : List Value} {st : AS} (h : RowsOf sz rows) (hr : rows[k]? = some r) : aLoad true sz st (tPtr (k * sz) rows.flatten.toArray) = some (.agg r.toArray) := by
  show tLoad true sz (k * sz) rows.flatten.toArray = _
  have hk := lt_of_get hr
  have hl := h.flen
  have hm : (k + 1) * sz ≤ rows.length * sz := Nat.mul_le_mul_right _ hk
  rw [Nat.succ_mul] at hm
  simp only [tLoad, if_true]
  rw [if_pos (by rw [List.size_toArray]; omega), chunk_get rows h.len k r hr]

theorem tptr_get {sz k off : Nat} {rows : List (List Value)} {r : List Value} {v : Value} {st : AS} {n : Nat} (h : RowsOf sz rows) (hr : rows[k]? = some r) (hv : r[off]? = some v) : aLoad false n st (tPtr (k * sz + off) rows.flatten.toArray) = some v := by
  show tLoad false n (k * sz + off) rows.flatten.toArray = _
  simp only [tLoad, Bool.false_eq_true, if_false]
  have h1 := chunk_get rows h.len k r hr
  have hlt := lt_of_get hv
  have hln := (h.get hr).1
  rw [← h1, List.getElem?_take, if_pos (by omega), List.getElem?_drop] at hv
  simpa using hv

theorem tsl_len {t elem : TypeId} {n : Nat} {row : List Value} {st : AS} (hu : P.underlying t = some (.slice elem)) : aLen P t (tSl n row) st = some (.int .i64 n) := by
  show aLen P t (.iface n (.tuple row.toArray)) st = _
  simp only [aLen, hu]; rfl
theorem sl_len {t elem : TypeId} {n c : Nat} {a : Option Addr} {st : AS} (hu : P.underlying t = some (.slice elem)) : aLen P t (.slice a n c) st = some (.int .i64 n) := by
  simp only [aLen, hu]

/-! ### A row that grows -/

/-- the row as it stands among a call's own blocks, from place 'at' on -/
def rowV (n0 at_ n : Nat) : Value := if n = 0 then .slice none 0 0 else .slice (some ⟨n0 + at_, 0, none⟩) n UNK
def rowB (t : TypeId) (rows : List (List Value)) : List Blk := if rows.length = 0 then [] else [.cells rows.flatten t true]

/-- what an element's type is asked for -/
structure ElemT (P : Program) (t elem : TypeId) (sz : Nat) : Prop where
  u : P.underlying t = some (.slice elem)
  s : sizeP P elem = some sz
  pos : 0 < sz
  z : ∃ z b, zeroP P elem = some z ∧ z.cells.size = sz ∧ bytesP P elem = some b ∧ 0 < b ∧ b ≤ 1048576

/-- the cells that are handed to an append -/
theorem src_own {sz k n c : Nat} {cs : List Value} {t : TypeId} {b : Bool} (hk : l[k]? = some (.cells cs t b)) (hn : cs.length = n * sz) : srcCells sz (H0 ++ l) (.slice (some ⟨H0.length + k, 0, none⟩) n c) = some (n, cs) := by
  simp only [srcCells, cellsAt_app]
  simp only [cellsAt, hk]
  rw [if_pos (by omega), ← hn]
  simp

/-- the first ones -/
theorem app_nil {t elem : TypeId} {sz n : Nat} {y : Value} {cs : List Value} {st : AS} {R : Type} {k : Value → AS → Option R} (ht : ElemT P t elem sz) (hy : srcCells sz st.H y = some (n, cs)) (hn : 0 < n) (hm : n ≤ 65536) :
    eBuiltin P .append #[t, t] [.slice none 0 0, y] st k = k (.slice (some ⟨st.H.length, 0, none⟩) n UNK) ⟨st.H ++ [.cells cs elem true], st.esc⟩ := by
  obtain ⟨z, b, hz, hzs, hb, hb0, hb1⟩ := ht.z
  have hle : n * b ≤ 140737488355328 := by
    have : n * b ≤ 65536 * 1048576 := Nat.mul_le_mul hm hb1
    omega
  have hp := ht.pos
  have hpz : sz ≠ 0 := by omega
  have hbz : b ≠ 0 := by omega
  have hnz : n ≠ 0 := by omega
  simp only [eBuiltin, aAppend, ht.u, ht.s, hb, hz, Option.getD_some, hy]
  simp [hzs, hpz, hbz, hnz, hle, aRow, newBlk]

/-- more of them -/
theorem app_more {t elem : TypeId} {sz n m : Nat} {y : Value} {old cs : List Value} {st : AS} {bk : Nat} {R : Type} {k : Value → AS → Option R} (ht : ElemT P t elem sz) (hb : st.H[bk]? = some (.cells old elem true)) (hl : old.length = m * sz) (hy : srcCells sz st.H y = some (n, cs)) (hn : 0 < n) (hm : m + n ≤ 65536) :
    eBuiltin P .append #[t, t] [.slice (some ⟨bk, 0, none⟩) m UNK, y] st k = k (.slice (some ⟨st.H.length, 0, none⟩) (m + n) UNK) ⟨st.H.set bk .dead ++ [.cells (old ++ cs) elem true], st.esc⟩ := by
  obtain ⟨z, b, hz, hzs, hb', hb0, hb1⟩ := ht.z
  have hle : (m + n) * b ≤ 140737488355328 := by
    have : (m + n) * b ≤ 65536 * 1048576 := Nat.mul_le_mul hm hb1
    omega
  have hp := ht.pos
  have hpz : sz ≠ 0 := by omega
  have hbz : b ≠ 0 := by omega
  have hnz : n ≠ 0 := by omega
  have htk : old.take (m * sz) = old := List.take_of_length_le (by omega)
  have hol : m * sz ≤ old.length := by omega
  simp only [eBuiltin, aAppend, ht.u, ht.s, hb', hz, Option.getD_some, hy]
  simp [hzs, hpz, hbz, hnz, hle, aRow, newBlk, hb, htk, hol]

/-! ### Blocks of one's own, by their places -/

theorem cellAt_z {cs : List Value} {t : TypeId} {o : Bool} {off : Nat} : cellAt (.cells cs t o :: l) 0 off = cs[off]? := rfl
theorem cellAt_s {b : Blk} {k off : Nat} : cellAt (b :: l) (k + 1) off = cellAt l k off := rfl
theorem cellsAt_z {cs : List Value} {t : TypeId} {o : Bool} {off n : Nat} : cellsAt (.cells cs t o :: l) 0 off n = if off + n ≤ cs.length then some ((cs.drop off).take n) else none := rfl
theorem cellsAt_s {b : Blk} {k off n : Nat} : cellsAt (b :: l) (k + 1) off n = cellsAt l k off n := rfl

/-- cells are stored, by places -/
def putB : List Blk → Nat → Nat → List Value → Option (List Blk)
  | [], _, _, _ => none
  | b :: l, 0, off, vs => match b with
    | .cells cs t true => if off + vs.length ≤ cs.length ∧ allCells vs = true then some (.cells (putCells cs off vs) t true :: l) else none
    | _ => none
  | b :: l, k + 1, off, vs => (putB l k off vs).map (b :: ·)

theorem putB_z {cs vs : List Value} {t : TypeId} {off : Nat} : putB (.cells cs t true :: l) 0 off vs = if off + vs.length ≤ cs.length ∧ allCells vs = true then some (.cells (putCells cs off vs) t true :: l) else none := rfl
theorem putB_s {b : Blk} {k off : Nat} {vs : List Value} : putB (b :: l) (k + 1) off vs = (putB l k off vs).map (b :: ·) := rfl

theorem putB_eq : ∀ (l : List Blk) (k off : Nat) (vs : List Value), (storeL ⟨l, none⟩ k off vs).map (·.H) = putB l k off vs
  | [], k, off, vs => by simp [storeL, putB]
  | b :: l, 0, off, vs => by
    simp only [storeL, List.getElem?_cons_zero, putB]
    cases b with
    | cells cs t o => cases o with
      | true =>
        simp only
        split <;> simp
      | false => rfl
    | map es c => rfl
    | iter m a b c => rfl
    | dead => rfl
  | b :: l, k + 1, off, vs => by
    have ih := putB_eq l k off vs
    simp only [putB, ← ih]
    simp only [storeL, List.getElem?_cons_succ]
    split
    · split
      · simp
      · rfl
    · rfl

theorem storeL_own {k off : Nat} {vs : List Value} : storeL ⟨H0 ++ l, e⟩ (H0.length + k) off vs = (putB l k off vs).map fun l' => ⟨H0 ++ l', escOf e (H0.length + k) (lrefs vs)⟩ := by
  rw [storeL_app, ← putB_eq]
  cases storeL ⟨l, none⟩ k off vs <;> rfl
theorem storeL_own0 {off : Nat} {vs : List Value} : storeL ⟨H0 ++ l, e⟩ H0.length off vs = (putB l 0 off vs).map fun l' => ⟨H0 ++ l', escOf e H0.length (lrefs vs)⟩ := storeL_own (k := 0)

theorem app_cons2 (a b : List Blk) : H0 ++ a ++ b = H0 ++ (a ++ b) := List.append_assoc ..
theorem len_app : (H0 ++ l).length = H0.length + l.length := List.length_append

/-- a value of several cells, boxed -/
theorem box_lit {t : TypeId} {cs : List Value} {H : List Blk} : aBox t (.agg cs.toArray) ⟨H, e⟩ = if allCells cs = true then some (.pointer (some ⟨H.length, 0, none⟩), ⟨H ++ [.cells cs t true], e⟩) else none := by
  unfold aBox
  rfl
theorem store_lit {b o n : Nat} {cs : List Value} {st : AS} : aStore n st (.pointer (some ⟨b, o, none⟩)) (.agg cs.toArray) = if cs.length = n then storeL st b o cs else none := rfl
theorem max_int {R : Type} {k : Value → AS → Option R} {j : IntKind} {x y : Int} {ts : Array TypeId} {st : AS} : eBuiltin P .max ts [.int j x, .int j y] st k = k (.int j (if y > x then y else x)) st := by
  simp [eBuiltin, aMinMax]
theorem min_int {R : Type} {k : Value → AS → Option R} {j : IntKind} {x y : Int} {ts : Array TypeId} {st : AS} : eBuiltin P .min ts [.int j x, .int j y] st k = k (.int j (if y < x then y else x)) st := by
  simp [eBuiltin, aMinMax]

@[simp] theorem vrefs_map0 : vrefs (.map none) = [] := by simp [vrefs]
@[simp] theorem vrefs_nilFunc : vrefs .nilFunc = [] := by simp [vrefs]
theorem blkRefs_cells (cs : List Value) (t : TypeId) (o : Bool) : blkRefs (.cells cs t o) = lrefs cs := by simp [blkRefs]
theorem blkRefs_dead : blkRefs .dead = [] := by simp [blkRefs]
theorem renBlk_cells (σ : Nat → Nat) (cs : List Value) (t : TypeId) (o : Bool) : renBlk σ (.cells cs t o) = .cells (lren σ cs) t o := by simp [renBlk]
theorem putCells_one0 (c v : Value) (cs : List Value) : putCells (c :: cs) 0 [v] = v :: cs := by simp [putCells]
theorem putCells_succ (c : Value) (cs vs : List Value) (k : Nat) : putCells (c :: cs) (k + 1) vs = c :: putCells cs k vs := by
  simp only [putCells, List.take_succ_cons, List.cons_append]
  rw [show k + 1 + vs.length = (k + vs.length) + 1 by omega, List.drop_succ_cons]
theorem putCells_app {a b vs : List Value} (h : vs.length = a.length) : putCells (a ++ b) 0 vs = vs ++ b := by
  simp [putCells, h]

/-! ### One element more -/

theorem push_nil {t elem : TypeId} {sz : Nat} {r : List Value} {v : Value} {R : Type} {F : Value → AS → Option R} (ht : ElemT P t elem sz) (hr : r.length = sz)
    (hb : ∀ H' e', bsl P t 1 [0] [v] ⟨H', e'⟩ = some (.slice (some ⟨H'.length, 0, none⟩) 1 1, ⟨H' ++ [.cells r elem true], e'⟩)) :
    ((bsl P t 1 [0] [v] ⟨H0 ++ l, e⟩).bind fun q => eBuiltin P .append #[t, t] [.slice none 0 0, q.1] q.2 F) =
      F (.slice (some ⟨H0.length + (l.length + 1), 0, none⟩) 1 UNK) ⟨H0 ++ (l ++ [.cells r elem true, .cells r elem true]), e⟩ := by
  rw [hb]
  simp only [Option.bind_some]
  have hs : srcCells sz (H0 ++ l ++ [Blk.cells r elem true]) (.slice (some ⟨(H0 ++ l).length, 0, none⟩) 1 1) = some (1, r) := by
    simp only [srcCells, cellsAt, get_app0, List.getElem?_cons_zero]
    rw [if_pos (by omega)]
    simp [hr]
    rw [← hr]; simp
  rw [app_nil ht (st := ⟨H0 ++ l ++ [Blk.cells r elem true], e⟩) hs (by omega) (by omega)]
  simp [Nat.add_assoc]

theorem push_more {t elem : TypeId} {sz m k : Nat} {r old : List Value} {v : Value} {R : Type} {F : Value → AS → Option R} (ht : ElemT P t elem sz) (hr : r.length = sz)
    (hb : ∀ H' e', bsl P t 1 [0] [v] ⟨H', e'⟩ = some (.slice (some ⟨H'.length, 0, none⟩) 1 1, ⟨H' ++ [.cells r elem true], e'⟩))
    (hk : l[k]? = some (.cells old elem true)) (hl : old.length = m * sz) (hm : m ≤ 65535) :
    ((bsl P t 1 [0] [v] ⟨H0 ++ l, e⟩).bind fun q => eBuiltin P .append #[t, t] [.slice (some ⟨H0.length + k, 0, none⟩) m UNK, q.1] q.2 F) =
      F (.slice (some ⟨H0.length + (l.length + 1), 0, none⟩) (m + 1) UNK) ⟨H0 ++ (l.set k .dead ++ [.cells r elem true, .cells (old ++ r) elem true]), e⟩ := by
  rw [hb]
  simp only [Option.bind_some]
  have hkl := lt_of_get hk
  have hs : srcCells sz (H0 ++ l ++ [Blk.cells r elem true]) (.slice (some ⟨(H0 ++ l).length, 0, none⟩) 1 1) = some (1, r) := by
    simp only [srcCells, cellsAt, get_app0, List.getElem?_cons_zero]
    rw [if_pos (by omega)]
    simp [hr]
    rw [← hr]; simp
  have hg : (H0 ++ l ++ [Blk.cells r elem true])[H0.length + k]? = some (.cells old elem true) := by
    rw [List.append_assoc, get_app, List.getElem?_append_left hkl]; exact hk
  rw [app_more ht (st := ⟨H0 ++ l ++ [Blk.cells r elem true], e⟩) hg hl hs (by omega) (by omega)]
  have : (H0 ++ l ++ [Blk.cells r elem true]).set (H0.length + k) .dead = H0 ++ (l.set k .dead ++ [.cells r elem true]) := by
    rw [List.append_assoc, set_app, List.set_append_left _ _ hkl]
  simp only [this]
  simp [Nat.add_assoc]

theorem push_more0 {t elem : TypeId} {sz m : Nat} {r old : List Value} {v : Value} {R : Type} {F : Value → AS → Option R} (ht : ElemT P t elem sz) (hr : r.length = sz)
    (hb : ∀ H' e', bsl P t 1 [0] [v] ⟨H', e'⟩ = some (.slice (some ⟨H'.length, 0, none⟩) 1 1, ⟨H' ++ [.cells r elem true], e'⟩))
    (hk : l[0]? = some (.cells old elem true)) (hl : old.length = m * sz) (hm : m ≤ 65535) :
    ((bsl P t 1 [0] [v] ⟨H0 ++ l, e⟩).bind fun q => eBuiltin P .append #[t, t] [.slice (some ⟨H0.length, 0, none⟩) m UNK, q.1] q.2 F) =
      F (.slice (some ⟨H0.length + (l.length + 1), 0, none⟩) (m + 1) UNK) ⟨H0 ++ (l.set 0 .dead ++ [.cells r elem true, .cells (old ++ r) elem true]), e⟩ := push_more (k := 0) ht hr hb hk hl hm

/-- the end of a call that leaves blocks behind -/
theorem fin_keep {vs' : List Value} {l' : List Blk} (hf : vs.all flatV = true) (hg : gc H0.length vs ⟨H0 ++ l, e⟩ = (vs', ⟨H0 ++ l', none⟩)) : fin P false H0.length vs ⟨H0 ++ l, e⟩ = some (oneOf vs', H0 ++ l', none) := by
  unfold fin endFrz
  simp only [Bool.false_eq_true, if_false, frzL_flatV _ _ _ _ hf, hg, escBelow]

/-- a row of one's own that is told -/
theorem fin_row {t : TypeId} {k n c sz : Nat} {cs : List Value} (hk : l[k]? = some (.cells cs t true)) (hs : sizeP P t = some sz) (hn : cs.length = n * sz) (hc : cs.all noSl = true) (hr : lrefs cs = []) (he : escOk H0.length e = true) :
    fin P false H0.length [.slice (some ⟨H0.length + k, 0, none⟩) n c] ⟨H0 ++ l, e⟩ = some (tSl n cs, H0, none) :=
  fin_of (vs' := [tSl n cs]) (l' := l.set k .dead) (by simp only [frzL, frz_own hk hs hn hc]) (by simp [hr]) he
theorem fin_row0 {t : TypeId} {n c sz : Nat} {cs : List Value} (hk : l[0]? = some (.cells cs t true)) (hs : sizeP P t = some sz) (hn : cs.length = n * sz) (hc : cs.all noSl = true) (hr : lrefs cs = []) (he : escOk H0.length e = true) :
    fin P false H0.length [.slice (some ⟨H0.length, 0, none⟩) n c] ⟨H0 ++ l, e⟩ = some (tSl n cs, H0, none) := fin_row (k := 0) hk hs hn hc hr he
theorem fin_nil (he : escOk H0.length e = true) : fin P false H0.length [.slice none 0 0] ⟨H0 ++ l, e⟩ = some (tSl 0 [], H0, none) :=
  fin_of (vs' := [tSl 0 []]) (l' := l) (by simp only [frzL, frz_nil]) (by simp) he
theorem fin_nil0 : fin P false H0.length [.slice none 0 0] ⟨H0, none⟩ = some (tSl 0 [], H0, none) := by
  have := fin_nil (P := P) (H0 := H0) (l := []) (e := none) rfl
  simpa using this

/-- a loop over numbers, its state in two -/
theorem loop_r {σ : Type} {n0 : Nat} {step : List Value × AS → Option ((List Value × AS) ⊕ (AEx × List Value × AS))} {len : Nat} (S : Nat → σ → List Value × AS) (Ok : Nat → σ → Prop) (Q : AEx × List Value × AS → Prop)
    (h : ∀ i s, i < len → Ok i s → (∃ r, step (S i s) = some (.inr r) ∧ Q r) ∨ (∃ vs st s', step (S i s) = some (.inl (vs, st)) ∧ gc n0 vs st = S (i + 1) s' ∧ Ok (i + 1) s'))
    (hend : ∀ s, Ok len s → ∃ r, step (S len s) = some (.inr r) ∧ Q r) (k i : Nat) (s : σ) (vs : List Value) (st : AS) (hk : i + k = len) (ho : Ok i s) (hX : gc n0 vs st = S i s) : ∃ r, loopG n0 step (vs, st) = some r ∧ Q r :=
  loop_rule S Ok Q (fun i s hi ho => (h i s hi ho).imp id fun ⟨vs, st, s', h1, h2, h3⟩ => ⟨(vs, st), s', h1, h2, h3⟩) hend k i s (vs, st) hk ho hX

end
end Go.Am
