/- Each operation on abstract values, and the model's. -/
import Derived.Test.YtfinilnkempofaaAm3
import Derived.Deep.AppendSrc
import Derived.Deep.Upon
import Derived.Laws.IdiomCopy
set_option linter.all false
set_option linter.unusedVariables false
set_option linter.unusedSimpArgs false
set_option linter.unnecessarySimpa false
namespace Go.Am

section
variable {P : Program} {ρ ρ' : Ren} {H : List Blk} {w : World}

theorem pureRun_run {α : Type} : ∀ (s : Sem α) (v : α), pureRun P s = some v → ∀ w, s.run P w = .ok v w
  | .pure a, v, h, w => by simp [pureRun] at h; subst h; rfl
  | .program k, v, h, w => by simp only [pureRun] at h; simp only [Sem.run]; exact pureRun_run (k P) v h w
  | .mark _ k, v, h, w => by simp only [pureRun] at h; simp only [Sem.run]; exact pureRun_run k v h w
  | .load .., v, h, w | .store .., v, h, w | .new .., v, h, w | .shape .., v, h, w | .freeze .., v, h, w | .frozen .., v, h, w
  | .getObj .., v, h, w | .setObj .., v, h, w | .choose .., v, h, w | .sys .., v, h, w | .halt .., v, h, w => by simp [pureRun] at h

theorem sizeP_info {t : TypeId} {n : Nat} (h : sizeP P t = some n) : ∃ i, P.info? t = some i ∧ i.size = n := by
  unfold sizeP at h; cases hi : P.info? t with
  | none => simp [hi] at h
  | some i => simp [hi] at h; exact ⟨i, rfl, h⟩

theorem run_sizeP {t : TypeId} {n : Nat} (h : sizeP P t = some n) (w : World) : (sizeOf t).run P w = .ok n w := by
  obtain ⟨i, hi, hn⟩ := sizeP_info h
  simp [sizeOf, typeInfo, hi, hn]

theorem run_zeroP {t : TypeId} {z : Value} (h : zeroP P t = some z) (w : World) : (zeroValue t).run P w = .ok z w := by
  unfold zeroP at h; cases hi : P.info? t with
  | none => simp [hi] at h
  | some i => simp [hi] at h; simp [zeroValue, typeInfo, hi, h]

theorem run_isAggP {t : TypeId} {g : Bool} (h : isAggP P t = some g) (w : World) : (isAgg t).run P w = .ok g w := by
  unfold isAggP at h
  cases hu : P.underlying t with
  | none => simp [hu] at h
  | some d => cases d <;> simp_all [isAgg, run_underlying hu]

/-- the cells of a block, and the model's -/
theorem cells_get (h : Rel P ρ H w) {b : Nat} {cs : List Value} {e : TypeId} {own : Bool} (hb : H[b]? = some (.cells cs e own)) :
    ∃ cb base carr fz, ρ b = some (cb, base) ∧ w.heap[cb]? = some (.cells carr e fz) ∧ (∀ (i : Nat) (v : Value), cs[i]? = some v → ∃ cv : Value, carr[base + i]? = some cv ∧ VRel P ρ w.shape? v cv) ∧
      (cs ≠ [] → base + cs.length ≤ carr.size) ∧ LRel P ρ w.shape? cs ((carr.toList.drop base).take cs.length) ∧
      (own = true → FzOk carr.size fz) ∧ allCells cs = true := by
  obtain ⟨cb, base, o, h1, h2, carr, fz, rfl, h3, h4⟩ := h.blk b _ hb rfl
  refine ⟨cb, base, carr, fz, h1, h2, fun i v hv => ?_, fun hne => ?_, h3, h4⟩
  · obtain ⟨y, hy, hr⟩ := h3.2 i v hv
    refine ⟨y, ?_, hr⟩
    rw [List.getElem?_take] at hy
    split at hy
    · rw [List.getElem?_drop] at hy; simpa using hy
    · simp at hy
  · have := h3.1
    simp at this
    have : 0 < cs.length := List.length_pos_iff.2 hne
    omega

theorem cell_at {w : World} {cb : Nat} {carr : Array Value} {e : TypeId} {fz : Nat × Nat} (h : w.heap[cb]? = some (.cells carr e fz)) (off : Nat) : w.cell? ⟨cb, off, none⟩ = carr[off]? := by
  simp [World.cell?, h]

theorem add_none (cb off i : Nat) : (⟨cb, off, none⟩ : Addr).add i = ⟨cb, off + i, none⟩ := by unfold Addr.add; split <;> simp_all

/-- abstract cells, read, and the model's -/
theorem cellsAt_rel (h : Rel P ρ H w) {b off n cb base : Nat} {l : List Value} (hc : cellsAt H b off n = some l) (hr : ρ b = some (cb, base)) :
    ∃ l', l'.length = n ∧ l.length = n ∧ LRel P ρ w.shape? l l' ∧ ∀ (j : Nat) (v : Value), l'[j]? = some v → w.cell? ((⟨cb, base + off, none⟩ : Addr).add j) = some v := by
  unfold cellsAt at hc
  split at hc
  · rename_i cs e own hb
    split at hc
    · rename_i hle
      simp at hc
      obtain ⟨cb', base', carr, fz, h1, h2, h3, _, h5, _⟩ := cells_get h hb
      rw [h1] at hr; simp at hr; obtain ⟨rfl, rfl⟩ := hr
      have hL := (h5.drop off).take n
      rw [hc] at hL
      have hn : l.length = n := by rw [← hc]; simp; omega
      refine ⟨_, by rw [← hL.1]; exact hn, hn, hL, fun j v hv => ?_⟩
      rw [add_none, cell_at h2]
      rw [List.getElem?_take] at hv
      split at hv
      · rw [List.getElem?_drop, List.getElem?_take] at hv
        split at hv
        · rw [List.getElem?_drop] at hv
          simpa [Nat.add_assoc] using hv
        · simp at hv
      · simp at hv
    · simp at hc
  · simp at hc

/-- the cells of a row that nothing writes any more -/
theorem fz_cell (h : Rel P ρ H w) {cb base : Nat} {c : Array Value} {l : List Value} (hz : ρ.fz cb = some c) (hc : (c.toList.drop base).take l.length = l) (i : Nat) (v : Value) (hv : l[i]? = some v) :
    w.cell? ⟨cb, base + i, none⟩ = some v := by
  obtain ⟨⟨e, fz, h1⟩, _⟩ := h.frozen cb c hz
  rw [cell_at h1]
  rw [← hc, List.getElem?_take] at hv
  split at hv
  · rw [List.getElem?_drop] at hv; simpa using hv
  · simp at hv

theorem aLoad_sound (h : Rel P ρ H w) {t : TypeId} {g : Bool} {n : Nat} {e : Option Nat} {p cp v : Value} (hg : isAggP P t = some g) (hn : sizeP P t = some n) (hv : aLoad g n ⟨H, e⟩ p = some v)
    (hp : VRel P ρ w.shape? p cp) : ∃ cv, (Instr.loadAt t cp).run P w = .ok cv w ∧ VRel P ρ w.shape? v cv := by
  cases p with
  | pointer a =>
    cases a with
    | none => simp [aLoad] at hv
    | some a =>
      obtain ⟨cb, base, hs, hr, rfl⟩ := hp.ptr_inv
      simp only [aLoad] at hv
      cases g with
      | true =>
        simp at hv
        obtain ⟨l, hl, rfl⟩ := hv
        obtain ⟨l', hl1, hl2, hL, hc⟩ := cellsAt_rel h hl hr
        refine ⟨.agg l'.toArray, ?_, .agg_list hL⟩
        have := run_loadCells_list (P := P) w ⟨cb, base + a.off, none⟩ l' hc
        rw [hl1] at this
        simp [Instr.loadAt, Instr.sureAddr, loadVar, run_isAggP hg, run_sizeP hn, this]
      | false =>
        simp [cellAt] at hv
        split at hv
        · rename_i cs e' own hb
          obtain ⟨cb', base', carr, fz, h1, h2, h3, _, _, _⟩ := cells_get h hb
          rw [h1] at hr; simp at hr; obtain ⟨rfl, rfl⟩ := hr
          obtain ⟨cv, hcv, hr⟩ := h3 _ _ hv
          refine ⟨cv, ?_, hr⟩
          have : w.cell? ⟨cb', base' + a.off, none⟩ = some cv := by rw [cell_at h2]; exact hcv
          simp [Instr.loadAt, Instr.sureAddr, loadVar, run_isAggP hg, run_load, this]
        · simp at hv
  | iface off x =>
    cases x with
    | agg row =>
      obtain ⟨cb, base, c, a', rfl, hz, hc, hL⟩ := hp.tptr_inv
      simp only [aLoad, tLoad] at hv
      cases g with
      | true =>
        simp only [if_true] at hv
        split at hv
        · rename_i hle
          simp at hv
          subst hv
          have hL2 := (hL.drop off).take n
          have hlen : row.size = a'.length := by simpa using hL.1
          refine ⟨.agg ((a'.drop off).take n).toArray, ?_, by simpa using VRel.agg_list hL2⟩
          have hl1 : ((a'.drop off).take n).length = n := by rw [List.length_take, List.length_drop]; omega
          have := run_loadCells_list (P := P) w ⟨cb, base + off, none⟩ ((a'.drop off).take n) (fun j v hv => by
            rw [add_none, Nat.add_assoc]
            refine fz_cell h hz hc (off + j) v ?_
            rw [List.getElem?_take] at hv
            split at hv
            · rwa [List.getElem?_drop] at hv
            · simp at hv)
          rw [hl1] at this
          simp [Instr.loadAt, Instr.sureAddr, loadVar, run_isAggP hg, run_sizeP hn, this]
        · simp at hv
      | false =>
        simp only [Bool.false_eq_true, if_false] at hv
        obtain ⟨cv, hcv, hr⟩ := hL.2 _ _ hv
        refine ⟨cv, ?_, hr⟩
        have : w.cell? ⟨cb, base + off, none⟩ = some cv := fz_cell h hz hc off cv hcv
        simp [Instr.loadAt, Instr.sureAddr, loadVar, run_isAggP hg, run_load, this]
    | _ => simp [aLoad] at hv
  | _ => simp [aLoad] at hv

theorem putCells_length {cs vs : List Value} {off : Nat} (h : off + vs.length ≤ cs.length) : (putCells cs off vs).length = cs.length := by
  simp [putCells]; omega

theorem putCells_get {cs vs : List Value} {off : Nat} (h : off + vs.length ≤ cs.length) (i : Nat) :
    (putCells cs off vs)[i]? = if i < off then cs[i]? else if i < off + vs.length then vs[i - off]? else cs[i]? := by
  unfold putCells
  by_cases h1 : i < off
  · rw [List.getElem?_append_left (by simp; omega), List.getElem?_append_left (by simp; omega), List.getElem?_take]; simp [h1]
  · by_cases h2 : i < off + vs.length
    · rw [List.getElem?_append_left (by simp; omega), List.getElem?_append_right (by simp; omega)]
      simp [h1, h2]; congr 1; omega
    · rw [List.getElem?_append_right (by simp; omega), List.getElem?_drop]
      simp [h1, h2]; congr 1; omega

/-- the model's cells, set one by one -/
theorem heap_setCells (cb : Nat) (e : TypeId) (fz : Nat × Nat) : ∀ (vs : List Value) (o : Nat) (w : World) (carr : Array Value), w.heap[cb]? = some (.cells carr e fz) → o + vs.length ≤ carr.size →
    w.setCells cb o vs = setBlk w cb (.cells (putCells carr.toList o vs).toArray e fz)
  | [], o, w, carr, h, hl => by
    have hlt := lt_of_getA h
    simp only [World.setCells, setBlk, putCells]
    have : (List.take o carr.toList ++ [] ++ List.drop (o + ([] : List Value).length) carr.toList).toArray = carr := by simp
    rw [this]
    have e : w.heap.setIfInBounds cb (.cells carr e fz) = w.heap := by
      apply Array.ext_getElem?; intro i
      by_cases hi : i = cb
      · subst hi; rw [Array.getElem?_setIfInBounds_self_of_lt hlt, h]
      · rw [Array.getElem?_setIfInBounds_ne (Ne.symm hi)]
    rw [e]
  | v :: r, o, w, carr, h, hl => by
    have hlt := lt_of_getA h
    simp at hl
    have e1 : w.setCell ⟨cb, o, none⟩ v = setBlk w cb (.cells (carr.setIfInBounds o v) e fz) := by
      simp only [World.setCell, setBlk]
      congr 1
      apply Array.ext_getElem?; intro i
      rw [Array.getElem?_modify]
      by_cases hi : cb = i
      · subst hi; rw [Array.getElem?_setIfInBounds_self_of_lt hlt]; simp [h]
      · rw [Array.getElem?_setIfInBounds_ne hi]; simp [hi]
    rw [World.setCells, e1, heap_setCells cb e fz r (o + 1) _ (carr.setIfInBounds o v) (setBlk_same hlt) (by simp; omega)]
    simp only [setBlk]
    congr 1
    apply Array.ext_getElem?; intro i
    by_cases hi : i = cb
    · subst hi
      rw [Array.getElem?_setIfInBounds_self_of_lt (by simpa using hlt), Array.getElem?_setIfInBounds_self_of_lt hlt]
      congr 3
      apply List.ext_getElem?; intro j
      rw [putCells_get (by simp; omega), putCells_get (by simp; omega)]
      simp only [Array.toList_setIfInBounds, List.length_cons]
      by_cases h1 : j < o
      · simp [h1, Nat.lt_succ_of_lt h1, List.getElem?_set_ne (by omega : o ≠ j)]
      · by_cases h2 : j = o
        · subst h2; simp; rw [List.getElem?_set_self (by simp; omega)]
        · have h3 : ¬ j < o + 1 := by omega
          simp only [h1, h3, if_false]
          by_cases h4 : j < o + 1 + r.length
          · have h5 : j < o + (r.length + 1) := by omega
            simp only [h4, h5, if_true]
            obtain ⟨m, rfl⟩ : ∃ m, j = o + 1 + m := ⟨j - (o + 1), by omega⟩
            rw [show o + 1 + m - o = m + 1 by omega, show o + 1 + m - (o + 1) = m by omega]; simp
          · have h5 : ¬ j < o + (r.length + 1) := by omega
            simp only [h4, h5, if_false]
            rw [List.getElem?_set_ne (by omega)]
    · rw [Array.getElem?_setIfInBounds_ne (Ne.symm hi), Array.getElem?_setIfInBounds_ne (Ne.symm hi), Array.getElem?_setIfInBounds_ne (Ne.symm hi)]

theorem allCells_get {l : List Value} (h : allCells l = true) {i : Nat} {v : Value} (hv : l[i]? = some v) : cellV v = true := by
  unfold allCells at h
  rw [List.all_eq_true] at h
  exact h v (List.mem_of_getElem? hv)

theorem one_of {l l' : List Value} {sh : Sh} (hL : LRel P ρ sh l l') (h : allCells l = true) : ∀ u ∈ l', u.oneCell' = true := by
  intro u hu
  obtain ⟨i, hi⟩ := List.mem_iff_getElem?.1 hu
  have hlt : i < l.length := by rw [hL.1]; exact lt_of_get hi
  obtain ⟨y, hy, hr⟩ := hL.2 i l[i] (List.getElem?_eq_getElem hlt)
  rw [hi] at hy; simp at hy; subst hy
  exact (hr.cellV (allCells_get h (List.getElem?_eq_getElem hlt))).2.2

theorem LRel.put {cs vs cs' vs' : List Value} {sh : Sh} {off : Nat} (h : LRel P ρ sh cs cs') (h' : LRel P ρ sh vs vs') : LRel P ρ sh (putCells cs off vs) (putCells cs' off vs') := by
  unfold putCells; rw [h'.1]
  exact ((h.take off).append h').append (h.drop _)

theorem allCells_append {a b : List Value} : allCells (a ++ b) = (allCells a && allCells b) := by simp [allCells]
theorem allCells_take {a : List Value} (h : allCells a = true) (n : Nat) : allCells (a.take n) = true := by
  unfold allCells at *; rw [List.all_eq_true] at *; exact fun x hx => h x (List.mem_of_mem_take hx)
theorem allCells_drop {a : List Value} (h : allCells a = true) (n : Nat) : allCells (a.drop n) = true := by
  unfold allCells at *; rw [List.all_eq_true] at *; exact fun x hx => h x (List.mem_of_mem_drop hx)

/-- cells are stored, abstract and the model's -/
theorem storeL_sound (h : Rel P ρ H w) {b off cb base : Nat} {e : Option Nat} {vs vs' : List Value} {s : AS} (hs : storeL ⟨H, e⟩ b off vs = some s) (hr : ρ b = some (cb, base))
    (hL : LRel P ρ w.shape? vs vs') : Rel P ρ s.H (w.setCells cb (base + off) vs') ∧ Step H.length ρ H w ρ s.H (w.setCells cb (base + off) vs') ∧ s.H.length = H.length ∧
      (∀ j, j < vs'.length → (w.cell? ⟨cb, base + off + j, none⟩).isSome = true) ∧ (∀ j, j < vs'.length → w.frozen? ⟨cb, base + off + j, none⟩ = false) ∧ (∀ u ∈ vs', u.oneCell' = true) := by
  unfold storeL at hs
  split at hs
  · rename_i cs et hb
    split at hs
    · rename_i hle
      obtain ⟨hle, hac⟩ := hle
      simp at hs; subst hs
      obtain ⟨cb', base', carr, fz, h1, h2, h3, h4, h5, h6⟩ := cells_get h hb
      rw [h1] at hr; simp at hr; obtain ⟨rfl, rfl⟩ := hr
      have hfz0 := h6.1 rfl
      have hfz := hfz0.not
      have hcs := h6.2
      have hvl := hL.1
      have hsz : vs' ≠ [] → base' + off + vs'.length ≤ carr.size := by
        intro hne
        have : 0 < vs'.length := List.length_pos_iff.2 hne
        have := h4 (fun he => by subst he; exact absurd hle (by simp only [List.length_nil]; omega))
        omega
      by_cases hne : vs' = []
      · subst hne
        have : vs = [] := by simpa using hvl
        subst this
        have e1 : putCells cs off [] = cs := by simp [putCells]
        have e2 : H.set b (.cells cs et true) = H := by
          apply List.ext_getElem?; intro i
          by_cases hi : b = i
          · subst hi; rw [List.getElem?_set_self (lt_of_get hb), hb]
          · rw [List.getElem?_set_ne hi]
        simp only [e1, e2, World.setCells]
        exact ⟨h, .refl _, by trivial, fun j hj => by simp at hj, fun j hj => by simp at hj, fun u hu => by simp at hu⟩
      · have hsz := hsz hne
        rw [heap_setCells cb' et fz vs' (base' + off) w carr h2 hsz]
        have hpl : (putCells carr.toList (base' + off) vs').length = carr.size := by rw [putCells_length (by simpa using hsz)]; simp
        have := set_rel h (k' := .cells (putCells cs off vs) et true) (o' := .cells (putCells carr.toList (base' + off) vs').toArray et fz) hb rfl h1 h2 rfl (by simp [hpl])
          (by
            refine ⟨_, fz, rfl, ?_, fun _ => by simpa [hpl] using hfz0, ?_⟩
            · have e : List.take (putCells cs off vs).length (List.drop base' (putCells carr.toList (base' + off) vs').toArray.toList) = putCells ((carr.toList.drop base').take cs.length) off vs' := by
                have hcl : cs.length = ((carr.toList.drop base').take cs.length).length := h5.1
                apply List.ext_getElem?; intro i
                rw [putCells_length hle, List.getElem?_take, List.getElem?_drop]
                rw [putCells_get (by simpa using hsz), putCells_get (by rw [← hcl, ← hvl]; exact hle)]
                by_cases h0 : i < cs.length
                · simp only [h0, if_true, List.getElem?_take, List.getElem?_drop]
                  by_cases h1 : i < off
                  · simp [h1, h0]
                  · by_cases h2 : i < off + vs'.length
                    · have h2' : base' + i < base' + off + vs'.length := by omega
                      have h1' : ¬ base' + i < base' + off := by omega
                      simp only [h1, h1', h2, h2', if_true, if_false]
                      congr 1; omega
                    · have h2' : ¬ base' + i < base' + off + vs'.length := by omega
                      have h1' : ¬ base' + i < base' + off := by omega
                      simp [h1, h1', h2, h2', h0]
                · have h1 : ¬ i < off := by omega
                  have h2 : ¬ i < off + vs'.length := by omega
                  simp [h0, h1, h2, List.getElem?_take]
              rw [e]
              exact h5.put hL
            · unfold putCells
              rw [allCells_append, allCells_append, allCells_take hcs, allCells_drop hcs, hac]; rfl)
        refine ⟨this.1, this.2, by simp, fun j hj => ?_, fun j hj => ?_, one_of hL hac⟩
        · rw [cell_at h2, Array.getElem?_eq_getElem (by omega)]; rfl
        · simp only [World.frozen?, h2]
          have := hfz (base' + off + j) (by omega)
          simp only [Bool.and_eq_false_iff, decide_eq_false_iff_not]
          by_cases hx : fz.1 ≤ base' + off + j
          · exact .inr (fun hy => this ⟨hx, hy⟩)
          · exact .inl hx
    · simp at hs
  · simp at hs

theorem cells_rel {v cv : Value} {sh : Sh} (h : VRel P ρ sh v cv) (hc : allCells v.cells.toList = true) : LRel P ρ sh v.cells.toList cv.cells.toList := by
  cases v with
  | agg a => obtain ⟨a', rfl, hL⟩ := h.agg_inv; exact hL
  | tuple a => simp [Value.cells, allCells, cellV] at hc
  | chan c => simp [Value.cells, allCells, cellV] at hc
  | _ =>
    obtain ⟨h1, h2, _⟩ := h.cellV rfl
    rw [h1, h2]
    exact .cons h .nil

theorem aStore_sound (h : Rel P ρ H w) {t : TypeId} {n : Nat} {e : Option Nat} {p cp v cv : Value} {s : AS} (hn : sizeP P t = some n) (hs : aStore n ⟨H, e⟩ p v = some s)
    (hp : VRel P ρ w.shape? p cp) (hv : VRel P ρ w.shape? v cv) :
    ∃ w', (Instr.storeAt t cp cv).run P w = .ok () w' ∧ Rel P ρ s.H w' ∧ Step H.length ρ H w ρ s.H w' ∧ s.H.length = H.length := by
  cases p with
  | pointer a =>
    cases a with
    | none => simp [aStore] at hs
    | some a =>
      obtain ⟨cb, base, hsp, hr, rfl⟩ := hp.ptr_inv
      simp only [aStore] at hs
      split at hs
      · rename_i hl
        have hac : allCells v.cells.toList = true := by
          unfold storeL at hs; split at hs
          · split at hs
            · rename_i hh; exact hh.2
            · simp at hs
          · simp at hs
        have hL := cells_rel hv hac
        obtain ⟨h1, h2, h3, h4, h5, h6⟩ := storeL_sound h hs hr hL
        refine ⟨_, ?_, h1, h2, h3⟩
        have hsz : cv.cells.size = n := by have := hL.1; simp at this hl; omega
        have := run_storeCells_cells (P := P) cb (base + a.off) cv.cells.toList 0 w (by simpa using h4) (by simpa using h5) h6
        simp only [Nat.add_zero] at this
        simp [Instr.storeAt, Instr.sureAddr, storeVar, run_sizeP hn, hsz, this]
      · simp at hs
  | _ => simp [aStore] at hs

/-- a new row -/
theorem row_sound (h : Rel P ρ H w) {e : TypeId} {cs cs' : List Value} {extra : List Value} {own : Bool} (hL : LRel P ρ w.shape? cs cs') (hac : allCells cs = true) :
    Rel P (upd ρ H.length (w.heap.size, 0)) (H ++ [.cells cs e own]) (w.alloc (.cells (cs' ++ extra).toArray e)) ∧
    Step H.length ρ H w (upd ρ H.length (w.heap.size, 0)) (H ++ [.cells cs e own]) (w.alloc (.cells (cs' ++ extra).toArray e)) := by
  refine alloc_rel h _ _ ⟨_, (0, 0), rfl, ?_, fun _ => .inl rfl, hac⟩
  have : List.take cs.length (List.drop 0 (cs' ++ extra).toArray.toList) = cs' := by simp [hL.1]
  rw [this]
  exact hL.mono (fun _ _ h => h) (upd_mono (h.dom _ (Nat.le_refl _))) (shape_alloc _ _)

theorem upd_self (ρ : Ren) (b : Nat) (x : Nat × Nat) : upd ρ b x b = some x := by simp [upd]

theorem aBox_sound (h : Rel P ρ H w) {elem : TypeId} {e : Option Nat} {v cv pv : Value} {s : AS} (hs : aBox elem v ⟨H, e⟩ = some (pv, s)) (hv : VRel P ρ w.shape? v cv) :
    ∃ ρ' cpv, (Instr.box elem cv).run P w = .ok cpv (w.alloc (.cells cv.cells elem)) ∧ Rel P ρ' s.H (w.alloc (.cells cv.cells elem)) ∧ Step H.length ρ H w ρ' s.H (w.alloc (.cells cv.cells elem)) ∧
      H.length ≤ s.H.length ∧ VRel P ρ' (w.alloc (.cells cv.cells elem)).shape? pv cpv := by
  unfold aBox at hs
  split at hs
  · rename_i hac
    simp [newPtr, newBlk] at hs
    obtain ⟨rfl, rfl⟩ := hs
    have hL := cells_rel hv hac
    have := row_sound h (e := elem) (extra := []) (own := true) hL hac
    simp only [List.append_nil, Array.toArray_toList] at this
    refine ⟨_, .pointer (some ⟨w.heap.size, 0, none⟩), ?_, this.1, this.2, by simp, ?_⟩
    · simp [Instr.box, newVar, newRow]
    · exact .ptr (upd_self _ _ _)
  · simp at hs

end
end Go.Am
