/- Operations, further: append, copy, len. -/
import Derived.Test.YtfinilnkempofaaAm7
set_option linter.all false
set_option linter.unusedVariables false
set_option linter.unusedSimpArgs false
set_option linter.unnecessarySimpa false
namespace Go.Am

section
variable {P : Program} {ρ ρ' : Ren} {H : List Blk} {w : World}

theorem ite_some {α : Type} {c : Prop} [Decidable c] {x : Option α} {y : α} : (if c then x else none) = some y ↔ c ∧ x = some y := by
  by_cases h : c <;> simp [h]

theorem allCells_cellsAt (h : Rel P ρ H w) {b off n : Nat} {l : List Value} (hc : cellsAt H b off n = some l) : allCells l = true := by
  unfold cellsAt at hc
  split at hc
  · rename_i cs e own hb
    split at hc
    · simp at hc; subst hc
      obtain ⟨_, _, _, _, _, _, _, _, _, _, h6⟩ := cells_get h hb
      exact allCells_take (allCells_drop h6 _) _
    · simp at hc
  · simp at hc

theorem cell?_drew (w : World) (a : Addr) : w.drew.cell? a = w.cell? a := rfl

/-- what is appended, or copied -/
theorem src_sound (h : Rel P ρ H w) {size : Nat} {tx : TypeId} {y cy : Value} {n : Nat} {new : List Value} (hk : (∃ e', P.underlying tx = some (.slice e')) ∨ P.underlying tx = some .string)
    (hs : srcCells size H y = some (n, new)) (hy : VRel P ρ w.shape? y cy) : ∃ new', Src P size tx cy n new' w ∧ LRel P ρ w.shape? new new' ∧ allCells new = true ∧ new.length = n * size := by
  cases y with
  | slice a len cap =>
    cases a with
    | none =>
      simp only [srcCells, ite_eq_some_iff] at hs
      obtain ⟨rfl, hv⟩ := hs
      simp at hv; obtain ⟨rfl, rfl⟩ := hv
      have := hy.eq_of_plain rfl; subst this
      exact ⟨[], ⟨hk, fun _ => rfl, run_firstCells_none w size 0 0 cap, run_firstCells_none w.drew size 0 0 cap, by simp, fun u hu => by simp at hu⟩, .nil, rfl, by simp⟩
    | some a =>
      simp only [srcCells, Option.map_eq_some_iff] at hs
      obtain ⟨l, hl, hv⟩ := hs
      simp at hv; obtain ⟨rfl, rfl⟩ := hv
      have hac := allCells_cellsAt h hl
      rcases hy.slice_inv with ⟨cb, base, cap', hsp, hr, rfl, _, _, _⟩ | ⟨a', hsp, hb', rfl, rfl, _⟩
      · obtain ⟨l', hl1, hl2, hL, hc⟩ := cellsAt_rel h hl hr
        exact ⟨l', ⟨hk, fun _ => rfl, run_firstCells_some w size len _ len cap' l' hl1 hc, run_firstCells_some w.drew size len _ len cap' l' hl1 hc, hl1, one_of hL hac⟩, hL, hac, hl2⟩
      · have hl0 : l = [] := by
          unfold cellsAt at hl
          split at hl
          · split at hl
            · simp at hl; exact hl
            · simp at hl
          · simp at hl
        subst hl0
        exact ⟨[], ⟨hk, fun _ => rfl, run_firstCells_some w size 0 a' 0 0 [] (by simp) (fun j u hj => by simp at hj), run_firstCells_some w.drew size 0 a' 0 0 [] (by simp) (fun j u hj => by simp at hj), by simp, fun u hu => by simp at hu⟩, .nil, rfl, by simp⟩
  | string b =>
    simp only [srcCells, ite_eq_some_iff] at hs
    obtain ⟨rfl, hv⟩ := hs
    simp at hv; obtain ⟨rfl, rfl⟩ := hv
    have := hy.string_inv; subst this
    exact ⟨byteCells b, ⟨hk, fun _ => rfl, firstCells_string b w, firstCells_string b w.drew, by rw [byteCells_length, Nat.mul_one], fun u hu => by
      obtain ⟨_, _, rfl⟩ := List.mem_map.1 hu; rfl⟩, .refl_plain (plain_bytes _), cells_bytes _, by simp⟩
  | iface len x =>
    cases x with
    | tuple row =>
      simp only [srcCells, tSrc, ite_eq_some_iff] at hs
      obtain ⟨⟨hsz, hac⟩, hv⟩ := hs
      simp at hv; obtain ⟨rfl, rfl⟩ := hv
      rcases hy.ptree_inv with ⟨cb, base, cap', c, l', rfl, hz, hc, hle, hL⟩ | ⟨rfl, rfl, a', cap', hnil, rfl⟩
      · have hl1 : l'.length = len * size := by have := hL.1; simp at this; omega
        have hcell : ∀ (w' : World), w'.heap = w.heap → ∀ (j : Nat) (v : Value), l'[j]? = some v → w'.cell? ((⟨cb, base, none⟩ : Addr).add j) = some v := fun w' hw j v hj => by
          rw [add_none]
          have := fz_cell h hz hc j v hj
          simpa [World.cell?, hw] using this
        exact ⟨l', ⟨hk, fun _ => rfl, run_firstCells_some w size len _ len cap' l' hl1 (hcell w rfl), run_firstCells_some w.drew size len _ len cap' l' hl1 (hcell w.drew rfl), hl1, one_of hL hac⟩, hL, hac, by simpa using hsz⟩
      · cases a' with
        | none =>
          exact ⟨[], ⟨hk, fun _ => rfl, run_firstCells_none w size 0 0 cap', run_firstCells_none w.drew size 0 0 cap', by simp, fun u hu => by simp at hu⟩, .nil, rfl, by simp⟩
        | some a' =>
          exact ⟨[], ⟨hk, fun _ => rfl, run_firstCells_some w size 0 a' 0 cap' [] (by simp) (fun j u hj => by simp at hj), run_firstCells_some w.drew size 0 a' 0 cap' [] (by simp) (fun j u hj => by simp at hj), by simp, fun u hu => by simp at hu⟩, .nil, rfl, by simp⟩
    | _ => simp [srcCells] at hs
  | _ => simp [srcCells] at hs

theorem zeroCells_size (zero : Array Value) (n : Nat) : (Builtin.zeroCells zero n).size = n * zero.size := by simp [Builtin.zeroCells]

/-- an append that makes a new row -/
theorem grow_sound (h : Rel P ρ H w) {t tx ty elem : TypeId} {size bytes : Nat} {zero : Value} (hu : P.underlying t = some (.slice elem)) (hsz : sizeP P elem = some size) (hby : bytesP P elem = some bytes) (hz : zeroP P elem = some zero)
    (hzs : zero.cells.size = size) (hs0 : size ≠ 0) (hb0 : bytes ≠ 0) {base : Option Addr} {sLen sCap n : Nat} {olds olds' new new' : List Value} {y : Value} (hs : Src P size tx y n new' w) (hL : LRel P ρ w.shape? new new') (hac : allCells new = true)
    (ho : LRel P ρ w.shape? olds olds') (hoac : allCells olds = true) (hol : olds.length = sLen * size) (hnl : new.length = n * size)
    (hold : (Builtin.firstCells size sLen (.slice base sLen sCap)).run P w.drew = .ok olds'.toArray w.drew) (hg : sCap < sLen + n) (hbound : (sLen + n) * bytes ≤ 140737488355328) :
    ∃ cv w', (Builtin.append_ #[t, tx] ty #[.slice base sLen sCap, y]).run P w = .ok cv w' ∧
      Out P H.length ρ H w (H ++ [.cells (olds ++ new) elem true]) (.slice (some ⟨H.length, 0, none⟩) (sLen + n) UNK) cv w' := by
  obtain ⟨i, hi, hisz⟩ := sizeP_info hsz
  have hiz : i.zero = some zero := by unfold zeroP at hz; simpa [hi] using hz
  have hib : i.bytes = bytes := by unfold bytesP at hby; simpa [hi] using hby
  have h47 : sLen + n ≤ 140737488355328 := Nat.le_trans (Nat.le_mul_of_pos_right _ (Nat.pos_of_ne_zero hb0)) hbound
  subst hisz; subst hib
  have hrun := run_append_grow_src (P := P) w t tx ty elem i zero hu hi hiz base sLen sCap olds' hold y n new' hs hg (by omega) (growslice_fits hg hbound)
  have hge := grownCap_ge w (sLen + n) sCap elem
  have hlen : ((olds' ++ new').toArray ++ Builtin.zeroCells zero.cells (grownCap w (sLen + n) sCap elem - (sLen + n))).size = grownCap w (sLen + n) sCap elem * i.size := by
    have e1 := ho.1; have e2 := hL.1
    simp only [Array.size_append, List.size_toArray, List.length_append, zeroCells_size, hzs, ← e1, ← e2, hol, hnl]
    rw [← Nat.add_mul, ← Nat.add_mul]; congr 1; omega
  have hrow := row_sound' (w := w.drew) h.drew (e := elem) (cs := olds ++ new) (cs' := olds' ++ new') (arr := (olds' ++ new').toArray ++ Builtin.zeroCells zero.cells (grownCap w (sLen + n) sCap elem - (sLen + n))) (fz := (0, 0))
    (by simp only [Array.toList_append]; rw [List.take_append_of_le_length (by simp [ho.1, hL.1])]; exact List.take_of_length_le (by simp [ho.1, hL.1]))
    (ho.append hL) (by rw [allCells_append, hoac, hac]; rfl) (.inl rfl)
  refine ⟨_, _, hrun, ⟨_, hrow.1, (Step.drew _).trans hrow.2, ?_⟩, by simp⟩
  refine VRel.slice (base := 0) (o := 0) (upd_self _ _ _) (fun hne => absurd rfl hne) hge (fun _ => ⟨elem, _, shape_alloc_new _ _ _ _, ?_⟩)
  rw [cellsOf_sizeP hsz, hlen]; omega

theorem append_sound (h : Rel P ρ H w) {argTypes : Array TypeId} {ty : TypeId} {x y cx cy v : Value} {st' : AS} {e : Option Nat} (hs : aAppend P argTypes x y ⟨H, e⟩ = some (v, st')) (hx : VRel P ρ w.shape? x cx) (hy : VRel P ρ w.shape? y cy) :
    ∃ cv w', (Builtin.append_ argTypes ty #[cx, cy]).run P w = .ok cv w' ∧ Out P H.length ρ H w st'.H v cv w' := by
  unfold aAppend at hs
  split at hs
  case h_2 => simp at hs
  rename_i t tx hat
  have hat' : argTypes = #[t, tx] := by cases argTypes; simp at hat; subst hat; rfl
  subst hat'
  split at hs
  case h_2 => simp at hs
  rename_i elem hu
  split at hs
  case h_2 => simp at hs
  rename_i size bytes zero n new hsz hby hz hsrc
  rw [hsz] at hsrc; simp only [Option.getD_some] at hsrc
  rw [ite_some] at hs
  obtain ⟨⟨hk, hs0, hb0, hzs⟩, hs⟩ := hs
  have hk' : (∃ e', P.underlying tx = some (.slice e')) ∨ P.underlying tx = some .string := by
    split at hk
    · rename_i e' he; exact .inl ⟨e', he⟩
    · rename_i he; exact .inr he
    · simp at hk
  obtain ⟨new', hS, hL, hac, hnl⟩ := src_sound h hk' hsrc hy
  obtain ⟨i, hi, hisz⟩ := sizeP_info hsz
  cases x with
  | slice a len cap =>
    cases a with
    | none =>
      simp only at hs
      split at hs
      case isFalse => simp at hs
      rename_i hlc
      obtain ⟨rfl, rfl⟩ := hlc
      have := hx.eq_of_plain rfl; subst this
      split at hs
      · rename_i hn
        simp at hs; obtain ⟨rfl, rfl⟩ := hs
        subst hn
        have hnew : new' = [] := by have := hL.1; rw [hnl] at this; simp at this; exact List.eq_nil_of_length_eq_zero this.symm
        subst hnew
        refine ⟨_, w, run_append_nothing w t tx ty elem i hu hi none 0 0 (Nat.le_refl _) cy (by rw [hisz]; exact hS), ⟨ρ, h, .refl _, .same _ rfl⟩, Nat.le_refl _⟩
      · rename_i hn
        simp only [ite_eq_some_iff] at hs
        obtain ⟨hb, hv⟩ := hs
        simp [aRow, newBlk] at hv; obtain ⟨rfl, rfl⟩ := hv
        have := grow_sound (olds := []) (olds' := []) (base := none) (sLen := 0) (sCap := 0) (ty := ty) h hu hsz hby hz hzs hs0 hb0 hS hL hac .nil rfl (by simp) hnl (run_firstCells_none w.drew size 0 0 0) (by omega) (by simpa using hb)
        simpa using this
    | some a =>
      simp only at hs
      split at hs
      · rename_i hn
        simp at hs; obtain ⟨rfl, rfl⟩ := hs
        subst hn
        have hnew : new' = [] := by have := hL.1; rw [hnl] at this; simp at this; exact List.eq_nil_of_length_eq_zero this.symm
        subst hnew
        rcases hx.slice_inv with ⟨cb, base, cap', hsp, hr, rfl, hc, hl, _⟩ | ⟨a', hsp, hb', rfl, rfl, hc⟩
        · exact ⟨_, w, run_append_nothing w t tx ty elem i hu hi _ len cap' hl cy (by rw [hisz]; exact hS), ⟨ρ, h, .refl _, hx⟩, Nat.le_refl _⟩
        · exact ⟨_, w, run_append_nothing w t tx ty elem i hu hi _ 0 0 (Nat.le_refl _) cy (by rw [hisz]; exact hS), ⟨ρ, h, .refl _, hx⟩, Nat.le_refl _⟩
      · rename_i hn
        split at hs
        case isFalse => simp at hs
        rename_i hb
        split at hs
        · -- the capacity is known
          rename_i hcap
          split at hs
          · -- there is room
            rename_i hroom
            simp only [Option.map_eq_some_iff] at hs
            obtain ⟨s, hst, hv⟩ := hs
            simp at hv; obtain ⟨rfl, rfl⟩ := hv
            rcases hx.slice_inv with ⟨cb, base, cap', hsp, hr, rfl, hc, hl, _⟩ | ⟨a', hsp, hb', rfl, rfl, hc⟩
            · have hcc := hc hcap; subst hcc
              obtain ⟨g1, g2, g3, g4, g5, g6⟩ := storeL_sound h hst hr hL
              have hrun := run_append_room_src (P := P) w t tx ty elem i hu hi cb (base + a.off) len cap' cy n new' (by rw [hisz]; exact hS) hroom (by rw [hisz]; simpa [Nat.add_assoc] using g4) (by rw [hisz]; simpa [Nat.add_assoc] using g5)
              rw [hisz] at hrun
              rw [show base + a.off + len * size = base + (a.off + len * size) by omega] at hrun
              refine ⟨_, _, hrun, ⟨ρ, g1, g2, ?_⟩, by omega⟩
              obtain ⟨ab, ao, asp⟩ := a
              simp only at hsp hr; subst hsp
              exact .slice hr (fun _ => rfl) hroom (fun he => absurd he hcap)
            · exfalso; have := hc hcap; omega
          · rename_i hroom
            simp only [Option.map_eq_some_iff] at hs
            obtain ⟨old, hold, hv⟩ := hs
            simp [aRow, newBlk] at hv; obtain ⟨rfl, rfl⟩ := hv
            have hoac := allCells_cellsAt h hold
            rcases hx.slice_inv with ⟨cb, base, cap', hsp, hr, rfl, hc, hl, _⟩ | ⟨a', hsp, hb', rfl, rfl, hc⟩
            · have hcc := hc hcap; subst hcc
              obtain ⟨old', ho1, ho2, hoL, hoc⟩ := cellsAt_rel h hold hr
              exact grow_sound (ty := ty) h hu hsz hby hz hzs hs0 hb0 hS hL hac hoL hoac ho2 hnl (run_firstCells_some w.drew size len _ len cap' old' ho1 hoc) (by omega) hb
            · have hcc := hc hcap; subst hcc
              have hl0 : old = [] := by
                unfold cellsAt at hold
                split at hold
                · split at hold
                  · simp at hold; exact hold
                  · simp at hold
                · simp at hold
              subst hl0
              exact grow_sound (ty := ty) h hu hsz hby hz hzs hs0 hb0 hS hL hac .nil rfl (by simp) hnl (run_firstCells_some w.drew size 0 a' 0 0 [] (by simp) (fun j u hj => by simp at hj)) (by omega) hb
        · -- it is not
          rename_i hcap
          have hcap : cap = UNK := by simpa using hcap
          split at hs
          case h_2 => simp at hs
          rename_i cs et hbk
          simp only [ite_eq_some_iff] at hs
          obtain ⟨⟨rfl, hin⟩, hv⟩ := hs
          simp [aRow, newBlk] at hv; obtain ⟨rfl, rfl⟩ := hv
          obtain ⟨cb', base', carr, fz, q1, q2, q3, q4, q5, q6, q7⟩ := cells_get h hbk
          have hcell : cellsAt H a.block a.off (len * size) = some ((cs.drop a.off).take (len * size)) := by unfold cellsAt; rw [hbk]; simp [hin]
          have hoac := allCells_cellsAt h hcell
          have holdl : ((cs.drop a.off).take (len * size)).length = len * size := by simp; omega
          -- the new row, grown
          have grown : ∀ (base : Option Addr) (sCap : Nat) (olds' : List Value), LRel P ρ w.shape? ((cs.drop a.off).take (len * size)) olds' → (Builtin.firstCells size len (.slice base len sCap)).run P w.drew = .ok olds'.toArray w.drew → sCap < len + n →
              ∃ cv w', (Builtin.append_ #[t, tx] ty #[.slice base len sCap, cy]).run P w = .ok cv w' ∧
                Out P H.length ρ H w (H.set a.block .dead ++ [.cells ((cs.drop a.off).take (len * size) ++ new) et true]) (.slice (some ⟨H.length, 0, none⟩) (len + n) UNK) cv w' := by
            intro base sCap olds' hoL hfc hg
            have hk := kill_rel h (b := a.block)
            obtain ⟨cv, w', hrun, ⟨ρ2, r1, r2, r3⟩, r4⟩ := grow_sound (ty := ty) hk.1 hu hsz hby hz hzs hs0 hb0 hS hL hac hoL hoac holdl hnl hfc hg hb
            rw [List.length_set] at r2 r3
            exact ⟨cv, w', hrun, ⟨ρ2, r1, hk.2.trans r2, r3⟩, by simp⟩
          rcases hx.slice_inv with ⟨cb, base, cap', hsp, hr, rfl, hc, hl, hun⟩ | ⟨a', hsp, hb', rfl, rfl, hc⟩
          · rw [q1] at hr; simp at hr; obtain ⟨rfl, rfl⟩ := hr
            obtain ⟨old', ho1, ho2, hoL, hoc⟩ := cellsAt_rel h hcell q1
            by_cases hroom : len + n ≤ cap'
            · -- in place: the row goes on under a new name
              obtain ⟨e1, n1, u1, u2⟩ := hun hcap
              have hshp : w.shape? cb' = some (et, carr.size) := by simp [World.shape?, q2]
              rw [hshp] at u1; simp at u1; obtain ⟨rfl, rfl⟩ := u1
              rw [cellsOf_sizeP hsz] at u2
              have hfz0 := q6 rfl
              have hfz := hfz0.not
              have hnl' : new'.length = n * size := by rw [← hL.1]; exact hnl
              have hmul : (len + n) * size ≤ cap' * size := Nat.mul_le_mul_right _ hroom
              rw [Nat.add_mul] at hmul
              have hfit : base' + a.off + len * size + new'.length ≤ carr.size := by rw [hnl']; omega
              have hrun := run_append_room_src (P := P) w t tx ty et i hu hi cb' (base' + a.off) len cap' cy n new' (by rw [hisz]; exact hS) hroom
                (by rw [hisz]; intro j hj; rw [cell_at q2, Array.getElem?_eq_getElem (by omega)]; rfl)
                (by
                  rw [hisz]; intro j hj
                  simp only [World.frozen?, q2]
                  have := hfz (base' + a.off + len * size + j) (by omega)
                  simp only [Bool.and_eq_false_iff, decide_eq_false_iff_not]
                  by_cases hx : fz.1 ≤ base' + a.off + len * size + j
                  · exact .inr (fun hy => this ⟨hx, hy⟩)
                  · exact .inl hx)
              rw [hisz, heap_setCells cb' et fz new' (base' + a.off + len * size) w carr q2 hfit] at hrun
              have hpl : (putCells carr.toList (base' + a.off + len * size) new').length = carr.size := by rw [putCells_length (by simpa using hfit)]; simp
              have hmv := move_rel h (k' := .cells ((cs.drop a.off).take (len * size) ++ new) et true) (base' := base' + a.off) (o' := .cells (putCells carr.toList (base' + a.off + len * size) new').toArray et fz) hbk rfl q1 q2 rfl (by simp [hpl])
                (by
                  refine ⟨_, fz, rfl, ?_, fun _ => by simpa [hpl] using hfz0, by rw [allCells_append, hoac, hac]; rfl⟩
                  have : List.take ((cs.drop a.off).take (len * size) ++ new).length (List.drop (base' + a.off) (putCells carr.toList (base' + a.off + len * size) new').toArray.toList) = old' ++ new' := by
                    apply List.ext_getElem?; intro j
                    rw [List.length_append, holdl, hnl, List.getElem?_take, List.getElem?_drop]
                    rw [putCells_get (by simpa using hfit)]
                    by_cases h0 : j < len * size
                    · rw [if_pos (by omega), if_pos (by omega), List.getElem?_append_left (by omega)]
                      have := hoc j
                      cases hj : old'[j]? with
                      | none => rw [List.getElem?_eq_none_iff] at hj; omega
                      | some u =>
                        have := this u hj
                        rw [add_none, cell_at q2] at this
                        simpa using this
                    · by_cases h1 : j < len * size + n * size
                      · rw [if_pos (by omega), if_neg (by omega), if_pos (by omega), List.getElem?_append_right (by omega)]
                        congr 1; omega
                      · rw [if_neg (by omega), List.getElem?_eq_none (by simp; omega)]
                  rw [this]
                  exact (hoL.append hL).mono (fun _ _ h => h) (upd_mono (h.dom _ (Nat.le_refl _))) (fun _ _ h => h))
              refine ⟨_, _, hrun, ⟨_, hmv.1, hmv.2, ?_⟩, by simp⟩
              have hsh2 := setBlk_shape (o := .cells (putCells carr.toList (base' + a.off + len * size) new').toArray et fz) q2 (by simp [hpl])
              have := VRel.slice (P := P) (ρ := upd ρ H.length (cb', base' + a.off)) (sh := (setBlk w cb' (.cells (putCells carr.toList (base' + a.off + len * size) new').toArray et fz)).shape?) (b := H.length) (o := 0) (len := len + n) (cap := UNK) (cap' := cap')
                (upd_self _ _ _) (fun hne => absurd rfl hne) hroom (fun _ => ⟨et, carr.size, by rw [hsh2]; exact hshp, by rw [cellsOf_sizeP hsz]; omega⟩)
              simpa using this
            · exact grown _ cap' old' hoL (run_firstCells_some w.drew size len _ len cap' old' ho1 hoc) (by omega)
          · exact grown _ 0 [] (by simp; exact .nil) (run_firstCells_some w.drew size 0 a' 0 0 [] (by simp) (fun j u hj => by simp at hj)) (by omega)
  | _ => simp at hs

end
end Go.Am
