/- Operations, further: conversions, make, append, copy, len. -/
import Derived.Test.YtfinilnkempofaaAm6
import Derived.Laws.AppendOwn
set_option linter.all false
set_option linter.unusedVariables false
set_option linter.unusedSimpArgs false
set_option linter.unnecessarySimpa false
namespace Go.Am

section
variable {P : Program} {ρ ρ' : Ren} {H : List Blk} {w : World}

theorem isByte_spec {e : TypeId} (h : isByte P e = true) : P.underlying e = some (.int .u8) ∧ sizeP P e = some 1 := by
  unfold isByte at h
  split at h
  · rename_i h1 h2; exact ⟨h1, h2⟩
  · simp at h

theorem cellsOf_sizeP {e : TypeId} {n : Nat} (h : sizeP P e = some n) : P.cellsOf e = n := by unfold sizeP at h; simp [Program.cellsOf, h]

theorem Rel.drew (h : Rel P ρ H w) : Rel P ρ H w.drew := h.congr rfl
theorem Step.drew (n : Nat) : Step n ρ H w ρ H w.drew := .congr n rfl rfl rfl

/-- a new row, its frozen range behind it -/
theorem row_sound' (h : Rel P ρ H w) {e : TypeId} {cs cs' : List Value} {arr : Array Value} {fz : Nat × Nat} (harr : arr.toList.take cs.length = cs') (hL : LRel P ρ w.shape? cs cs') (hac : allCells cs = true)
    (hfz : FzOk arr.size fz) :
    Rel P (upd ρ H.length (w.heap.size, 0)) (H ++ [.cells cs e true]) (w.alloc (.cells arr e fz)) ∧
    Step H.length ρ H w (upd ρ H.length (w.heap.size, 0)) (H ++ [.cells cs e true]) (w.alloc (.cells arr e fz)) := by
  refine alloc_rel h _ _ ⟨_, fz, rfl, ?_, fun _ => hfz, hac⟩
  rw [List.drop_zero, harr]
  exact hL.mono (fun _ _ h => h) (upd_mono (h.dom _ (Nat.le_refl _))) (shape_alloc _ _)

theorem shape_alloc_new (w : World) (c : Array Value) (e : TypeId) (fz : Nat × Nat) : (w.alloc (.cells c e fz)).shape? w.heap.size = some (e, c.size) := by
  simp only [World.shape?, heap_alloc_new]

/-- bytes that are taken for bytes: their row is marked behind its end -/
theorem run_mark (w : World) (t e : TypeId) (a : Addr) (len cap : Nat) (carr : Array Value) (et : TypeId) (fz : Nat × Nat) (ht : P.underlying t = some (.slice e)) (he : P.underlying e = some (.int .u8))
    (hb : w.heap[a.block]? = some (.cells carr et fz)) (hfz : FzOk carr.size fz) :
    ∃ fz', FzOk carr.size fz' ∧ (convert t t (.slice (some a) len cap)).run P w = .ok (.slice (some a) len cap) (setBlk w a.block (.cells carr et fz')) := by
  have hsh : w.shape? a.block = some (et, carr.size) := by simp [World.shape?, hb]
  have hlt := lt_of_getA hb
  obtain ⟨lo, hi⟩ := fz
  refine ⟨if lo == hi then (carr.size, carr.size + 1) else (min lo carr.size, max hi (carr.size + 1)), ?_, ?_⟩
  · right
    split
    · exact Nat.le_refl _
    · rename_i hne
      rcases hfz with hz | hz
      · simp at hz; obtain ⟨rfl, rfl⟩ := hz; simp at hne
      · exact Nat.le_min.2 ⟨hz, Nat.le_refl _⟩
  · have hfr : w.freeze { block := a.block, off := carr.size } 1 = setBlk w a.block (.cells carr et (if lo == hi then (carr.size, carr.size + 1) else (min lo carr.size, max hi (carr.size + 1)))) := by
      unfold World.freeze
      rw [if_neg (by decide)]
      unfold setBlk
      congr 1
      apply Array.ext_getElem?
      intro i
      rw [Array.getElem?_modify]
      by_cases hi : a.block = i
      · subst hi
        rw [if_pos rfl, Array.getElem?_setIfInBounds_self_of_lt hlt, hb]
        rfl
      · rw [if_neg hi, Array.getElem?_setIfInBounds_ne hi]
    simp [convert, run_underlying ht, run_underlying he, markStringish, hsh, hfr]

/-- what stands behind a step that made a block -/
structure Out (P : Program) (n : Nat) (ρ : Ren) (H : List Blk) (w : World) (H' : List Blk) (v : Value) (cv : Value) (w' : World) : Prop where
  ex : ∃ ρ', Rel P ρ' H' w' ∧ Step n ρ H w ρ' H' w' ∧ VRel P ρ' w'.shape? v cv
  len : n ≤ H'.length

theorem bytesOf_spec : ∀ (l : List Value) (bs : List UInt8), bytesOf l = some bs → plainL l = true ∧ l.length = bs.length ∧ ∀ (j : Nat) (b : UInt8), bs[j]? = some b → ∃ n : Int, l[j]? = some (.int .u8 n) ∧ b = UInt8.ofNat n.toNat
  | [], bs, h => by simp [bytesOf] at h; subst h; exact ⟨rfl, rfl, fun j b hb => by simp at hb⟩
  | v :: r, bs, h => by
    cases v with
    | int k n =>
      cases k <;> simp [bytesOf] at h
      obtain ⟨bs', h1, rfl⟩ := h
      obtain ⟨h2, h3, h4⟩ := bytesOf_spec r bs' h1
      refine ⟨by simp [plainL, plain, h2], by simp [h3], fun j b hb => ?_⟩
      cases j with
      | zero => simp at hb; exact ⟨n, by simp, hb.symm⟩
      | succ j => simp at hb; obtain ⟨m, hm, he⟩ := h4 j b hb; exact ⟨m, by simpa using hm, he⟩
    | _ => simp [bytesOf] at h

theorem foldl_push : ∀ (l : List Int) (r : ByteArray), l.foldl (fun r n => r.push (UInt8.ofNat n.toNat)) r = ⟨r.data ++ (l.map fun n => UInt8.ofNat n.toNat).toArray⟩
  | [], r => by simp
  | b :: l, r => by simp only [List.foldl_cons]; rw [foldl_push l]; simp [ByteArray.push]

theorem bytesOf_ints : ∀ (l : List Value) (bs : List UInt8), bytesOf l = some bs → ∃ ns : List Int, l = ns.map (Value.int .u8) ∧ bs = ns.map fun n => UInt8.ofNat n.toNat
  | [], bs, h => by simp [bytesOf] at h; subst h; exact ⟨[], rfl, rfl⟩
  | v :: r, bs, h => by
    cases v with
    | int k n =>
      cases k <;> simp [bytesOf] at h
      obtain ⟨bs', h1, rfl⟩ := h
      obtain ⟨ns, rfl, rfl⟩ := bytesOf_ints r bs' h1
      exact ⟨n :: ns, rfl, rfl⟩
    | _ => simp [bytesOf] at h

theorem plain_bytes (l : List UInt8) : plainL (l.map fun c => Value.int .u8 (c.toNat : Int)) = true := by
  induction l with
  | nil => rfl
  | cons x xs ih => simp [plainL, plain, ih]

theorem cells_bytes (l : List UInt8) : allCells (l.map fun c => Value.int .u8 (c.toNat : Int)) = true := by
  induction l with
  | nil => rfl
  | cons x xs ih => simp [allCells, cellV]

theorem conv_sound (h : Rel P ρ H w) {s d : TypeId} {x cx v : Value} {st' : AS} {e : Option Nat} (hs : aConv P s d x ⟨H, e⟩ = some (v, st')) (hx : VRel P ρ w.shape? x cx) :
    ∃ cv w', (convert s d cx).run P w = .ok cv w' ∧ Out P H.length ρ H w st'.H v cv w' := by
  unfold aConv at hs
  split at hs
  · rename_i d1 k k' n h1 h2
    simp at hs; obtain ⟨rfl, rfl⟩ := hs
    have := hx.int_inv; subst this
    refine ⟨.int k (k.wrap n), w, ?_, ⟨ρ, h, .refl _, .same _ rfl⟩, Nat.le_refl _⟩
    simp [convert, run_underlying h1, run_underlying h2, Conv.intToInt]
  · rename_i b h1 h2
    simp at hs; obtain ⟨rfl, rfl⟩ := hs
    have := hx.string_inv; subst this
    refine ⟨.string b, w, ?_, ⟨ρ, h, .refl _, .same _ rfl⟩, Nat.le_refl _⟩
    simp [convert, run_underlying h1, run_underlying h2]
  · rename_i el b h1 h2
    split at hs
    · rename_i hby
      obtain ⟨hu8, hsz⟩ := isByte_spec hby
      simp [aRow, newBlk] at hs; obtain ⟨rfl, rfl⟩ := hs
      have := hx.string_inv; subst this
      have hrun := run_bytes_of_string (P := P) w s d el b h1 h2 hu8
      have hcap := grownCap_ge w b.size 0 el
      have hsize : (bytesRow b (grownCap w b.size 0 el)).size = grownCap w b.size 0 el := by
        have : b.data.size = b.size := rfl
        simp [bytesRow]; omega
      have hrow := row_sound' (w := w.drew) h.drew (e := el) (cs := b.data.toList.map fun c => Value.int .u8 c.toNat) (cs' := b.data.toList.map fun c => Value.int .u8 c.toNat) (arr := bytesRow b (grownCap w b.size 0 el))
        (fz := ((bytesRow b (grownCap w b.size 0 el)).size, (bytesRow b (grownCap w b.size 0 el)).size + 1)) (by simp [bytesRow])
        (.refl_plain (plain_bytes _)) (cells_bytes _) (.inr (Nat.le_refl _))
      refine ⟨_, _, hrun, ⟨_, hrow.1, (Step.drew _).trans hrow.2, ?_⟩, by simp⟩
      have hq := VRel.slice (P := P) (ρ := upd ρ H.length (w.drew.heap.size, 0)) (sh := (w.drew.alloc (.cells (bytesRow b (grownCap w b.size 0 el)) el ((bytesRow b (grownCap w b.size 0 el)).size, (bytesRow b (grownCap w b.size 0 el)).size + 1))).shape?)
        (b := H.length) (o := 0) (cb := w.heap.size) (base := 0) (len := b.size) (cap := UNK) (cap' := grownCap w b.size 0 el) (upd_self _ _ _) (fun hne => absurd rfl hne) hcap
        (fun _ => ⟨el, (bytesRow b (grownCap w b.size 0 el)).size, shape_alloc_new _ _ _ _, by rw [cellsOf_sizeP hsz, hsize]; omega⟩)
      exact hq
    · simp at hs
  · rename_i el l c h1 h2
    split at hs
    · rename_i hby
      obtain ⟨hu8, _⟩ := isByte_spec hby
      simp at hs; obtain ⟨rfl, rfl⟩ := hs
      have := hx.eq_of_plain rfl; subst this
      refine ⟨.string .empty, w, ?_, ⟨ρ, h, .refl _, .same _ rfl⟩, Nat.le_refl _⟩
      simp [convert, run_underlying h1, run_underlying h2, run_underlying hu8, Conv.bytesToString]
    · simp at hs
  · rename_i el a len cap h1 h2
    split at hs
    · rename_i hby
      obtain ⟨hu8, _⟩ := isByte_spec hby
      simp only [Option.map_eq_some_iff, Option.bind_eq_some_iff] at hs
      obtain ⟨bs, ⟨l, hl, hbs⟩, hv⟩ := hs
      simp at hv; obtain ⟨rfl, rfl⟩ := hv
      obtain ⟨ns, rfl, rfl⟩ := bytesOf_ints l bs hbs
      rcases hx.slice_inv with ⟨cb, base, cap', hsp, hr, rfl, _, _, _⟩ | ⟨a', hsp, hb', rfl, rfl, _⟩
      · obtain ⟨l', hl1, hl2, hL, hc⟩ := cellsAt_rel h hl hr
        have : l' = ns.map (Value.int .u8) := hL.eq_of_plain (by
          have hp : ∀ l : List Int, plainL (l.map (Value.int .u8)) = true := fun l => by induction l with
            | nil => rfl
            | cons x xs ih => simp [plainL, plain, ih]
          exact hp _)
        subst this
        have hlc := run_loadCells_list (P := P) w ⟨cb, base + a.off, none⟩ _ hc
        rw [hl1] at hlc
        refine ⟨_, w, ?_, ⟨ρ, h, .refl _, .same _ rfl⟩, Nat.le_refl _⟩
        rw [run_convert_bytes_string w s d el (some ⟨cb, base + a.off, none⟩) len cap' h1 hu8 h2, run_bytesToString w _ len cap' ns hlc, foldl_push]
        have he0 : ByteArray.empty.data = #[] := rfl
        rw [he0]; simp
      · -- nothing is read
        have hns : ns = [] := by
          unfold cellsAt at hl
          split at hl
          · split at hl
            · simp at hl; cases ns <;> simp_all
            · simp at hl
          · simp at hl
        subst hns
        refine ⟨_, w, ?_, ⟨ρ, h, .refl _, .same _ rfl⟩, Nat.le_refl _⟩
        have hlc := run_loadCells_list (P := P) w a' [] (fun j v hj => by simp at hj)
        rw [run_convert_bytes_string w s d el (some a') 0 0 h1 hu8 h2, run_bytesToString w a' 0 0 [] (by simpa using hlc)]
        rfl
    · simp at hs
  · rename_i el0 el a len cap h1 h2
    split at hs
    · rename_i cs et hb
      split at hs
      · rename_i hc
        obtain ⟨rfl, hby, hlen⟩ := hc
        rw [h2] at h1; simp at h1; subst h1
        obtain ⟨hu8, _⟩ := isByte_spec hby
        simp at hs; obtain ⟨rfl, rfl⟩ := hs
        rcases id hx.slice_inv with ⟨cb, base, cap', hsp, hr, rfl, _, _, _⟩ | ⟨a', hsp, hb', rfl, rfl, _⟩
        · obtain ⟨cb', base', carr, fz, g1, g2, g3, g4, g5, g6⟩ := cells_get h hb
          rw [g1] at hr; simp at hr; obtain ⟨rfl, rfl⟩ := hr
          have hfz := g6.1 rfl
          obtain ⟨fz', hfz', hrun⟩ := run_mark (P := P) w s el ⟨cb', base' + a.off, none⟩ len cap' carr et fz h2 hu8 g2 hfz
          have hset := set_rel h (k' := .cells cs et true) (o' := .cells carr et fz') hb rfl g1 g2 rfl rfl ⟨_, _, rfl, g5, fun _ => hfz', g6.2⟩
          have e2 : H.set a.block (.cells cs et true) = H := by
            apply List.ext_getElem?; intro i
            by_cases hi : a.block = i
            · subst hi; rw [List.getElem?_set_self (lt_of_get hb), hb]
            · rw [List.getElem?_set_ne hi]
          rw [e2] at hset
          refine ⟨_, _, hrun, ⟨ρ, hset.1, hset.2, hx.mono (fun _ _ h => h) (fun _ _ h => h) hset.2.shape⟩, Nat.le_refl _⟩
        · exact absurd rfl hlen
      · simp at hs
    · simp at hs
  · rename_i el len row h1 h2
    split at hs
    · rename_i hby
      obtain ⟨hu8, _⟩ := isByte_spec hby
      simp only [Option.map_eq_some_iff, Option.bind_eq_some_iff, tStr, ite_eq_some_iff] at hs
      obtain ⟨bs, ⟨l, ⟨hsz, hl⟩, hbs⟩, hv⟩ := hs
      simp at hl; subst hl
      simp at hv; obtain ⟨rfl, rfl⟩ := hv
      obtain ⟨ns, hns, rfl⟩ := bytesOf_ints _ bs hbs
      rcases hx.ptree_inv with ⟨cb, base, cap', c, l', rfl, hz, hc, hle, hL⟩ | ⟨rfl, rfl, a', cap', hnil, rfl⟩
      · have hll : l'.length = len := by have := hL.1; simp at this; omega
        rw [hns] at hL
        have : l' = ns.map (Value.int .u8) := hL.eq_of_plain (by
          have hp : ∀ l : List Int, plainL (l.map (Value.int .u8)) = true := fun l => by induction l with
            | nil => rfl
            | cons x xs ih => simp [plainL, plain, ih]
          exact hp _)
        subst this
        have hlc := run_loadCells_list (P := P) w ⟨cb, base, none⟩ (ns.map (Value.int .u8)) (fun j v hj => by rw [add_none]; exact fz_cell h hz hc j v hj)
        rw [hll] at hlc
        refine ⟨_, w, ?_, ⟨ρ, h, .refl _, .same _ rfl⟩, Nat.le_refl _⟩
        rw [run_convert_bytes_string w s d el (some ⟨cb, base, none⟩) len cap' h1 hu8 h2, run_bytesToString w _ len cap' ns hlc, foldl_push]
        have he0 : ByteArray.empty.data = #[] := rfl
        rw [he0]; simp
      · have hns0 : ns = [] := by simpa using hns.symm
        subst hns0
        cases a' with
        | none =>
          have := hnil rfl; subst this
          refine ⟨.string .empty, w, ?_, ⟨ρ, h, .refl _, .same _ rfl⟩, Nat.le_refl _⟩
          simp [convert, run_underlying h1, run_underlying h2, run_underlying hu8, Conv.bytesToString]
        | some a' =>
          refine ⟨_, w, ?_, ⟨ρ, h, .refl _, .same _ rfl⟩, Nat.le_refl _⟩
          have hlc := run_loadCells_list (P := P) w a' [] (fun j v hj => by simp at hj)
          rw [run_convert_bytes_string w s d el (some a') 0 cap' h1 hu8 h2, run_bytesToString w a' 0 cap' [] (by simpa using hlc)]
          rfl
    · simp at hs
  · simp at hs

theorem madeCells_flat (z : Array Value) (hz : 0 < z.size) : ∀ c : Nat, (madeCells z (c * z.size)).toList = (List.replicate c z.toList).flatten := by
  intro c
  induction c with
  | zero => simp [madeCells]
  | succ c ih =>
    rw [List.replicate_succ', List.flatten_append, ← ih]
    apply List.ext_getElem?; intro i
    have hsz : ∀ n, (madeCells z n).toList.length = n := fun n => by simp [madeCells]
    have hget : ∀ n i, i < n → (madeCells z n).toList[i]? = some z[i % z.size]! := by
      intro n i hi
      simp [madeCells, hi]
    by_cases h1 : i < c * z.size
    · rw [List.getElem?_append_left (by rw [hsz]; exact h1), hget _ _ h1, hget _ _ (by rw [Nat.add_mul]; omega)]
    · rw [List.getElem?_append_right (by rw [hsz]; omega), hsz]
      by_cases h2 : i < (c + 1) * z.size
      · rw [hget _ _ h2]
        obtain ⟨j, rfl⟩ : ∃ j, i = c * z.size + j := ⟨i - c * z.size, by omega⟩
        have hj : j < z.size := by rw [Nat.add_mul] at h2; omega
        rw [Nat.add_sub_cancel_left, Nat.add_comm (c * z.size) j, Nat.add_mul_mod_self_right, Nat.mod_eq_of_lt hj]
        simp [hj]
      · rw [List.getElem?_eq_none (by rw [hsz]; omega), List.getElem?_eq_none (by simp; rw [Nat.add_mul] at h2; omega)]

theorem allCells_flat {l : List Value} (h : allCells l = true) : ∀ c : Nat, allCells (List.replicate c l).flatten = true
  | 0 => rfl
  | c + 1 => by rw [List.replicate_succ, List.flatten_cons, allCells_append, h, allCells_flat h c]; rfl

theorem makeSlice_sound (h : Rel P ρ H w) {t : TypeId} {l c cl cc v : Value} {st' : AS} {e : Option Nat} (hs : aMakeSlice P t l c ⟨H, e⟩ = some (v, st')) (hl : VRel P ρ w.shape? l cl) (hc : VRel P ρ w.shape? c cc) :
    ∃ cv w', (Instr.makeSlice t cl cc).run P w = .ok cv w' ∧ Out P H.length ρ H w st'.H v cv w' := by
  unfold aMakeSlice at hs
  split at hs
  · rename_i elem kl li kc ci hu
    split at hs
    · rename_i size bytes zero hsz hby hz
      simp only [ite_eq_some_iff] at hs
      obtain ⟨⟨h0, hlc, hb, hb2, hzs, hpos, hac, hpl⟩, hv⟩ := hs
      simp [aRow, newBlk] at hv; obtain ⟨rfl, rfl⟩ := hv
      have := hl.int_inv; subst this
      have := hc.int_inv; subst this
      obtain ⟨i, hi, hisz⟩ := sizeP_info hsz
      have hiz : i.zero = some zero := by unfold zeroP at hz; simpa [hi] using hz
      have hib : i.bytes = bytes := by unfold bytesP at hby; simpa [hi] using hby
      have hrun := run_make (P := P) w t elem i zero hu hi hiz kl kc li ci h0 hlc (by rw [hib]; have := Int.mul_comm ci (bytes : Int); omega) (by omega)
      rw [hisz] at hrun
      have hmc : (madeCells zero.cells (ci.toNat * size)).toList = (List.replicate ci.toNat zero.cells.toList).flatten := by rw [← hzs]; exact madeCells_flat _ (by omega) _
      have hlen : ((List.replicate ci.toNat zero.cells.toList).flatten).length = ci.toNat * size := by rw [← hmc]; simp [madeCells]
      have hrow := row_sound' h (e := elem) (cs := (List.replicate ci.toNat zero.cells.toList).flatten) (cs' := (List.replicate ci.toNat zero.cells.toList).flatten) (arr := madeCells zero.cells (ci.toNat * size)) (fz := (0, 0))
        (by rw [hmc]; exact List.take_of_length_le (by rw [hlen]; exact Nat.le_refl _)) (.flatten_replicate hpl _) (allCells_flat hac _) (.inl rfl)
      refine ⟨_, _, hrun, ⟨_, hrow.1, hrow.2, ?_⟩, by simp⟩
      refine VRel.slice (cap' := ci.toNat) (base := 0) (o := 0) (upd_self _ _ _) (fun _ => rfl) (by omega) (fun he => ?_)
      exfalso; unfold UNK at he; omega
    · simp at hs
  · simp at hs

end
end Go.Am
