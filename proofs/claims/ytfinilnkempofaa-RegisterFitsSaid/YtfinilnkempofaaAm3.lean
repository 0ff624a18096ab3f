/- How abstract blocks stand to the model's memory, and what a step may do to it. -/
import Derived.Test.YtfinilnkempofaaAm2
set_option linter.all false
set_option linter.unusedVariables false
set_option linter.unusedSimpArgs false
set_option linter.unnecessarySimpa false
namespace Go.Am

def ERel (P : Program) (ρ : Ren) (sh : Sh) (e ce : MapEntry) : Prop := VRel P ρ sh e.key ce.key ∧ VRel P ρ sh e.val ce.val ∧ ce.born = e.born

/-- is a block written by nobody else? -/
def Blk.owns : Blk → Bool
  | .cells _ _ own => own
  | .map _ _ => true
  | .iter _ _ _ _ => true
  | .dead => false

def Blk.live : Blk → Bool
  | .dead => false
  | _ => true

/-- what is frozen of a row of so many cells lies behind them -/
def FzOk (n : Nat) (fz : Nat × Nat) : Prop := fz = (0, 0) ∨ n ≤ fz.1

theorem FzOk.not {n : Nat} {fz : Nat × Nat} (h : FzOk n fz) : ∀ i, i < n → ¬ (fz.1 ≤ i ∧ i < fz.2) := by
  intro i hi hx
  rcases h with rfl | h
  · simp at hx
  · omega

/-- the map that is walked -/
def IRel (ρ : Ren) (m cm : Option Nat) : Prop := (m = none ∧ cm = none) ∨ ∃ r cr, m = some r ∧ cm = some cr ∧ ρ r = some (cr, 0)

def BRel (P : Program) (ρ : Ren) (sh : Sh) (k : Blk) (base : Nat) (o : Obj) : Prop :=
  match k with
  | .cells cs e own => ∃ carr fz, o = .cells carr e fz ∧ LRel P ρ sh cs ((carr.toList.drop base).take cs.length) ∧
      (own = true → FzOk carr.size fz) ∧ allCells cs = true
  | .map es clock => base = 0 ∧ ∃ ces, o = .map ces clock ∧ ces.size = es.length ∧ ∀ (i : Nat) (e : MapEntry), es[i]? = some e → ∃ ce : MapEntry, ces[i]? = some ce ∧ ERel P ρ sh e ce
  | .iter m a b c => base = 0 ∧ ∃ cm, o = .mapIter cm a b.toArray c ∧ IRel ρ m cm
  | .dead => True

/-- a block of the model that the machine may write -/
def Owned (ρ : Ren) (H : List Blk) (cb : Nat) : Prop := ∃ (b : Nat) (k : Blk) (x : Nat), H[b]? = some k ∧ k.owns = true ∧ ρ b = some (cb, x)

/-- a block of the model that a live one stands for -/
def Mapped (ρ : Ren) (H : List Blk) (cb : Nat) : Prop := (∃ (b : Nat) (k : Blk) (x : Nat), H[b]? = some k ∧ k.live = true ∧ ρ b = some (cb, x)) ∨ ∃ c, ρ.fz cb = some c

structure Rel (P : Program) (ρ : Ren) (H : List Blk) (w : World) : Prop where
  blk : ∀ (b : Nat) (k : Blk), H[b]? = some k → k.live = true → ∃ cb base o, ρ b = some (cb, base) ∧ w.heap[cb]? = some o ∧ BRel P ρ w.shape? k base o
  uniq : ∀ (b b' : Nat) (k k' : Blk), H[b]? = some k → H[b']? = some k' → k.owns = true → k'.live = true → b ≠ b' → ∀ cb x y, ρ b = some (cb, x) → ρ b' ≠ some (cb, y)
  dom : ∀ b, H.length ≤ b → ρ b = none
  frozen : ∀ cb c, ρ.fz cb = some c → (∃ e fz, w.heap[cb]? = some (.cells c e fz)) ∧ ¬ Owned ρ H cb

structure Step (n : Nat) (ρ : Ren) (H : List Blk) (w : World) (ρ' : Ren) (H' : List Blk) (w' : World) : Prop where
  ext : ∀ b, b < n → ρ' b = ρ b
  shape : ∀ r x, w.shape? r = some x → w'.shape? r = some x
  size : w.heap.size ≤ w'.heap.size
  keep : ∀ cb, cb < w.heap.size → ¬ Owned ρ H cb → w'.heap[cb]? = w.heap[cb]?
  own : ∀ cb, cb < w.heap.size → Owned ρ' H' cb → Owned ρ H cb
  os : w'.os = w.os
  output : w'.output = w.output
  fz : ∀ cb c, ρ.fz cb = some c → ρ'.fz cb = some c
  old : ∀ cb, cb < w.heap.size → Mapped ρ' H' cb → Mapped ρ H cb

section
variable {P : Program} {ρ ρ' ρ'' : Ren} {H H' H'' : List Blk} {w w' w'' : World}

theorem Step.refl (n : Nat) : Step n ρ H w ρ H w := ⟨fun _ _ => rfl, fun _ _ h => h, Nat.le_refl _, fun _ _ _ => rfl, fun _ _ h => h, rfl, rfl, fun _ _ h => h, fun _ _ h => h⟩

theorem Step.trans {n : Nat} (h : Step n ρ H w ρ' H' w') (h' : Step n ρ' H' w' ρ'' H'' w'') : Step n ρ H w ρ'' H'' w'' where
  ext b hb := (h'.ext b hb).trans (h.ext b hb)
  shape r x hx := h'.shape r x (h.shape r x hx)
  size := Nat.le_trans h.size h'.size
  keep cb hlt ho := (h'.keep cb (Nat.lt_of_lt_of_le hlt h.size) (fun h2 => ho (h.own cb hlt h2))).trans (h.keep cb hlt ho)
  own cb hlt ho := h.own cb hlt (h'.own cb (Nat.lt_of_lt_of_le hlt h.size) ho)
  os := h'.os.trans h.os
  output := h'.output.trans h.output
  fz cb c hc := h'.fz cb c (h.fz cb c hc)
  old cb hlt ho := h.old cb hlt (h'.old cb (Nat.lt_of_lt_of_le hlt h.size) ho)

theorem Step.less {n m : Nat} (h : Step n ρ H w ρ' H' w') (hm : m ≤ n) : Step m ρ H w ρ' H' w' := { h with ext := fun b hb => h.ext b (Nat.lt_of_lt_of_le hb hm) }

/-- the machine's draws change nothing that is spoken of -/
theorem Rel.congr (h : Rel P ρ H w) (hh : w'.heap = w.heap) : Rel P ρ H w' := by
  have hs : w'.shape? = w.shape? := by funext r; simp [World.shape?, hh]
  exact ⟨fun b k hb hl => by obtain ⟨cb, base, o, h1, h2, h3⟩ := h.blk b k hb hl; exact ⟨cb, base, o, h1, by rw [hh]; exact h2, by rw [hs]; exact h3⟩, h.uniq, h.dom, fun cb c hc => by rw [hh]; exact h.frozen cb c hc⟩

theorem Step.congr (n : Nat) (hh : w'.heap = w.heap) (ho : w'.os = w.os) (hu : w'.output = w.output) : Step n ρ H w ρ H w' where
  ext _ _ := rfl
  shape r x hx := by simpa [World.shape?, hh] using hx
  size := by rw [hh]; exact Nat.le_refl _
  keep _ _ _ := by rw [hh]
  own _ _ h := h
  os := ho
  output := hu
  fz _ _ h := h
  old _ _ h := h

theorem Rel.mk2 {n : Nat} (h : Rel P ρ H w) (hz : ρ'.fz = ρ.fz) (blk : ∀ (b : Nat) (k : Blk), H'[b]? = some k → k.live = true → ∃ cb base o, ρ' b = some (cb, base) ∧ w'.heap[cb]? = some o ∧ BRel P ρ' w'.shape? k base o)
    (uniq : ∀ (b b' : Nat) (k k' : Blk), H'[b]? = some k → H'[b']? = some k' → k.owns = true → k'.live = true → b ≠ b' → ∀ cb x y, ρ' b = some (cb, x) → ρ' b' ≠ some (cb, y))
    (dom : ∀ b, H'.length ≤ b → ρ' b = none) (S : Step n ρ H w ρ' H' w') : Rel P ρ' H' w' ∧ Step n ρ H w ρ' H' w' := by
  refine ⟨⟨blk, uniq, dom, fun cb c hc => ?_⟩, S⟩
  rw [hz] at hc
  obtain ⟨⟨e, fz, h1⟩, h2⟩ := h.frozen cb c hc
  have hlt : cb < w.heap.size := by
    by_cases hi : cb < w.heap.size
    · exact hi
    · rw [Array.getElem?_eq_none (Nat.le_of_not_lt hi)] at h1; simp at h1
  exact ⟨⟨e, fz, by rw [S.keep cb hlt h2]; exact h1⟩, fun ho => h2 (S.own cb hlt ho)⟩

theorem BRel.mono {k : Blk} {base : Nat} {o : Obj} {sh sh' : Sh} (h : BRel P ρ sh k base o) (hz : ∀ cb c, ρ.fz cb = some c → ρ'.fz cb = some c) (hr : ∀ b x, ρ b = some x → ρ' b = some x) (hs : ∀ r x, sh r = some x → sh' r = some x) : BRel P ρ' sh' k base o := by
  cases k with
  | cells cs e own => obtain ⟨carr, fz, h1, h2, h3⟩ := h; exact ⟨carr, fz, h1, h2.mono hz hr hs, h3⟩
  | map es clock =>
    obtain ⟨h0, ces, h1, h2, h3⟩ := h
    exact ⟨h0, ces, h1, h2, fun i e he => by obtain ⟨ce, hc, hk, hv, hb⟩ := h3 i e he; exact ⟨ce, hc, hk.mono hz hr hs, hv.mono hz hr hs, hb⟩⟩
  | iter m a b c =>
    obtain ⟨h0, cm, h1, h2⟩ := h
    exact ⟨h0, cm, h1, h2.imp id fun ⟨r, cr, g1, g2, g3⟩ => ⟨r, cr, g1, g2, hr _ _ g3⟩⟩
  | dead => trivial

theorem lt_of_get {α : Type} {l : List α} {i : Nat} {x : α} (h : l[i]? = some x) : i < l.length := by
  by_cases hi : i < l.length
  · exact hi
  · rw [List.getElem?_eq_none (Nat.le_of_not_lt hi)] at h; simp at h

theorem lt_of_getA {α : Type} {l : Array α} {i : Nat} {x : α} (h : l[i]? = some x) : i < l.size := by
  by_cases hi : i < l.size
  · exact hi
  · rw [Array.getElem?_eq_none (Nat.le_of_not_lt hi)] at h; simp at h

def upd (ρ : Ren) (b : Nat) (x : Nat × Nat) : Ren := ⟨fun c => if c = b then some x else ρ c, ρ.fz⟩

theorem upd_mono {b : Nat} (hd : ρ b = none) {x : Nat × Nat} : ∀ c y, ρ c = some y → upd ρ b x c = some y := by
  intro c y hc
  show (if c = b then some x else ρ c) = some y
  split
  · rename_i h; subst h; rw [hd] at hc; simp at hc
  · exact hc

theorem shape_alloc (w : World) (o : Obj) : ∀ r x, w.shape? r = some x → (w.alloc o).shape? r = some x := by
  intro r x hx
  have hlt : r < w.heap.size := by
    by_cases h : r < w.heap.size
    · exact h
    · simp [World.shape?, Array.getElem?_eq_none (Nat.le_of_not_lt h)] at hx
  simpa [World.shape?, heap_alloc_old w o r hlt] using hx

/-- a new block, abstract and the model's -/
theorem alloc_rel (h : Rel P ρ H w) (k : Blk) (o : Obj) (hb : BRel P (upd ρ H.length (w.heap.size, 0)) (w.alloc o).shape? k 0 o) :
    Rel P (upd ρ H.length (w.heap.size, 0)) (H ++ [k]) (w.alloc o) ∧ Step H.length ρ H w (upd ρ H.length (w.heap.size, 0)) (H ++ [k]) (w.alloc o) := by
  have hd : ρ H.length = none := h.dom _ (Nat.le_refl _)
  have hlt : ∀ {b : Nat} {cb base : Nat} {k : Blk}, H[b]? = some k → k.live = true → ρ b = some (cb, base) → cb < w.heap.size := by
    intro b cb base k hk hl hr
    obtain ⟨cb', base', o', h1, h2, _⟩ := h.blk b k hk hl
    rw [h1] at hr; simp at hr; rw [← hr.1]; exact lt_of_getA h2
  have hold : ∀ {b : Nat} {k' : Blk}, (H ++ [k])[b]? = some k' → b ≠ H.length → H[b]? = some k' ∧ upd ρ H.length (w.heap.size, 0) b = ρ b := by
    intro b k' hk hne
    have hlt : b < H.length := by have := lt_of_get hk; simp at this; omega
    rw [List.getElem?_append_left hlt] at hk
    exact ⟨hk, by simp [upd, hne]⟩
  refine h.mk2 rfl (fun b k' hk hl => ?_) (fun b b' k1 k2 hk1 hk2 ho hl hne cb x y hr hr' => ?_) (fun b hb' => ?_) ?_
  · by_cases hbe : b = H.length
    · subst hbe
      simp at hk; subst hk
      exact ⟨w.heap.size, 0, o, by simp [upd], heap_alloc_new w o, hb⟩
    · obtain ⟨hk', hr'⟩ := hold hk hbe
      obtain ⟨cb, base, o', h1, h2, h3⟩ := h.blk b k' hk' hl
      exact ⟨cb, base, o', by rw [hr']; exact h1, by rw [heap_alloc_old _ _ _ (lt_of_getA h2)]; exact h2, h3.mono (fun _ _ h => h) (upd_mono hd) (shape_alloc w o)⟩
  · by_cases hb1 : b = H.length
    · by_cases hb2 : b' = H.length
      · exact hne (hb1.trans hb2.symm)
      · obtain ⟨hk', hr2⟩ := hold hk2 hb2
        rw [hr2] at hr'
        subst hb1; simp [upd] at hr
        have := hlt hk' hl hr'; omega
    · obtain ⟨hk1', hr1⟩ := hold hk1 hb1
      rw [hr1] at hr
      by_cases hb2 : b' = H.length
      · subst hb2; simp [upd] at hr'
        have hl1 : k1.live = true := by cases k1 <;> simp_all [Blk.owns, Blk.live]
        have := hlt hk1' hl1 hr; omega
      · obtain ⟨hk2', hr2⟩ := hold hk2 hb2
        rw [hr2] at hr'
        exact h.uniq b b' k1 k2 hk1' hk2' ho hl hne cb x y hr hr'
  · simp at hb'
    have : b ≠ H.length := by omega
    simp [upd, this]; exact h.dom b (by omega)
  · refine ⟨fun b hb' => by simp [upd, Nat.ne_of_lt hb'], shape_alloc w o, by rw [World.size_alloc]; omega, fun cb hc _ => heap_alloc_old w o cb hc, fun cb hc ho => ?_, rfl, rfl, fun _ _ h => h, fun cb hc ho => ho.elim (fun ho => .inl ?_) .inr⟩
    all_goals
      obtain ⟨b, k', x, hk, hown, hr⟩ := ho
      by_cases hbe : b = H.length
      · subst hbe; simp [upd] at hr; omega
      · obtain ⟨hk', hr'⟩ := hold hk hbe
        exact ⟨b, k', x, hk', hown, by rw [← hr']; exact hr⟩

/-- a block of the model is put in place of another -/
def setBlk (w : World) (cb : Nat) (o : Obj) : World := { w with heap := w.heap.setIfInBounds cb o }

theorem setBlk_same {w : World} {cb : Nat} {o : Obj} (h : cb < w.heap.size) : (setBlk w cb o).heap[cb]? = some o := by simp [setBlk, h]
theorem setBlk_other {w : World} {cb i : Nat} {o : Obj} (h : i ≠ cb) : (setBlk w cb o).heap[i]? = w.heap[i]? := by
  simp only [setBlk]; rw [Array.getElem?_setIfInBounds_ne (Ne.symm h)]
theorem setBlk_size {w : World} {cb : Nat} {o : Obj} : (setBlk w cb o).heap.size = w.heap.size := by simp [setBlk]

theorem setBlk_shape {w : World} {cb : Nat} {o o' : Obj} (h : w.heap[cb]? = some o') (hs : (match o' with | .cells c e _ => some (e, c.size) | _ => none) = (match o with | .cells c e _ => some (e, c.size) | _ => none)) :
    (setBlk w cb o).shape? = w.shape? := by
  funext r
  by_cases hr : r = cb
  · subst hr
    simp only [World.shape?, setBlk_same (lt_of_getA h), h]
    cases o <;> cases o' <;> simp_all
  · simp only [World.shape?, setBlk_other hr]

/-- an owned block is written anew, abstract and the model's -/
theorem set_rel (h : Rel P ρ H w) {b : Nat} {k k' : Blk} {cb base : Nat} {o o' : Obj} (hk : H[b]? = some k) (ho : k.owns = true) (hr : ρ b = some (cb, base)) (ho' : w.heap[cb]? = some o)
    (hk' : k'.owns = true) (hs : (match o with | .cells c e _ => some (e, c.size) | _ => none) = (match o' with | .cells c e _ => some (e, c.size) | _ => none))
    (hb : BRel P ρ w.shape? k' base o') : Rel P ρ (H.set b k') (setBlk w cb o') ∧ Step H.length ρ H w ρ (H.set b k') (setBlk w cb o') := by
  have hsh := setBlk_shape (o := o') ho' hs
  have hblt := lt_of_get hk
  have hclt := lt_of_getA ho'
  have hl : k.live = true := by cases k <;> simp_all [Blk.owns, Blk.live]
  have hold : ∀ {c : Nat} {k1 : Blk}, (H.set b k')[c]? = some k1 → c ≠ b → H[c]? = some k1 := by
    intro c k1 h1 hne; rwa [List.getElem?_set_ne (Ne.symm hne)] at h1
  have hkown : ∀ {c : Nat} {k1 : Blk}, (H.set b k')[c]? = some k1 → k1.owns = true → ∃ k2, H[c]? = some k2 ∧ k2.owns = true := by
    intro c k1 h1 h2
    by_cases hc : c = b
    · subst hc; exact ⟨k, hk, ho⟩
    · exact ⟨k1, hold h1 hc, h2⟩
  have hklive : ∀ {c : Nat} {k1 : Blk}, (H.set b k')[c]? = some k1 → k1.live = true → ∃ k2, H[c]? = some k2 ∧ k2.live = true := by
    intro c k1 h1 h2
    by_cases hc : c = b
    · subst hc; exact ⟨k, hk, hl⟩
    · exact ⟨k1, hold h1 hc, h2⟩
  refine h.mk2 rfl (fun c k1 h1 hl1 => ?_) (fun c c' k1 k2 h1 h2 hown hlv hne x y z hx hy => ?_) (fun c hc => h.dom c (by simpa using hc)) ?_
  · by_cases hc : c = b
    · subst hc
      rw [List.getElem?_set_self hblt] at h1; simp at h1; subst h1
      exact ⟨cb, base, o', hr, setBlk_same hclt, by rw [hsh]; exact hb⟩
    · have h1' := hold h1 hc
      obtain ⟨cb1, base1, o1, e1, e2, e3⟩ := h.blk c k1 h1' hl1
      have hne : cb1 ≠ cb := fun he => by subst he; exact h.uniq b c k k1 hk h1' ho hl1 (Ne.symm hc) _ _ _ hr e1
      exact ⟨cb1, base1, o1, e1, by rw [setBlk_other hne]; exact e2, by rw [hsh]; exact e3⟩
  · obtain ⟨k3, h3, h3'⟩ := hkown h1 hown
    obtain ⟨k4, h4, h4'⟩ := hklive h2 hlv
    exact h.uniq c c' k3 k4 h3 h4 h3' h4' hne x y z hx hy
  · refine ⟨fun _ _ => rfl, fun r x hx => by rw [hsh]; exact hx, by rw [setBlk_size]; exact Nat.le_refl _, fun c hc hn => ?_, fun c hc hn => ?_, rfl, rfl, fun _ _ h => h, fun c hc hn => hn.elim (fun hn => .inl ?_) .inr⟩
    · exact setBlk_other (fun he => hn (by subst he; exact ⟨b, k, base, hk, ho, hr⟩))
    · obtain ⟨c', k1, x, h1, h2, h3⟩ := hn
      obtain ⟨k3, h5, h6⟩ := hkown h1 h2
      exact ⟨c', k3, x, h5, h6, h3⟩
    · obtain ⟨c', k1, x, h1, h2, h3⟩ := hn
      obtain ⟨k3, h5, h6⟩ := hklive h1 h2
      exact ⟨c', k3, x, h5, h6, h3⟩

/-- an owned block is given up -/
theorem kill_rel (h : Rel P ρ H w) {b : Nat} : Rel P ρ (H.set b .dead) w ∧ Step H.length ρ H w ρ (H.set b .dead) w := by
  have hold : ∀ {c : Nat} {k1 : Blk}, (H.set b .dead)[c]? = some k1 → k1.live = true → H[c]? = some k1 := by
    intro c k1 h1 hl
    by_cases hc : c = b
    · subst hc
      by_cases hlt : c < H.length
      · rw [List.getElem?_set_self hlt] at h1; simp at h1; subst h1; simp [Blk.live] at hl
      · have := lt_of_get h1; simp at this; omega
    · rwa [List.getElem?_set_ne (Ne.symm hc)] at h1
  have hol : ∀ {k : Blk}, k.owns = true → k.live = true := by intro k; cases k <;> simp [Blk.owns, Blk.live]
  refine h.mk2 rfl (fun c k1 h1 hl1 => h.blk c k1 (hold h1 hl1) hl1) (fun c c' k1 k2 h1 h2 hown hlv hne => h.uniq c c' k1 k2 (hold h1 (hol hown)) (hold h2 hlv) hown hlv hne) (fun c hc => h.dom c (by simpa using hc))
    ⟨fun _ _ => rfl, fun _ _ hx => hx, Nat.le_refl _, fun _ _ _ => rfl, fun c hc hn => ?_, rfl, rfl, fun _ _ h => h, fun c hc hn => hn.elim (fun hn => .inl ?_) .inr⟩
  · obtain ⟨c', k1, x, h1, h2, h3⟩ := hn
    exact ⟨c', k1, x, hold h1 (hol h2), h2, h3⟩
  · obtain ⟨c', k1, x, h1, h2, h3⟩ := hn
    exact ⟨c', k1, x, hold h1 h2, h2, h3⟩

/-- a block that was given up goes on under a new name, at a later place of the same block of the model -/
theorem move_rel (h : Rel P ρ H w) {b : Nat} {k k' : Blk} {cb base base' : Nat} {o o' : Obj} (hk : H[b]? = some k) (ho : k.owns = true) (hr : ρ b = some (cb, base)) (ho' : w.heap[cb]? = some o)
    (hk' : k'.owns = true) (hs : (match o with | .cells c e _ => some (e, c.size) | _ => none) = (match o' with | .cells c e _ => some (e, c.size) | _ => none))
    (hb : BRel P (upd ρ H.length (cb, base')) w.shape? k' base' o') :
    Rel P (upd ρ H.length (cb, base')) (H.set b .dead ++ [k']) (setBlk w cb o') ∧ Step H.length ρ H w (upd ρ H.length (cb, base')) (H.set b .dead ++ [k']) (setBlk w cb o') := by
  have hsh := setBlk_shape (o := o') ho' hs
  have hclt := lt_of_getA ho'
  have hd : ρ H.length = none := h.dom _ (Nat.le_refl _)
  have hblt := lt_of_get hk
  have hol : ∀ {k : Blk}, k.owns = true → k.live = true := by intro k; cases k <;> simp [Blk.owns, Blk.live]
  have hold : ∀ {c : Nat} {k1 : Blk}, (H.set b .dead ++ [k'])[c]? = some k1 → k1.live = true → c ≠ H.length → H[c]? = some k1 ∧ c ≠ b ∧ upd ρ H.length (cb, base') c = ρ c := by
    intro c k1 h1 hl hne
    have hlt : c < H.length := by have := lt_of_get h1; simp at this; omega
    rw [List.getElem?_append_left (by simpa using hlt)] at h1
    by_cases hc : c = b
    · subst hc; rw [List.getElem?_set_self hlt] at h1; simp at h1; subst h1; simp [Blk.live] at hl
    · exact ⟨by rwa [List.getElem?_set_ne (Ne.symm hc)] at h1, hc, by simp [upd, hne]⟩
  have hnew : ∀ {k1 : Blk}, (H.set b .dead ++ [k'])[H.length]? = some k1 → k1 = k' := by
    intro k1 h1; rw [List.getElem?_append_right (by simp)] at h1; simp at h1; exact h1.symm
  refine h.mk2 rfl (fun c k1 h1 hl1 => ?_) (fun c c' k1 k2 h1 h2 hown hlv hne x y z hx hy => ?_) (fun c hc => ?_) ?_
  · by_cases hc : c = H.length
    · subst hc; have := hnew h1; subst this
      exact ⟨cb, base', o', by simp [upd], setBlk_same hclt, by rw [hsh]; exact hb⟩
    · obtain ⟨h1', hcb, hu⟩ := hold h1 hl1 hc
      obtain ⟨cb1, base1, o1, e1, e2, e3⟩ := h.blk c k1 h1' hl1
      have hne : cb1 ≠ cb := fun he => by subst he; exact h.uniq b c k k1 hk h1' ho hl1 (Ne.symm hcb) _ _ _ hr e1
      exact ⟨cb1, base1, o1, by rw [hu]; exact e1, by rw [setBlk_other hne]; exact e2, by rw [hsh]; exact e3.mono (fun _ _ h => h) (upd_mono hd) (fun _ _ h => h)⟩
  · by_cases hc : c = H.length
    · by_cases hc' : c' = H.length
      · exact hne (hc.trans hc'.symm)
      · obtain ⟨h2', hcb, hu⟩ := hold h2 hlv hc'
        rw [hu] at hy
        subst hc; simp [upd] at hx
        exact h.uniq b c' k k2 hk h2' ho hlv (Ne.symm hcb) cb base z hr (by rw [hy, hx.1])
    · obtain ⟨h1', hcb, hu⟩ := hold h1 (hol hown) hc
      rw [hu] at hx
      by_cases hc' : c' = H.length
      · subst hc'; simp [upd] at hy
        exact h.uniq c b k1 k h1' hk hown (hol ho) hcb x y base hx (by rw [hr, hy.1])
      · obtain ⟨h2', hcb', hu'⟩ := hold h2 hlv hc'
        rw [hu'] at hy
        exact h.uniq c c' k1 k2 h1' h2' hown hlv hne x y z hx hy
  · simp at hc
    have : c ≠ H.length := by omega
    simp [upd, this]; exact h.dom c (by omega)
  · refine ⟨fun c hc => by simp [upd, Nat.ne_of_lt hc], fun r x hx => by rw [hsh]; exact hx, by rw [setBlk_size]; exact Nat.le_refl _, fun c hc hn => ?_, fun c hc hn => ?_, rfl, rfl, fun _ _ h => h, fun c hc hn => hn.elim (fun hn => .inl ?_) .inr⟩
    · exact setBlk_other (fun he => hn (by subst he; exact ⟨b, k, base, hk, ho, hr⟩))
    · obtain ⟨c', k1, x, h1, h2, h3⟩ := hn
      by_cases hc' : c' = H.length
      · subst hc'; simp [upd] at h3; rw [← h3.1]; exact ⟨b, k, base, hk, ho, hr⟩
      · obtain ⟨h1', _, hu⟩ := hold h1 (hol h2) hc'
        exact ⟨c', k1, x, h1', h2, by rw [← hu]; exact h3⟩
    · obtain ⟨c', k1, x, h1, h2, h3⟩ := hn
      by_cases hc' : c' = H.length
      · subst hc'; simp [upd] at h3; rw [← h3.1]; exact ⟨b, k, base, hk, hol ho, hr⟩
      · obtain ⟨h1', _, hu⟩ := hold h1 h2 hc'
        exact ⟨c', k1, x, h1', h2, by rw [← hu]; exact h3⟩

end
end Go.Am
