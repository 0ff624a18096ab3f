/- Operations, further: copy, len, maps. -/
import Derived.Test.YtfinilnkempofaaAm8
set_option linter.all false
set_option linter.unusedVariables false
set_option linter.unusedSimpArgs false
set_option linter.unnecessarySimpa false
namespace Go.Am

section
variable {P : Program} {ρ ρ' : Ren} {H : List Blk} {w : World}

/-- the first n elements of what is copied -/
theorem first_sound (h : Rel P ρ H w) {size : Nat} {y cy : Value} {m n : Nat} {cells : List Value} (hs : srcCells size H y = some (m, cells)) (hy : VRel P ρ w.shape? y cy) (hn : n ≤ m) :
    ∃ cells', (Builtin.lenOf cy).run P w = .ok m w ∧ (Builtin.firstCells size n cy).run P w = .ok cells'.toArray w ∧ LRel P ρ w.shape? (cells.take (n * size)) cells' := by
  cases y with
  | slice a len cap =>
    cases a with
    | none =>
      simp only [srcCells, ite_eq_some_iff] at hs
      obtain ⟨rfl, hv⟩ := hs
      simp at hv; obtain ⟨rfl, rfl⟩ := hv
      have := hy.eq_of_plain rfl; subst this
      exact ⟨[], rfl, run_firstCells_none w size n 0 cap, by simp; exact .nil⟩
    | some a =>
      simp only [srcCells, Option.map_eq_some_iff] at hs
      obtain ⟨l, hl, hv⟩ := hs
      simp at hv; obtain ⟨rfl, rfl⟩ := hv
      have hmul : n * size ≤ len * size := Nat.mul_le_mul_right _ hn
      rcases hy.slice_inv with ⟨cb, base, cap', hsp, hr, rfl, _, _, _⟩ | ⟨a', hsp, hb', rfl, rfl, _⟩
      · obtain ⟨l', hl1, hl2, hL, hc⟩ := cellsAt_rel h hl hr
        refine ⟨l'.take (n * size), rfl, run_firstCells_some w size n _ len cap' _ (by simp; omega) (fun j v hj => ?_), hL.take _⟩
        rw [List.getElem?_take] at hj
        split at hj
        · exact hc j v hj
        · simp at hj
      · have : n = 0 := by omega
        subst this
        exact ⟨[], rfl, run_firstCells_some w size 0 a' 0 0 [] (by simp) (fun j u hj => by simp at hj), by simp; exact .nil⟩
  | string b =>
    simp only [srcCells, ite_eq_some_iff] at hs
    obtain ⟨rfl, hv⟩ := hs
    simp at hv; obtain ⟨rfl, rfl⟩ := hv
    have := hy.string_inv; subst this
    refine ⟨(b.data.toList.map fun c => Value.int .u8 (c.toNat : Int)).take n, rfl, ?_, ?_⟩
    · simp only [Builtin.firstCells, Sem.run_pure]
      congr 1
      apply Array.ext'
      rw [List.toList_toArray, ← List.map_take, Array.toList_map]
      congr 1
      have : (b.extract 0 n).data = b.data.extract 0 n := by
        simp [ByteArray.extract, ByteArray.copySlice]
      rw [this]; simp
    · rw [Nat.mul_one]
      exact .refl_plain (by rw [← List.map_take]; exact plain_bytes _)
  | iface len x =>
    cases x with
    | tuple row =>
      simp only [srcCells, tSrc, ite_eq_some_iff] at hs
      obtain ⟨⟨hsz, hac⟩, hv⟩ := hs
      simp at hv; obtain ⟨rfl, rfl⟩ := hv
      have hmul : n * size ≤ len * size := Nat.mul_le_mul_right _ hn
      rcases hy.ptree_inv with ⟨cb, base, cap', c, l', rfl, hz, hc, hle, hL⟩ | ⟨rfl, rfl, a', cap', hnil, rfl⟩
      · have hl1 : l'.length = len * size := by have := hL.1; simp at this; omega
        refine ⟨l'.take (n * size), rfl, run_firstCells_some w size n _ len cap' _ (by simp; omega) (fun j v hj => ?_), hL.take _⟩
        rw [List.getElem?_take] at hj
        split at hj
        · rw [add_none]; exact fz_cell h hz hc j v hj
        · simp at hj
      · have : n = 0 := by omega
        subst this
        cases a' with
        | none => exact ⟨[], rfl, run_firstCells_none w size 0 0 cap', by simp; exact .nil⟩
        | some a' => exact ⟨[], rfl, run_firstCells_some w size 0 a' 0 cap' [] (by simp) (fun j u hj => by simp at hj), by simp; exact .nil⟩
    | _ => simp [srcCells] at hs
  | _ => simp [srcCells] at hs

theorem copy_sound (h : Rel P ρ H w) {argTypes : Array TypeId} {ty : TypeId} {x y cx cy v : Value} {st' : AS} {e : Option Nat} (hs : aCopy P argTypes x y ⟨H, e⟩ = some (v, st')) (hx : VRel P ρ w.shape? x cx) (hy : VRel P ρ w.shape? y cy) :
    ∃ cv w', (Builtin.copy_ argTypes ty #[cx, cy]).run P w = .ok cv w' ∧ Out P H.length ρ H w st'.H v cv w' := by
  unfold aCopy at hs
  split at hs
  case h_1 => simp at hs
  rename_i t hat
  split at hs
  case h_2 => simp at hs
  rename_i elem hu
  split at hs
  · rename_i size m cells a len cap hsz hsrc
    rw [hsz] at hsrc; simp only [Option.getD_some] at hsrc
    obtain ⟨cells', hl, hf, hL⟩ := first_sound h hsrc hy (Nat.min_le_left m len)
    rcases hx.slice_inv with ⟨cb, base, cap', hsp, hr, rfl, _, _, _⟩ | ⟨a', hsp, hb', rfl, rfl, _⟩
    · split at hs
      · rename_i hmin
        simp at hs; obtain ⟨rfl, rfl⟩ := hs
        have hc0 : cells' = [] := by have := hL.1; rw [hmin] at this; simp at this; exact List.eq_nil_of_length_eq_zero this.symm
        subst hc0
        refine ⟨.int .i64 0, w, ?_, ⟨ρ, h, .refl _, .same _ rfl⟩, Nat.le_refl _⟩
        have hmin' : m.min len = 0 := hmin
        rw [hmin] at hf
        simp [Builtin.copy_, hat, run_underlying hu, hl, run_sizeP hsz, hmin', hf, storeCells, goInt]
      · simp only [Option.map_eq_some_iff] at hs
        obtain ⟨s, hst, hv⟩ := hs
        simp at hv; obtain ⟨rfl, rfl⟩ := hv
        obtain ⟨g1, g2, g3, g4, g5, g6⟩ := storeL_sound h hst hr hL
        have hrun := run_storeCells_cells (P := P) cb (base + a.off) cells' 0 w (by simpa using g4) (by simpa using g5) g6
        simp only [Nat.add_zero] at hrun
        refine ⟨.int .i64 (min m len : Nat), _, ?_, ⟨ρ, g1, g2, .same _ rfl⟩, by omega⟩
        have hmm : m.min len = min m len := rfl
        simp [Builtin.copy_, hat, run_underlying hu, hl, run_sizeP hsz, hmm, hf, hrun, goInt]
    · -- nothing is written
      split at hs
      · simp at hs; obtain ⟨rfl, rfl⟩ := hs
        have hc0 : cells' = [] := by have := hL.1; simp at this; exact List.eq_nil_of_length_eq_zero this.symm
        subst hc0
        refine ⟨.int .i64 0, w, ?_, ⟨ρ, h, .refl _, .same _ rfl⟩, Nat.le_refl _⟩
        have hmm : m.min 0 = 0 := by simp [Nat.min_def]
        simp only [Nat.min_zero] at hf
        simp [Builtin.copy_, hat, run_underlying hu, hl, run_sizeP hsz, hmm, hf, storeCells, goInt]
      · rename_i hne; simp at hne
  · rename_i size m cells len cap hsz hsrc
    rw [hsz] at hsrc; simp only [Option.getD_some] at hsrc
    simp only [ite_eq_some_iff] at hs
    obtain ⟨rfl, hv⟩ := hs
    simp at hv; obtain ⟨rfl, rfl⟩ := hv
    obtain ⟨cells', hl, hf, hL⟩ := first_sound h hsrc hy (Nat.zero_le m)
    have := hx.eq_of_plain rfl; subst this
    refine ⟨.int .i64 0, w, ?_, ⟨ρ, h, .refl _, .same _ rfl⟩, Nat.le_refl _⟩
    have hmm : m.min 0 = 0 := by simp [Nat.min_def]
    simp [Builtin.copy_, hat, run_underlying hu, hl, run_sizeP hsz, hmm, hf, goInt]
  · simp at hs

theorem map_get (h : Rel P ρ H w) {r : Nat} {es : List MapEntry} {clock : Nat} (hr : H[r]? = some (.map es clock)) :
    ∃ cr ces, ρ r = some (cr, 0) ∧ w.heap[cr]? = some (.map ces clock) ∧ ces.size = es.length ∧ ∀ (i : Nat) (e : MapEntry), es[i]? = some e → ∃ ce : MapEntry, ces[i]? = some ce ∧ ERel P ρ w.shape? e ce := by
  obtain ⟨cb, base, o, h1, h2, rfl, ces, rfl, h3, h4⟩ := h.blk r _ hr rfl
  exact ⟨cb, ces, h1, h2, h3, h4⟩

theorem VRel.map_inv {sh : Sh} {r : Nat} {v : Value} (h : VRel P ρ sh (.map (some r)) v) : ∃ cr, ρ r = some (cr, 0) ∧ v = .map (some cr) := by
  cases h with
  | same _ h => simp [plain] at h
  | map h => exact ⟨_, h, rfl⟩

theorem run_getMap {cr : Nat} {ces : Array MapEntry} {clock : Nat} (h : w.heap[cr]? = some (.map ces clock)) : (getObj cr).run P w = .ok (.map ces clock) w := by
  simp [getObj, Sem.run, h]

theorem run_setMap {cr : Nat} {ces : Array MapEntry} {clock : Nat} {o : Obj} (h : w.heap[cr]? = some (.map ces clock)) : (setObj cr o).run P w = .ok () (setBlk w cr o) := by
  simp [setObj, Sem.run, h, setBlk]

theorem len_sound (h : Rel P ρ H w) {argTypes : Array TypeId} {ty t : TypeId} {x cx v : Value} {e : Option Nat} (ht : argTypes[0]? = some t) (hs : aLen P t x ⟨H, e⟩ = some v) (hx : VRel P ρ w.shape? x cx) :
    ∃ cv, (Builtin.len_ argTypes ty #[cx]).run P w = .ok cv w ∧ VRel P ρ w.shape? v cv := by
  unfold aLen at hs
  split at hs
  · rename_i s hu
    simp at hs; subst hs
    have := hx.string_inv; subst this
    exact ⟨_, by simp [Builtin.len_, ht, run_underlying hu, goInt], .same _ rfl⟩
  · rename_i el a n c hu
    simp at hs; subst hs
    cases a with
    | none =>
      have := hx.eq_of_plain rfl; subst this
      exact ⟨_, by simp [Builtin.len_, ht, run_underlying hu, goInt], .same _ rfl⟩
    | some a =>
      rcases hx.slice_inv with ⟨cb, base, cap', hsp, hr, rfl, _, _, _⟩ | ⟨a', hsp, hb', rfl, rfl, _⟩
      · exact ⟨_, by simp [Builtin.len_, ht, run_underlying hu, goInt], .same _ rfl⟩
      · exact ⟨_, by simp [Builtin.len_, ht, run_underlying hu, goInt], .same _ rfl⟩
  · rename_i el n row hu
    simp at hs; subst hs
    rcases hx.ptree_inv with ⟨cb, base, cap', c, l', rfl, hz, hc, hle, hL⟩ | ⟨rfl, rfl, a', cap', hnil, rfl⟩
    · exact ⟨_, by simp [Builtin.len_, ht, run_underlying hu, goInt]; rfl, .same _ rfl⟩
    · exact ⟨_, by simp [Builtin.len_, ht, run_underlying hu, goInt]; rfl, .same _ rfl⟩
  · rename_i n el hu
    simp at hs; subst hs
    exact ⟨_, by simp [Builtin.len_, ht, run_underlying hu, goInt], .same _ rfl⟩
  · rename_i k el hu
    simp at hs; subst hs
    have := hx.eq_of_plain rfl; subst this
    exact ⟨_, by simp [Builtin.len_, ht, run_underlying hu, goInt], .same _ rfl⟩
  · rename_i k el r hu
    split at hs
    · rename_i es clock hr
      simp at hs; subst hs
      obtain ⟨cr, ces, h1, h2, h3, _⟩ := map_get h hr
      obtain ⟨cr', h4, rfl⟩ := hx.map_inv
      rw [h1] at h4; simp at h4; subst h4
      exact ⟨_, by simp [Builtin.len_, ht, run_underlying hu, run_getMap h2, goInt, h3], .same _ rfl⟩
    · simp at hs
  · simp at hs

/-- entries, and the model's, their keys being the same -/
def EsRel (P : Program) (ρ : Ren) (sh : Sh) (es ces : List MapEntry) : Prop := ces.length = es.length ∧ ∀ (i : Nat) (e : MapEntry), es[i]? = some e → ∃ ce : MapEntry, ces[i]? = some ce ∧ ERel P ρ sh e ce ∧ ce.key = e.key

theorem EsRel.tail {sh : Sh} {e ce : MapEntry} {es ces : List MapEntry} (h : EsRel P ρ sh (e :: es) (ce :: ces)) : EsRel P ρ sh es ces ∧ ce.key = e.key ∧ ERel P ρ sh e ce := by
  refine ⟨⟨by simpa using h.1, fun i x hx => ?_⟩, ?_, ?_⟩
  · obtain ⟨y, hy, hr⟩ := h.2 (i + 1) x (by simpa using hx); exact ⟨y, by simpa using hy, hr⟩
  · obtain ⟨y, hy, hr⟩ := h.2 0 e (by simp); simp at hy; subst hy; exact hr.2
  · obtain ⟨y, hy, hr⟩ := h.2 0 e (by simp); simp at hy; subst hy; exact hr.1

theorem findAsking_run {sh : Sh} (kt : TypeId) (k : Value) : ∀ (es ces : List MapEntry) (i : Nat) (r : Option Nat), EsRel P ρ sh es ces → keyIx P kt k es i = some r → ∀ w,
    (Instr.findAsking kt k ces i).run P w = .ok (r.bind fun j => (ces[j - i]?).map fun ce => (j, ce.val)) w ∧ (∀ j, r = some j → i ≤ j ∧ j < i + es.length)
  | [], ces, i, r, hE, hk, w => by
    have : ces = [] := List.eq_nil_of_length_eq_zero (by have := hE.1; simpa using this)
    subst this
    simp [keyIx] at hk; subst hk
    exact ⟨by simp [Instr.findAsking], fun j hj => by simp at hj⟩
  | e :: es, [], i, r, hE, hk, w => by have := hE.1; simp at this
  | e :: es, ce :: ces, i, r, hE, hk, w => by
    obtain ⟨hE', hkey, _⟩ := hE.tail
    simp only [keyIx] at hk
    cases hq : pureRun P (Op.equal kt k e.key) with
    | none => simp [hq] at hk
    | some b =>
      have hrun := pureRun_run _ _ hq w
      rw [← hkey] at hrun
      cases b with
      | true =>
        simp [hq] at hk; subst hk
        exact ⟨by simp [Instr.findAsking, hrun], fun j hj => by simp at hj; subst hj; simp⟩
      | false =>
        simp [hq] at hk
        obtain ⟨ih, ih2⟩ := findAsking_run kt k es ces (i + 1) r hE' hk w
        refine ⟨?_, fun j hj => by have := ih2 j hj; simp; omega⟩
        simp only [Instr.findAsking, Sem.run_bind, hrun, Result.andThen_ok]
        simp only [Bool.false_eq_true, if_false, ih]
        congr 1
        cases r with
        | none => rfl
        | some j =>
          have := ih2 j rfl
          simp only [Option.bind_some]
          rw [show j - i = (j - (i + 1)) + 1 by omega]; simp

theorem equal_ofNow {kt : TypeId} {d : TypeDesc} {k x : Value} {b : Bool} (hd : P.underlying kt = some d) (h : Instr.sameNow d k x = some b) : pureRun P (Op.equal kt k x) = some b := by
  have e : Op.equal kt k x = Op.equalIn (9999 + 1) kt k x := rfl
  rw [e]
  unfold Op.equalIn
  have hu : pureRun P (underlying kt) = some d := by simp [underlying, pureRun_bind, program, pureRun, hd, pure]
  unfold Instr.sameNow at h
  split at h
  · rename_i k1 k2 a k3 b'
    rw [pureRun_bind, hu]
    simp only [ite_eq_some_iff] at h
    obtain ⟨rfl, h⟩ := h
    simp at h; subst h
    simp [pureRun, pure]
  · rw [pureRun_bind, hu]; simp at h; subst h; simp [pureRun, pure]
  · rw [pureRun_bind, hu]; simp at h; subst h; simp [pureRun, pure]
  · simp at h

theorem findNow_run {sh : Sh} {kt : TypeId} {d : TypeDesc} (hd : P.underlying kt = some d) (k : Value) : ∀ (es ces : List MapEntry) (i : Nat) (r : Option Nat) (q : Option (Nat × Value)), EsRel P ρ sh es ces → keyIx P kt k es i = some r →
    Instr.findNow d k ces i = some q → q = r.bind fun j => (ces[j - i]?).map fun ce => (j, ce.val)
  | [], ces, i, r, q, hE, hk, hq => by
    have : ces = [] := List.eq_nil_of_length_eq_zero (by have := hE.1; simpa using this)
    subst this
    simp [keyIx] at hk; subst hk
    simp [Instr.findNow] at hq; subst hq; rfl
  | e :: es, [], i, r, q, hE, hk, hq => by have := hE.1; simp at this
  | e :: es, ce :: ces, i, r, q, hE, hk, hq => by
    obtain ⟨hE', hkey, _⟩ := hE.tail
    simp only [keyIx] at hk
    simp only [Instr.findNow, hkey] at hq
    cases hs : Instr.sameNow d k e.key with
    | none => simp [hs] at hq
    | some b =>
      have := equal_ofNow hd hs
      rw [this] at hk
      cases b with
      | true => simp at hk; subst hk; simp [hs] at hq; subst hq; simp
      | false =>
        simp at hk; simp [hs] at hq
        have ih := findNow_run hd k es ces (i + 1) r q hE' hk hq
        rw [ih]
        cases r with
        | none => rfl
        | some j =>
          have := (findAsking_run (P := P) (ρ := ρ) (sh := sh) kt k es ces (i + 1) (some j) hE' hk default).2 j rfl
          simp only [Option.bind_some]
          rw [show j - i = (j - (i + 1)) + 1 by omega]; simp

theorem findKey_run {sh : Sh} {kt : TypeId} {d : TypeDesc} (hd : P.underlying kt = some d) {k : Value} {es ces : List MapEntry} {r : Option Nat} (hE : EsRel P ρ sh es ces) (hk : keyIx P kt k es 0 = some r) (w : World) :
    (Instr.findKey kt k ces).run P w = .ok (r.bind fun j => (ces[j]?).map fun ce => (j, ce.val)) w ∧ (∀ j, r = some j → j < es.length) := by
  have h1 := findAsking_run (P := P) (ρ := ρ) (sh := sh) kt k es ces 0 r hE hk w
  refine ⟨?_, fun j hj => by have := h1.2 j hj; omega⟩
  simp only [Instr.findKey, Sem.run_bind, run_underlying hd, Result.andThen_ok]
  cases hq : Instr.findNow d k ces 0 with
  | none => simpa using h1.1
  | some q => have := findNow_run hd k es ces 0 r q hE hk hq; simp [this]

theorem EsRel.of {sh : Sh} {es : List MapEntry} {ces : Array MapEntry} (h1 : ces.size = es.length) (h2 : ∀ (i : Nat) (e : MapEntry), es[i]? = some e → ∃ ce : MapEntry, ces[i]? = some ce ∧ ERel P ρ sh e ce)
    (hp : (es.all fun e => plain e.key) = true) : EsRel P ρ sh es ces.toList := by
  refine ⟨by simpa using h1, fun i e he => ?_⟩
  obtain ⟨ce, hc, hr⟩ := h2 i e he
  rw [List.all_eq_true] at hp
  exact ⟨ce, by simpa using hc, hr, hr.1.eq_of_plain (hp e (List.mem_of_getElem? he))⟩

theorem lookup_sound (h : Rel P ρ H w) {t : TypeId} {m k cm ck v : Value} {ok : Bool} {e : Option Nat} (hs : aLookup P t m k ok ⟨H, e⟩ = some v) (hm : VRel P ρ w.shape? m cm) (hk : VRel P ρ w.shape? k ck) :
    ∃ cv, (Instr.lookup t cm ck ok).run P w = .ok cv w ∧ VRel P ρ w.shape? v cv := by
  unfold aLookup at hs
  split at hs
  case h_2 => simp at hs
  rename_i key elem hu
  split at hs
  case h_2 => simp at hs
  rename_i es zero hes hz
  rw [ite_some] at hs
  obtain ⟨⟨hpk, hpz, hck, hpe⟩, hs⟩ := hs
  have := hk.eq_of_plain hpk; subst this
  -- the model's entries
  have hces : ∃ ces : Array MapEntry, EsRel P ρ w.shape? es ces.toList ∧ ((cm = .map none ∧ ces = #[]) ∨ (∃ cr clock, cm = .map (some cr) ∧ w.heap[cr]? = some (.map ces clock))) := by
    split at hes
    · simp at hes; subst hes
      have := hm.eq_of_plain rfl; subst this
      exact ⟨#[], ⟨rfl, fun i e he => by simp at he⟩, .inl ⟨rfl, rfl⟩⟩
    · rename_i r
      split at hes
      · rename_i es' clock hr
        simp at hes; subst hes
        obtain ⟨cr, ces, h1, h2, h3, h4⟩ := map_get h hr
        obtain ⟨cr', h5, rfl⟩ := hm.map_inv
        rw [h1] at h5; simp at h5; subst h5
        exact ⟨ces, .of h3 h4 hpe, .inr ⟨cr, clock, rfl, h2⟩⟩
      · simp at hes
    · simp at hes
  obtain ⟨ces, hE, hcm⟩ := hces
  have hemp : ces.isEmpty = es.isEmpty := by have := hE.1; simp at this; cases es <;> simp_all [Array.isEmpty]
  obtain ⟨u, hcu⟩ := Option.isSome_iff_exists.1 hck
  have hcr := pureRun_run _ _ hcu w
  rw [← hemp] at hcr
  have hkt : ∃ d, P.underlying key = some d := by
    cases hq : P.underlying key with
    | none =>
      exfalso
      unfold Instr.checkKey at hcu
      simp [pureRun_bind, underlying, program, pureRun, hq, stuck] at hcu
    | some d => exact ⟨d, rfl⟩
  obtain ⟨d, hd⟩ := hkt
  have main : ∀ r, keyIx P key ck es 0 = some r → (Instr.lookup t cm ck ok).run P w = match (r.bind fun j => (ces[j]?).map fun ce => (j, ce.val)) with
      | some (_, v) => .ok (if ok then .tuple #[v, .bool true] else v) w
      | none => .ok (if ok then .tuple #[zero, .bool false] else zero) w := by
    intro r hr
    have hfk := (findKey_run hd hE hr w).1
    simp only [Array.getElem?_toList] at hfk
    rcases hcm with ⟨rfl, rfl⟩ | ⟨cr, clock, rfl, h2⟩
    · simp only [Instr.lookup, Sem.run_bind, run_underlying hu, Result.andThen_ok, Sem.run_pure, hcr, hfk]
      cases (r.bind fun j => ((#[] : Array MapEntry)[j]?).map fun ce => (j, ce.val)) with
      | none => simp [run_zeroP hz]
      | some x => simp
    · simp only [Instr.lookup, Sem.run_bind, run_underlying hu, Result.andThen_ok, Sem.run_pure, run_getMap h2, hcr, hfk]
      cases (r.bind fun j => (ces[j]?).map fun ce => (j, ce.val)) with
      | none => simp [run_zeroP hz]
      | some x => simp
  split at hs
  · rename_i i hix
    simp only [Option.map_eq_some_iff] at hs
    obtain ⟨en, hen, hv⟩ := hs
    obtain ⟨ce, hce, hr, _⟩ := hE.2 i en hen
    rw [main _ hix]
    have hce' : ces[i]? = some ce := by simpa using hce
    simp only [Option.bind_some, hce', Option.map_some]
    refine ⟨_, rfl, ?_⟩
    subst hv
    cases ok with
    | true => simp only [if_true]; exact .tuple_list (.cons hr.2.1 (.cons (.same _ rfl) .nil))
    | false => simpa using hr.2.1
  · rename_i hix
    rw [main _ hix]
    simp only [Option.bind_none]
    refine ⟨_, rfl, ?_⟩
    simp at hs; subst hs
    cases ok with
    | true => simp only [if_true]; exact .tuple_list (.cons (.same _ hpz) (.cons (.same _ rfl) .nil))
    | false => simpa using VRel.same _ hpz
  · simp at hs


theorem keyType_some {n : Nat} {key : TypeId} {k : Value} {b : Bool} (h : (pureRun P (Instr.checkKey b (n + 1) key k)).isSome = true) : ∃ d, P.underlying key = some d := by
  cases hq : P.underlying key with
  | none =>
    exfalso
    unfold Instr.checkKey at h
    simp [pureRun_bind, underlying, program, pureRun, hq, stuck] at h
  | some d => exact ⟨d, rfl⟩

theorem mapUpdate_sound (h : Rel P ρ H w) {t : TypeId} {m k v cm ck cv : Value} {st' : AS} {e : Option Nat} (hs : aMapUpdate P t m k v ⟨H, e⟩ = some st') (hm : VRel P ρ w.shape? m cm) (hk : VRel P ρ w.shape? k ck) (hv : VRel P ρ w.shape? v cv) :
    ∃ w', (Instr.mapUpdate t cm ck cv).run P w = .ok () w' ∧ Rel P ρ st'.H w' ∧ Step H.length ρ H w ρ st'.H w' ∧ st'.H.length = H.length := by
  unfold aMapUpdate at hs
  split at hs
  case h_2 => simp at hs
  rename_i key elem r hu
  split at hs
  case h_2 => simp at hs
  rename_i es clock hr
  rw [ite_some] at hs
  obtain ⟨⟨hpk, hck, hpe⟩, hs⟩ := hs
  have := hk.eq_of_plain hpk; subst this
  obtain ⟨cr, ces, h1, h2, h3, h4⟩ := map_get h hr
  obtain ⟨cr', h5, rfl⟩ := hm.map_inv
  rw [h1] at h5; simp at h5; subst h5
  have hE := EsRel.of h3 h4 hpe
  obtain ⟨d, hd⟩ := keyType_some (n := 9999) hck
  obtain ⟨u, hcu⟩ := Option.isSome_iff_exists.1 hck
  have hcr := pureRun_run _ _ hcu w
  split at hs
  · rename_i i hix
    split at hs
    case h_2 => simp at hs
    rename_i en hen
    simp only [ite_eq_some_iff] at hs
    obtain ⟨hsb, hst⟩ := hs
    simp at hst; subst hst
    have hfk := (findKey_run hd hE hix w).1
    simp only [Array.getElem?_toList] at hfk
    obtain ⟨ce, hce, hre, hkey⟩ := hE.2 i en hen
    have hce' : ces[i]? = some ce := by simpa using hce
    have hset := set_rel h (k' := .map (es.set i { en with key := ck, val := v }) clock) (o' := .map (ces.modify i fun e => { e with key := ck, val := cv }) clock) hr rfl h1 h2 rfl rfl
      (by
        refine ⟨rfl, _, rfl, by simp [h3], fun j e' he' => ?_⟩
        by_cases hij : i = j
        · subst hij
          rw [List.getElem?_set_self (lt_of_get hen)] at he'; simp at he'; subst he'
          refine ⟨{ ce with key := ck, val := cv }, by rw [Array.getElem?_modify]; simp [hce'], .same _ hpk, hv, hre.2.2⟩
        · rw [List.getElem?_set_ne hij] at he'
          obtain ⟨ce2, hc2, hr2⟩ := h4 j e' he'
          exact ⟨ce2, by rw [Array.getElem?_modify]; simp [hij, hc2], hr2⟩)
    refine ⟨_, ?_, hset.1, hset.2, by simp⟩
    simp only [Instr.mapUpdate, Sem.run_bind, run_underlying hu, Result.andThen_ok, run_getMap h2, hcr, hfk, Option.bind_some, hce', Option.map_some, Option.getD_some]
    rw [hkey]
    simp only [Instr.keyThatStays, hsb, if_true, Sem.run_pure, Result.andThen_ok, run_setMap h2]
  · rename_i hix
    simp at hs; subst hs
    have hfk := (findKey_run hd hE hix w).1
    have hset := set_rel h (k' := .map (es ++ [{ key := ck, val := v, born := clock }]) (clock + 1)) (o' := .map (ces.push { key := ck, val := cv, born := clock }) (clock + 1)) hr rfl h1 h2 rfl rfl
      (by
        refine ⟨rfl, _, rfl, by simp [h3], fun j e' he' => ?_⟩
        by_cases hj : j < es.length
        · rw [List.getElem?_append_left hj] at he'
          obtain ⟨ce2, hc2, hr2⟩ := h4 j e' he'
          exact ⟨ce2, by rw [Array.getElem?_push_lt (by omega)]; rw [← hc2]; simp [lt_of_getA hc2], hr2⟩
        · have hjl := lt_of_get he'
          simp at hjl
          have : j = es.length := by omega
          subst this
          rw [List.getElem?_append_right (Nat.le_refl _)] at he'
          simp at he'; subst he'
          exact ⟨{ key := ck, val := cv, born := clock }, by rw [← h3]; exact Array.getElem?_push_size, .same _ hpk, hv, rfl⟩)
    refine ⟨_, ?_, hset.1, hset.2, by simp⟩
    simp only [Instr.mapUpdate, Sem.run_bind, run_underlying hu, Result.andThen_ok, run_getMap h2, hcr, hfk, Option.bind_none, run_setMap h2]
  · simp at hs

theorem delete_sound (h : Rel P ρ H w) {argTypes : Array TypeId} {ty : TypeId} {m k cm ck : Value} {st' : AS} {e : Option Nat} (hs : aDelete P argTypes m k ⟨H, e⟩ = some st') (hm : VRel P ρ w.shape? m cm) (hk : VRel P ρ w.shape? k ck) :
    ∃ w', (Builtin.delete_ argTypes ty #[cm, ck]).run P w = .ok (.tuple #[]) w' ∧ Rel P ρ st'.H w' ∧ Step H.length ρ H w ρ st'.H w' ∧ st'.H.length = H.length := by
  unfold aDelete at hs
  split at hs
  case h_2 => simp at hs
  rename_i key elem r hut
  obtain ⟨t, hat, hu⟩ := Option.bind_eq_some_iff.1 hut
  split at hs
  case h_2 => simp at hs
  rename_i es clock hr
  rw [ite_some] at hs
  obtain ⟨⟨hpk, hck, hpe⟩, hs⟩ := hs
  have := hk.eq_of_plain hpk; subst this
  obtain ⟨cr, ces, h1, h2, h3, h4⟩ := map_get h hr
  obtain ⟨cr', h5, rfl⟩ := hm.map_inv
  rw [h1] at h5; simp at h5; subst h5
  have hE := EsRel.of h3 h4 hpe
  have hemp : ces.isEmpty = es.isEmpty := by cases es <;> simp_all [Array.isEmpty]
  obtain ⟨d, hd⟩ := keyType_some (n := 9999) hck
  obtain ⟨u, hcu⟩ := Option.isSome_iff_exists.1 hck
  have hcr := pureRun_run _ _ hcu w
  rw [← hemp] at hcr
  split at hs
  · rename_i i hix
    simp at hs; subst hs
    have hfk := findKey_run hd hE hix w
    have hi := hfk.2 i rfl
    have hfk := hfk.1
    simp only [Array.getElem?_toList] at hfk
    obtain ⟨ce, hce, _, _⟩ := hE.2 i es[i] (List.getElem?_eq_getElem hi)
    have hce' : ces[i]? = some ce := by simpa using hce
    have hset := set_rel h (k' := .map (es.eraseIdx i) clock) (o' := .map (ces.eraseIdxIfInBounds i) clock) hr rfl h1 h2 rfl rfl
      (by
        have hci : i < ces.size := by omega
        refine ⟨rfl, _, rfl, by simp [Array.eraseIdxIfInBounds, hci, List.length_eraseIdx, h3, hi], fun j e' he' => ?_⟩
        rw [List.getElem?_eraseIdx] at he'
        have e1 : (ces.eraseIdxIfInBounds i)[j]? = if j < i then ces[j]? else ces[j + 1]? := by
          simp only [Array.eraseIdxIfInBounds, hci, dite_true]
          rw [Array.getElem?_eraseIdx]
        rw [e1]
        split at he'
        · rename_i hj; rw [if_pos hj]; exact h4 j e' he'
        · rename_i hj; rw [if_neg hj]; exact h4 (j + 1) e' he')
    refine ⟨_, ?_, hset.1, hset.2, by simp⟩
    have a0 : (#[Value.map (some cr), ck] : Array Value)[0]? = some (.map (some cr)) := rfl
    have a1 : (#[Value.map (some cr), ck] : Array Value)[1]? = some ck := rfl
    simp only [Builtin.delete_, hat, a0, a1, Sem.run_bind, run_underlying hu, Result.andThen_ok, run_getMap h2, hcr, hfk, Option.bind_some, hce', Option.map_some, run_setMap h2, Sem.run_pure]
  · rename_i hix
    simp at hs; subst hs
    have hfk := (findKey_run hd hE hix w).1
    have hsame : setBlk w cr (.map ces clock) = w := by
      simp only [setBlk]
      have : w.heap.setIfInBounds cr (.map ces clock) = w.heap := by
        apply Array.ext_getElem?; intro i
        by_cases hi : i = cr
        · subst hi; rw [Array.getElem?_setIfInBounds_self_of_lt (lt_of_getA h2), h2]
        · rw [Array.getElem?_setIfInBounds_ne (Ne.symm hi)]
      rw [this]
    refine ⟨w, ?_, h, .refl _, rfl⟩
    have a0 : (#[Value.map (some cr), ck] : Array Value)[0]? = some (.map (some cr)) := rfl
    have a1 : (#[Value.map (some cr), ck] : Array Value)[1]? = some ck := rfl
    simp only [Builtin.delete_, hat, a0, a1, Sem.run_bind, run_underlying hu, Result.andThen_ok, run_getMap h2, hcr, hfk, Option.bind_none, run_setMap h2, hsame, Sem.run_pure]
  · simp at hs

end
end Go.Am
