/- What comes in, as the machine's blocks: nothing in it is written. -/
import Derived.Test.YtgpfiiebfhdjhaaAm16
import Derived.Deep.Slices
namespace Go.Am
open Go.ChangeShapes Go.WideShapes Go.RowKit Go.Deep

/-- what came in: a cell, a slice, or several; a slice with its spare -/
inductive D where
  | cell (v : Value)
  | nilS
  | agg (ds : List D)
  | slice (row : TypeId) (ds : List D) (len : Nat)

mutual
def D.nb : D → Nat
  | .cell _ | .nilS => 0
  | .agg ds => D.nbL ds
  | .slice _ ds _ => D.nbL ds + 1
def D.nbL : List D → Nat
  | [] => 0
  | d :: ds => d.nb + D.nbL ds
end

mutual
/-- its cells; new blocks are numbered from k on -/
def D.cells : D → Nat → List Value
  | .cell v, _ => [v]
  | .nilS, _ => [.slice none 0 0]
  | .agg ds, k => D.cellsL ds k
  | .slice _ ds len, k => [.slice (some ⟨k, 0, none⟩) len ds.length]
def D.cellsL : List D → Nat → List Value
  | [], _ => []
  | d :: ds, k => d.cells k ++ D.cellsL ds (k + d.nb)
end

mutual
/-- its blocks -/
def D.blks : D → Nat → List Blk
  | .cell _, _ | .nilS, _ => []
  | .agg ds, k => D.blksL ds k
  | .slice row ds _, k => (if ds.isEmpty = true then .dead else .cells (D.cellsL ds (k + 1)) row false) :: D.blksL ds (k + 1)
def D.blksL : List D → Nat → List Blk
  | [], _ => []
  | d :: ds, k => d.blks k ++ D.blksL ds (k + d.nb)
end

mutual
theorem D.blks_length : ∀ (d : D) (k : Nat), (d.blks k).length = d.nb
  | .cell _, _ | .nilS, _ => by simp [D.blks, D.nb]
  | .agg ds, k => by simp [D.blks, D.nb, D.blksL_length ds k]
  | .slice _ ds _, k => by simp [D.blks, D.nb, D.blksL_length ds (k + 1)]
theorem D.blksL_length : ∀ (ds : List D) (k : Nat), (D.blksL ds k).length = D.nbL ds
  | [], _ => by simp [D.blksL, D.nbL]
  | d :: ds, k => by simp [D.blksL, D.nbL, D.blks_length d k, D.blksL_length ds (k + d.nb)]
end

mutual
theorem D.blks_ro : ∀ (d : D) (k : Nat) (b : Blk), b ∈ d.blks k → b.owns = false
  | .cell _, _, b, h | .nilS, _, b, h => by simp [D.blks] at h
  | .agg ds, k, b, h => D.blksL_ro ds k b (by simpa [D.blks] using h)
  | .slice _ ds _, k, b, h => by
    simp only [D.blks, List.mem_cons] at h
    rcases h with rfl | h
    · split <;> rfl
    · exact D.blksL_ro ds (k + 1) b h
theorem D.blksL_ro : ∀ (ds : List D) (k : Nat) (b : Blk), b ∈ D.blksL ds k → b.owns = false
  | [], _, b, h => by simp [D.blksL] at h
  | d :: ds, k, b, h => by
    simp only [D.blksL, List.mem_append] at h
    rcases h with h | h
    · exact D.blks_ro d k b h
    · exact D.blksL_ro ds _ b h
end

/-- what came in fits its type -/
inductive DOk (P : Program) : TypeId → D → Prop
  | bool {t : TypeId} (b : Bool) (ht : P.underlying t = some .bool) : DOk P t (.cell (.bool b))
  | int {t : TypeId} {k : IntKind} (n : Int) (ht : P.underlying t = some (.int k)) (hw : k.min ≤ n ∧ n ≤ k.max) : DOk P t (.cell (.int k n))
  | str {t : TypeId} (s : ByteArray) (ht : P.underlying t = some .string) (hs : s.size ≤ maxLen) : DOk P t (.cell (.string s))
  | nilS {t e : TypeId} (ht : P.underlying t = some (.slice e)) : DOk P t .nilS
  | slice {t e : TypeId} (row : TypeId) (ds : List D) (len : Nat) (ht : P.underlying t = some (.slice e)) (hl : len ≤ ds.length) (hm : ds.length ≤ maxLen) (h : ∀ d ∈ ds, DOk P e d) : DOk P t (.slice row ds len)
  | struct {t : TypeId} {fs : Array Field} (ds : List D) (ht : P.underlying t = some (.struct fs)) (hl : ds.length = fs.size) (h : ∀ (i : Nat) (f : Field) (d : D), fs[i]? = some f → ds[i]? = some d → DOk P f.type d) : DOk P t (.agg ds)
  | array {t n e : Nat} (ds : List D) (ht : P.underlying t = some (.array n e)) (hl : ds.length = n) (h : ∀ d ∈ ds, DOk P e d) : DOk P t (.agg ds)

theorem cellsL_ok : ∀ (ds : List D), (∀ d ∈ ds, ∀ k, allCells (d.cells k) = true) → ∀ k, allCells (D.cellsL ds k) = true
  | [], _, _ => by simp [D.cellsL, allCells]
  | d :: ds, h, k => by
    have h1 := h d (by simp) k
    have h2 := cellsL_ok ds (fun x hx => h x (by simp [hx])) (k + d.nb)
    unfold allCells at h1 h2 ⊢
    simp only [D.cellsL, List.all_append, h1, h2, Bool.and_self]

theorem DOk.cells_ok {P : Program} {t : TypeId} {d : D} (h : DOk P t d) : ∀ k, allCells (d.cells k) = true := by
  induction h with
  | struct ds ht hl h ih =>
    intro k
    simp only [D.cells]
    refine cellsL_ok ds (fun d hd => ?_) k
    obtain ⟨i, hi⟩ := List.getElem?_of_mem hd
    have hlt := lt_of_get hi
    exact ih i _ d (Array.getElem?_eq_getElem (by omega)) hi
  | array ds ht hl h ih => intro k; simp only [D.cells]; exact cellsL_ok ds ih k
  | _ => intro k; rfl

/-- do a struct's fields lie side by side? -/
def contig (P : Program) : List Field → Nat → Option Nat
  | [], n => some n
  | f :: fs, n => if f.offset = n then contig P fs (n + P.cellsOf f.type) else none

/-- is a type one that is opened here? -/
def fineT (P : Program) : Nat → TypeId → Bool
  | 0, _ => false
  | n + 1, t => match P.underlying t with
    | some .bool | some (.int _) | some .string => true
    | some (.slice e) => decide (0 < P.cellsOf e) && fineT P n e
    | some (.struct fs) => contig P fs.toList 0 == some (P.cellsOf t) && fs.toList.all fun f => fineT P n f.type
    | some (.array k e) => decide (P.cellsOf t = k * P.cellsOf e) && fineT P n e
    | _ => false

section
variable {P : Program} {w : World}

/-- all blocks are only read -/
def RO (H : List Blk) : Prop := ∀ (b : Nat) (k : Blk), H[b]? = some k → k.owns = false

theorem RO.append {H H' : List Blk} (h : RO H) (h' : ∀ b ∈ H', b.owns = false) : RO (H ++ H') := by
  intro b k hb
  have := List.mem_of_getElem? hb
  rw [List.mem_append] at this
  rcases this with hm | hm
  · obtain ⟨i, hi⟩ := List.getElem?_of_mem hm; exact h i k hi
  · exact h' k hm

theorem Rel.add_dead {ρ : Ren} {H : List Blk} (h : Rel P ρ H w) (x : Nat × Nat) : Rel P (upd ρ H.length x) (H ++ [.dead]) w := by
  have hd : ρ H.length = none := h.dom _ (Nat.le_refl _)
  have hold : ∀ {b : Nat} {k : Blk}, (H ++ [Blk.dead])[b]? = some k → k.live = true → H[b]? = some k := by
    intro b k hb hl
    by_cases hlt : b < H.length
    · rwa [List.getElem?_append_left hlt] at hb
    · rw [List.getElem?_append_right (by omega)] at hb
      have := lt_of_get hb
      simp at this
      have e : b - H.length = 0 := by omega
      rw [e] at hb; simp at hb; subst hb; simp [Blk.live] at hl
  have hol : ∀ {k : Blk}, k.owns = true → k.live = true := by intro k; cases k <;> simp [Blk.owns, Blk.live]
  refine ⟨fun b k hb hl => ?_, fun b b' k k' hb hb' ho hl hne cb y z hr hr' => ?_, fun b hb => ?_⟩
  · obtain ⟨cb, base, o, h1, h2, h3⟩ := h.blk b k (hold hb hl) hl
    exact ⟨cb, base, o, upd_mono hd _ _ h1, h2, h3.mono (upd_mono hd) (fun _ _ h => h)⟩
  · have h1 := hold hb (hol ho)
    have h2 := hold hb' hl
    have e1 : upd ρ H.length x b = ρ b := by simp [upd, Nat.ne_of_lt (lt_of_get h1)]
    have e2 : upd ρ H.length x b' = ρ b' := by simp [upd, Nat.ne_of_lt (lt_of_get h2)]
    rw [e1] at hr; rw [e2] at hr'
    exact h.uniq b b' k k' h1 h2 ho hl hne cb y z hr hr'
  · simp at hb
    have : b ≠ H.length := by omega
    simp [upd, this]; exact h.dom b (by omega)

theorem Rel.revive {ρ : Ren} {H : List Blk} (h : Rel P ρ H w) (hro : RO H) {b : Nat} {k : Blk} {cb base : Nat} {o : Obj} (hk : k.owns = false) (hr : ρ b = some (cb, base)) (ho : w.heap[cb]? = some o) (hb : BRel P ρ w.shape? k base o) : Rel P ρ (H.set b k) w := by
  refine ⟨fun c k1 h1 hl => ?_, fun c c' k1 k2 h1 h2 hown => ?_, fun c hc => h.dom c (by simpa using hc)⟩
  · by_cases hc : b = c
    · subst hc
      have hlt := lt_of_get h1
      rw [List.getElem?_set_self (by simpa using hlt)] at h1; simp at h1; subst h1
      exact ⟨cb, base, o, hr, ho, hb⟩
    · rw [List.getElem?_set_ne hc] at h1; exact h.blk c k1 h1 hl
  · by_cases hc : b = c
    · subst hc
      have hlt := lt_of_get h1
      rw [List.getElem?_set_self (by simpa using hlt)] at h1; simp at h1; subst h1
      rw [hk] at hown; simp at hown
    · rw [List.getElem?_set_ne hc] at h1; rw [hro c k1 h1] at hown; simp at hown

/-- cells that the model has stand as the machine's -/
def Opens (P : Program) (w : World) (t : TypeId) (cs : List Value) : Prop :=
  ∃ d, DOk P t d ∧ ∀ (ρ : Ren) (H : List Blk), Rel P ρ H w → RO H → ∃ ρ', Rel P ρ' (H ++ d.blks H.length) w ∧ (∀ b, b < H.length → ρ' b = ρ b) ∧ LRel P ρ' w.shape? (d.cells H.length) cs

theorem open_list : ∀ (items : List (TypeId × List Value)), (∀ x ∈ items, Opens P w x.1 x.2) →
    ∃ ds : List D, ds.length = items.length ∧ (∀ (i : Nat) (x : TypeId × List Value) (d : D), items[i]? = some x → ds[i]? = some d → DOk P x.1 d) ∧
      ∀ (ρ : Ren) (H : List Blk), Rel P ρ H w → RO H → ∃ ρ', Rel P ρ' (H ++ D.blksL ds H.length) w ∧ (∀ b, b < H.length → ρ' b = ρ b) ∧ LRel P ρ' w.shape? (D.cellsL ds H.length) (items.flatMap (·.2))
  | [], _ => ⟨[], rfl, fun i x d h => by simp at h, fun ρ H h hro => ⟨ρ, by simpa [D.blksL] using h, fun _ _ => rfl, by simpa [D.cellsL] using LRel.nil⟩⟩
  | x :: items, h => by
    obtain ⟨d, hd, h1⟩ := h x (by simp)
    obtain ⟨ds, hl, hok, h2⟩ := open_list items (fun y hy => h y (by simp [hy]))
    refine ⟨d :: ds, by simp [hl], fun i y e hi he => ?_, fun ρ H hr hro => ?_⟩
    · cases i with
      | zero => simp at hi he; subst hi; subst he; exact hd
      | succ i => simp at hi he; exact hok i y e hi he
    · obtain ⟨ρ1, r1, e1, l1⟩ := h1 ρ H hr hro
      obtain ⟨ρ2, r2, e2, l2⟩ := h2 ρ1 _ r1 (hro.append (D.blks_ro d _))
      have hlen : (H ++ d.blks H.length).length = H.length + d.nb := by simp [D.blks_length]
      rw [hlen] at r2 e2 l2
      refine ⟨ρ2, by simpa [D.blksL] using r2, fun b hb => (e2 b (by omega)).trans (e1 b hb), ?_⟩
      simp only [D.cellsL, List.flatMap_cons]
      refine LRel.append (l1.mono (fun b y hb => ?_) (fun _ _ h => h)) l2
      by_cases hlt : b < H.length + d.nb
      · rw [e2 b hlt]; exact hb
      · have := r1.dom b (by rw [hlen]; omega)
        rw [this] at hb; simp at hb

theorem contig_cells : ∀ (fs : List Field) (n m : Nat) (cs : List Value), contig P fs n = some m → cs.length = m → (fs.map fun f => (f.type, (cs.drop f.offset).take (P.cellsOf f.type))).flatMap (·.2) = cs.drop n
  | [], n, m, cs, h, hl => by simp [contig] at h; subst h; simp [← hl]
  | f :: fs, n, m, cs, h, hl => by
    simp only [contig] at h
    split at h
    · rename_i ho
      simp only [List.map_cons, List.flatMap_cons]
      rw [contig_cells fs _ m cs h hl, ho, ← List.drop_drop]
      exact List.take_append_drop _ _
    · simp at h

theorem array_cells (c : Nat) (e : TypeId) : ∀ (n : Nat) (cs : List Value), cs.length = n * c → ((List.range n).map fun i => (e, (cs.drop (i * c)).take c)).flatMap (·.2) = cs
  | 0, cs, h => by simp at h; simp [h]
  | n + 1, cs, h => by
    have h1 : (cs.drop c).length = n * c := by simp [h, Nat.succ_mul]
    have := array_cells c e n (cs.drop c) h1
    rw [List.range_succ_eq_map]
    simp only [List.map_cons, List.flatMap_cons, List.map_map, Nat.zero_mul, List.drop_zero]
    have e1 : (List.range n).map ((fun i => (e, (cs.drop (i * c)).take c)) ∘ Nat.succ) = (List.range n).map fun i => (e, ((cs.drop c).drop (i * c)).take c) := by
      refine List.map_congr_left fun i _ => ?_
      simp only [Function.comp, List.drop_drop]
      rw [Nat.succ_mul, Nat.add_comm]
    rw [e1, this]
    exact List.take_append_drop _ _

variable {H : Type} {enc : TypeId × Value → H}

theorem opens : ∀ (n : Nat) (fuel : Nat) (t : TypeId) (cs : List Value) (x : DataW H × List MemPlace), fineT P n t = true → DataW.trod enc P w 0 (fun _ => true) true fuel t cs = some x → Opens P w t cs
  | 0, _, _, _, _, h, _ => by simp [fineT] at h
  | n + 1, fuel, t, cs, x, hf, h => by
    simp only [fineT] at hf
    split at hf
    · rename_i ht
      obtain ⟨b, rfl, _⟩ := DataW.trod_bool ht h
      exact ⟨.cell (.bool b), .bool b ht, fun ρ H hr _ => ⟨ρ, by simpa [D.blks] using hr, fun _ _ => rfl, by simpa [D.cells] using LRel.refl_plain rfl⟩⟩
    · rename_i k ht
      obtain ⟨m, rfl, _, hw⟩ := DataW.trod_int ht h
      simp only [Lit.wf, Bool.and_eq_true, decide_eq_true_eq] at hw
      exact ⟨.cell (.int k m), .int m ht hw, fun ρ H hr _ => ⟨ρ, by simpa [D.blks] using hr, fun _ _ => rfl, by simpa [D.cells] using LRel.refl_plain rfl⟩⟩
    · rename_i ht
      obtain ⟨s, rfl, _, hs⟩ := DataW.trod_string ht h
      exact ⟨.cell (.string s), .str s ht hs, fun ρ H hr _ => ⟨ρ, by simpa [D.blks] using hr, fun _ _ => rfl, by simpa [D.cells] using LRel.refl_plain rfl⟩⟩
    · rename_i e ht
      simp only [Bool.and_eq_true, decide_eq_true_eq] at hf
      rcases open_slice ht h with ⟨rfl, _⟩ | ⟨a, len, cap, m, k, Dd, Pl, rfl, _, hl, hm, hmm, _, hx⟩
      · exact ⟨.nilS, .nilS ht, fun ρ H hr _ => ⟨ρ, by simpa [D.blks] using hr, fun _ _ => rfl, by simpa [D.cells] using LRel.refl_plain rfl⟩⟩
      · simp only [if_true] at hmm
        subst hmm
        obtain ⟨cf, hcf⟩ := choose_lt (α := List Value) hx
        have hopen : ∀ y ∈ (List.range m).map fun i => (e, cf i), Opens P w y.1 y.2 := by
          intro y hy
          obtain ⟨i, hi, rfl⟩ := List.mem_map.1 hy
          exact opens n k e (cf i) _ hf.2 (hcf i (List.mem_range.1 hi)).2
        obtain ⟨ds, hdl, hdok, hds⟩ := open_list _ hopen
        simp only [List.length_map, List.length_range] at hdl
        subst hdl
        by_cases h0 : ds.length = 0
        · have hds0 : ds = [] := List.eq_nil_of_length_eq_zero h0
          subst hds0
          have hl0 : len = 0 := by simpa using hl
          subst hl0
          refine ⟨.slice 0 [] 0, .slice 0 [] 0 ht (by simp) (by simp) (by simp), fun ρ H hr hro => ⟨upd ρ H.length (a.block, a.off), by simpa [D.blks, D.blksL] using hr.add_dead _, fun b hb => by simp [upd, Nat.ne_of_lt hb], ?_⟩⟩
          simp only [D.cells]
          exact LRel.cons (.slice0 (by simp [upd]) (fun _ => rfl)) .nil
        · have hc0 : 0 < ds.length := Nat.pos_of_ne_zero h0
          -- the row's block
          obtain ⟨_, hlen0, hcell0⟩ := World.cells?_some (hcf 0 hc0).1
          have hsp : a.spot = none ∧ ∃ carr row fz, w.heap[a.block]? = some (.cells carr row fz) := by
            have := hcell0 0 hf.1
            have hadd : (a.add (0 * P.cellsOf e)).add 0 = a := by simp [Addr.add]
            rw [hadd] at this
            obtain ⟨v, hv⟩ : ∃ v, (cf 0)[0]? = some v := ⟨_, List.getElem?_eq_getElem (by rw [hlen0]; exact hf.1)⟩
            rw [hv] at this
            unfold World.cell? at this
            split at this
            · rename_i c row fz hb
              split at this
              · simp at this
              · rename_i hn
                exact ⟨by cases hs : a.spot <;> simp_all, c, row, fz, hb⟩
            · simp at this
          obtain ⟨hsp, carr, row, fz, hblk⟩ := hsp
          have hcells : ∀ i, i < ds.length → ∀ j, j < P.cellsOf e → carr.toList[a.off + i * P.cellsOf e + j]? = (cf i)[j]? := by
            intro i hi j hj
            obtain ⟨_, hlen, hcell⟩ := World.cells?_some (hcf i hi).1
            rw [← hcell j hj, add_add]
            unfold World.cell? Addr.add
            by_cases hz : i * P.cellsOf e + j = 0
            · rw [if_pos hz, hblk]
              have : a.off + i * P.cellsOf e + j = a.off := by omega
              simp [hsp, this]
            · rw [if_neg hz]
              simp [hblk, Nat.add_assoc]
          have hflat : ((List.range ds.length).map fun i => (e, cf i)).flatMap (·.2) = (carr.toList.drop a.off).take (ds.length * P.cellsOf e) := by
            have key : ∀ m, m ≤ ds.length → ((List.range m).map fun i => (e, cf i)).flatMap (·.2) = (carr.toList.drop a.off).take (m * P.cellsOf e) := by
              intro m
              induction m with
              | zero => intro _; simp
              | succ m ih =>
                intro hm
                rw [List.range_succ, List.map_append, List.flatMap_append, ih (by omega)]
                simp only [List.map_cons, List.map_nil, List.flatMap_cons, List.flatMap_nil, List.append_nil]
                rw [Nat.succ_mul, List.take_add]
                congr 1
                obtain ⟨_, hlen, _⟩ := World.cells?_some (hcf m (by omega)).1
                apply List.ext_getElem?
                intro j
                by_cases hj : j < P.cellsOf e
                · rw [List.getElem?_take_of_lt hj, List.drop_drop, List.getElem?_drop, ← hcells m (by omega) j hj]
                · rw [List.getElem?_eq_none (by omega), List.getElem?_eq_none (by simp; omega)]
            exact key _ (Nat.le_refl _)
          have hflen : (((List.range ds.length).map fun i => (e, cf i)).flatMap (·.2)).length = ds.length * P.cellsOf e := by
            have key : ∀ m, m ≤ ds.length → (((List.range m).map fun i => (e, cf i)).flatMap (·.2)).length = m * P.cellsOf e := by
              intro m
              induction m with
              | zero => intro _; simp
              | succ m ih =>
                intro hm
                rw [List.range_succ, List.map_append, List.flatMap_append, List.length_append, ih (by omega)]
                obtain ⟨_, hlen, _⟩ := World.cells?_some (hcf m (by omega)).1
                simp [hlen, Nat.succ_mul]
            exact key _ (Nat.le_refl _)
          refine ⟨.slice row ds len, .slice row ds len ht hl hm (fun d hd => ?_), fun ρ H hr hro => ?_⟩
          · obtain ⟨i, hi⟩ := List.getElem?_of_mem hd
            exact hdok i (e, cf i) d (by simp [lt_of_get hi]) hi
          · have hr1 := hr.add_dead (a.block, a.off)
            have hro1 : RO (H ++ [Blk.dead]) := hro.append (by simp [Blk.owns])
            obtain ⟨ρ2, r2, e2, l2⟩ := hds _ _ hr1 hro1
            simp only [List.length_append, List.length_cons, List.length_nil, Nat.zero_add] at r2 e2 l2
            have hρ : ρ2 H.length = some (a.block, a.off) := by rw [e2 _ (by omega)]; simp [upd]
            have hro2 : RO (H ++ [Blk.dead] ++ D.blksL ds (H.length + 1)) := hro1.append (D.blksL_ro ds _)
            have hB : BRel P ρ2 w.shape? (.cells (D.cellsL ds (H.length + 1)) row false) a.off (.cells carr row fz) := by
              refine ⟨carr, fz, rfl, ?_, by simp, ?_⟩
              · rw [l2.1, hflen, ← hflat]; exact l2
              · refine cellsL_ok ds (fun d hd => ?_) _
                obtain ⟨i, hi⟩ := List.getElem?_of_mem hd
                exact (hdok i (e, cf i) d (by simp [lt_of_get hi]) hi).cells_ok
            have r3 := r2.revive hro2 (b := H.length) (k := .cells (D.cellsL ds (H.length + 1)) row false) rfl hρ hblk hB
            refine ⟨ρ2, ?_, fun b hb => by rw [e2 b (by omega)]; simp [upd, Nat.ne_of_lt hb], ?_⟩
            · have : (H ++ [Blk.dead] ++ D.blksL ds (H.length + 1)).set H.length (.cells (D.cellsL ds (H.length + 1)) row false) = H ++ D.blks (.slice row ds len) H.length := by
                have hne : ds.isEmpty = false := by cases ds <;> simp_all
                simp [D.blks, hne]
              rwa [this] at r3
            · simp only [D.cells]
              refine LRel.cons ?_ .nil
              have ha : a = ⟨a.block, a.off + 0, none⟩ := by cases a; simp_all
              rw [ha]
              exact .slice hρ (fun _ => rfl) hl (fun hu => by
                have : ds.length < UNK := Nat.lt_of_le_of_lt hm (by decide)
                omega)
    · rename_i fs ht
      simp only [Bool.and_eq_true, beq_iff_eq, List.all_eq_true] at hf
      obtain ⟨xs, m, rfl, _, hlen, hxl, hx⟩ := DataW.trod_struct ht h
      have hopen : ∀ y ∈ fs.toList.map fun f => (f.type, (cs.drop f.offset).take (P.cellsOf f.type)), Opens P w y.1 y.2 := by
        intro y hy
        obtain ⟨f, hfm, rfl⟩ := List.mem_map.1 hy
        obtain ⟨i, hi⟩ := List.getElem?_of_mem hfm
        have := hx i f (by simpa using hi)
        have hil : i < xs.length := by rw [hxl]; have := lt_of_get hi; simpa using this
        rw [List.getElem?_eq_getElem hil] at this
        exact opens n m _ _ _ (hf.2 f hfm) this
      obtain ⟨ds, hdl, hdok, hds⟩ := open_list _ hopen
      rw [contig_cells fs.toList 0 _ cs hf.1 hlen, List.drop_zero] at hds
      refine ⟨.agg ds, .struct ds ht (by simpa using hdl) (fun i f d hi hd => hdok i (f.type, (cs.drop f.offset).take (P.cellsOf f.type)) d (by simp [hi]) hd), fun ρ H hr hro => ?_⟩
      simpa [D.blks, D.cells] using hds ρ H hr hro
    · rename_i k e ht
      simp only [Bool.and_eq_true, decide_eq_true_eq] at hf
      obtain ⟨xs, m, rfl, _, hlen, hxl, hx⟩ := DataW.trod_array ht h
      have hopen : ∀ y ∈ (List.range k).map fun i => (e, (cs.drop (i * P.cellsOf e)).take (P.cellsOf e)), Opens P w y.1 y.2 := by
        intro y hy
        obtain ⟨i, hi, rfl⟩ := List.mem_map.1 hy
        have hi := List.mem_range.1 hi
        have := hx i hi
        rw [List.getElem?_eq_getElem (by omega)] at this
        exact opens n m _ _ _ hf.2 this
      obtain ⟨ds, hdl, hdok, hds⟩ := open_list _ hopen
      rw [array_cells (P.cellsOf e) e k cs (by rw [hlen, hf.1])] at hds
      refine ⟨.agg ds, .array ds ht (by simpa using hdl) (fun d hd => ?_), fun ρ H hr hro => ?_⟩
      · obtain ⟨i, hi⟩ := List.getElem?_of_mem hd
        have hlt := lt_of_get hi
        simp only [List.length_map, List.length_range] at hdl
        exact hdok i (e, _) d (by simp [hdl ▸ hlt]; rfl) hi
      · simpa [D.blks, D.cells] using hds ρ H hr hro
    · simp at hf

/-! ### A law's arguments -/

/-- an argument's value -/
def argV (P : Program) (t : TypeId) (d : D) (k : Nat) : Value :=
  match P.underlying t with
  | some (.struct _) | some (.array _ _) => .agg (d.cells k).toArray
  | _ => (d.cells k).headD unk

/-- the arguments' values -/
def argVs (P : Program) : List TypeId → List D → Nat → List Value
  | t :: ts, d :: ds, k => argV P t d k :: argVs P ts ds (k + d.nb)
  | _, _, _ => []

/-- all fit their types -/
def DOks (P : Program) : List TypeId → List D → Prop
  | [], [] => True
  | t :: ts, d :: ds => DOk P t d ∧ DOks P ts ds
  | _, _ => False

theorem arg_rel {ρ : Ren} {sh : Sh} {t : TypeId} {d : D} {k : Nat} {v : Value} {base : Nat} (hv : Value.okWide P w .any base t v) (hl : LRel P ρ sh (d.cells k) v.cells.toList) : VRel P ρ sh (argV P t d k) v := by
  have agg : ∀ cs : Array Value, v = .agg cs → VRel P ρ sh (.agg (d.cells k).toArray) v := by
    intro cs he; subst he
    have : LRel P ρ sh (d.cells k).toArray.toList cs.toList := by simpa [Value.cells] using hl
    exact .agg this.arr.1 this.arr.2
  unfold argV
  unfold Value.okWide at hv
  split
  · rename_i h1; rw [h1] at hv; obtain ⟨cs, he, _⟩ := hv; exact agg cs he
  · rename_i h1; rw [h1] at hv; obtain ⟨cs, he, _⟩ := hv; exact agg cs he
  · have one : v.cells.toList = [v] ∨ ∃ cs, v = .agg cs := by cases v <;> simp [Value.cells]
    rcases one with h1 | ⟨cs, rfl⟩
    · rw [h1] at hl
      match hc : d.cells k, hl with
      | [x], hl => exact hl.head.1
      | [], hl => have := hl.1; simp at this
      | x :: y :: r, hl => have := hl.1; simp at this
    · rename_i h2 h3
      exfalso
      split at hv
      · exact h2 _ ‹_›
      · exact h3 _ _ ‹_›
      · unfold Cell.okWide at hv
        split at hv <;> simp_all [Cell.ok]

/-- A LAW'S ARGUMENTS, OPENED: the machine's blocks and values for them. -/
theorem open_args {base : Nat} : ∀ (ts : List TypeId) (vs : List Value) (ds : List (DataW H)) (ps : List MemPlace), ts.all (fineT P 12) = true → DataW.TrodAll enc P w 0 (fun _ => true) true ts vs ds ps →
    (∀ (j : Nat) t v, ts[j]? = some t → vs[j]? = some v → Value.okWide P w .any base t v) →
    ∃ xs, DOks P ts xs ∧ ∀ (ρ : Ren) (H : List Blk), Rel P ρ H w → RO H → ∃ ρ', Rel P ρ' (H ++ D.blksL xs H.length) w ∧ RO (H ++ D.blksL xs H.length) ∧ (∀ b, b < H.length → ρ' b = ρ b) ∧ LRel P ρ' w.shape? (argVs P ts xs H.length) vs
  | [], vs, ds, ps, _, h, _ => by
    obtain ⟨rfl, _, _⟩ := trodAll_nil h
    exact ⟨[], trivial, fun ρ H hr hro => ⟨ρ, by simpa [D.blksL] using hr, by simpa [D.blksL] using hro, fun _ _ => rfl, LRel.nil⟩⟩
  | t :: ts, vs, ds, ps, hf, h, hv => by
    obtain ⟨v, vs1, d1, ds1, a, b, rfl, rfl, rfl, ⟨fuel, h1⟩, h2⟩ := trodAll_cons h
    simp only [List.all_cons, Bool.and_eq_true] at hf
    obtain ⟨d, hd, ho⟩ := opens 12 fuel t _ _ hf.1 h1
    obtain ⟨xs, hxs, hos⟩ := open_args ts vs1 ds1 b hf.2 h2 (fun j t v ht hj => hv (j + 1) t v (by simpa using ht) (by simpa using hj))
    refine ⟨d :: xs, ⟨hd, hxs⟩, fun ρ H hr hro => ?_⟩
    obtain ⟨ρ1, r1, e1, l1⟩ := ho ρ H hr hro
    have hro1 := hro.append (D.blks_ro d H.length)
    obtain ⟨ρ2, r2, ro2, e2, l2⟩ := hos ρ1 _ r1 hro1
    have hlen : (H ++ d.blks H.length).length = H.length + d.nb := by simp [D.blks_length]
    rw [hlen] at r2 e2 l2 ro2
    refine ⟨ρ2, by simpa [D.blksL] using r2, by simpa [D.blksL] using ro2, fun b hb => (e2 b (by omega)).trans (e1 b hb), ?_⟩
    simp only [argVs]
    refine LRel.cons (arg_rel (hv 0 t v (by simp) (by simp)) (l1.mono (fun b y hb => ?_) (fun _ _ h => h))) l2
    by_cases hlt : b < H.length + d.nb
    · rw [e2 b hlt]; exact hb
    · have := r1.dom b (by rw [hlen]; omega)
      rw [this] at hb; simp at hb

/-- A LAW'S CALL, from what the machine says of it whatever the arguments are -/
theorem calls_open {T : FuncId → Tab} {f : FuncId} {ts : List TypeId} (hf : ts.all (fineT P 12) = true) (h : ∀ xs, DOks P ts xs → saysTrue (acall P T f (argVs P ts xs 0) (D.blksL xs 0)) = true)
    {base : Nat} {args : Array Value} {ds : List (DataW H)} {ps : List MemPlace} (hA : DataW.TrodAll enc P w 0 (fun _ => true) true ts args.toList ds ps)
    (hval : ∀ (j : Nat) t v, ts[j]? = some t → args[j]? = some v → Value.okWide P w .any base t v) :
    Calls P f args w fun e w' => e = .returned (.bool true) ∧ Kept w w' := by
  obtain ⟨xs, hxs, hos⟩ := open_args (base := base) ts args.toList ds ps hf hA (fun j t v ht hj => hval j t v ht (by simpa using hj))
  obtain ⟨ρ', r, ro, _, l⟩ := hos (fun _ => none) [] (rel_nil w) (fun b k h => by simp at h)
  simp only [List.nil_append, List.length_nil] at r ro l
  have h := h xs hxs
  unfold saysTrue at h
  split at h
  · rename_i H' e hc
    refine (acall_sound P T f _ _ _ _ _ ρ' w args hc r l).mono fun e w' ⟨cv, he, ho⟩ => ?_
    obtain ⟨⟨ρ2, _, h2, h3⟩, _⟩ := ho
    exact ⟨by rw [he, h3.bool_inv], kept_of_step h2 ro⟩
  · simp at h

/-! ### What fits a type, by its type -/

theorem DOk.bool_inv {t : TypeId} {d : D} (h : DOk P t d) (ht : P.underlying t = some .bool) : ∃ b, d = .cell (.bool b) := by
  cases h with
  | bool b _ => exact ⟨b, rfl⟩
  | _ => simp_all

theorem DOk.int_inv {t : TypeId} {d : D} {k : IntKind} (h : DOk P t d) (ht : P.underlying t = some (.int k)) : ∃ n, d = .cell (.int k n) ∧ k.min ≤ n ∧ n ≤ k.max := by
  cases h with
  | int n h hw => rw [ht] at h; simp at h; subst h; exact ⟨n, rfl, hw⟩
  | _ => simp_all

theorem DOk.str_inv {t : TypeId} {d : D} (h : DOk P t d) (ht : P.underlying t = some .string) : ∃ s, d = .cell (.string s) ∧ s.size ≤ maxLen := by
  cases h with
  | str s _ hs => exact ⟨s, rfl, hs⟩
  | _ => simp_all

theorem DOk.slice_inv {t e : TypeId} {d : D} (h : DOk P t d) (ht : P.underlying t = some (.slice e)) : d = .nilS ∨ ∃ row ds len, d = .slice row ds len ∧ len ≤ ds.length ∧ ds.length ≤ maxLen ∧ ∀ x ∈ ds, DOk P e x := by
  cases h with
  | nilS _ => exact .inl rfl
  | slice row ds len h hl hm ho => rw [ht] at h; simp at h; subst h; exact .inr ⟨row, ds, len, rfl, hl, hm, ho⟩
  | _ => simp_all

theorem DOks.of_index : ∀ (ts : List TypeId) (ds : List D), ds.length = ts.length → (∀ (i : Nat) (t : TypeId) (d : D), ts[i]? = some t → ds[i]? = some d → DOk P t d) → DOks P ts ds
  | [], [], _, _ => trivial
  | t :: ts, d :: ds, hl, h => ⟨h 0 t d (by simp) (by simp), DOks.of_index ts ds (by simpa using hl) (fun i t d ht hd => h (i + 1) t d (by simpa using ht) (by simpa using hd))⟩
  | [], _ :: _, hl, _ => by simp at hl
  | _ :: _, [], hl, _ => by simp at hl

theorem DOk.struct_inv {t : TypeId} {d : D} {fs : Array Field} (h : DOk P t d) (ht : P.underlying t = some (.struct fs)) : ∃ ds, d = .agg ds ∧ DOks P (fs.toList.map (·.type)) ds := by
  cases h with
  | struct ds h hl ho =>
    rw [ht] at h; simp at h; subst h
    refine ⟨ds, rfl, .of_index _ _ (by simpa using hl) (fun i t d hi hd => ?_)⟩
    simp only [List.getElem?_map, Option.map_eq_some_iff] at hi
    obtain ⟨f, hf, rfl⟩ := hi
    exact ho i f d (by simpa using hf) hd
  | _ => simp_all

theorem DOk.array_inv {t n e : TypeId} {d : D} (h : DOk P t d) (ht : P.underlying t = some (.array n e)) : ∃ ds, d = .agg ds ∧ ds.length = n ∧ ∀ x ∈ ds, DOk P e x := by
  cases h with
  | array ds h hl ho => rw [ht] at h; simp at h; obtain ⟨rfl, rfl⟩ := h; exact ⟨ds, rfl, hl, ho⟩
  | _ => simp_all

end
end Go.Am
