/- What comes in, as values of their own: nothing in it is written. -/
import Derived.Test.YtfinilnkempofaaAm16
import Derived.Deep.Slices
set_option linter.all false
set_option linter.unusedVariables false
set_option linter.unusedSimpArgs false
set_option linter.unnecessarySimpa false
namespace Go.Am
open Go.ChangeShapes Go.WideShapes Go.RowKit Go.Deep

/-- cells that fit a type -/
inductive TOk (P : Program) : TypeId → List Value → Prop
  | bool {t : TypeId} (b : Bool) (ht : P.underlying t = some .bool) : TOk P t [.bool b]
  | int {t : TypeId} {k : IntKind} (n : Int) (ht : P.underlying t = some (.int k)) (hw : k.min ≤ n ∧ n ≤ k.max) : TOk P t [.int k n]
  | str {t : TypeId} (s : ByteArray) (ht : P.underlying t = some .string) (hs : s.size ≤ maxLen) : TOk P t [.string s]
  | slice {t e : TypeId} (rows : List (List Value)) (ht : P.underlying t = some (.slice e)) (hm : rows.length ≤ maxLen) (h : ∀ r ∈ rows, TOk P e r) : TOk P t [tSl rows.length rows.flatten]
  | struct {t : TypeId} {fs : Array Field} (ps : List (List Value)) (ht : P.underlying t = some (.struct fs)) (hl : ps.length = fs.size) (h : ∀ (i : Nat) (f : Field) (p : List Value), fs[i]? = some f → ps[i]? = some p → TOk P f.type p) : TOk P t ps.flatten
  | array {t n e : Nat} (ps : List (List Value)) (ht : P.underlying t = some (.array n e)) (hl : ps.length = n) (h : ∀ p ∈ ps, TOk P e p) : TOk P t ps.flatten

/-- do a struct's fields lie side by side? -/
def contig (P : Program) : List Field → Nat → Option Nat
  | [], n => some n
  | f :: fs, n => if f.offset = n then contig P fs (n + P.cellsOf f.type) else none

/-- is a type one that is opened here? -/
def fineT (P : Program) : Nat → TypeId → Bool
  | 0, _ => false
  | n + 1, t => match P.underlying t with
    | some .bool | some (.int _) | some .string => true
    | some (.slice e) => decide (0 < P.cellsOf e) && fineT P n e
    | some (.struct fs) => contig P fs.toList 0 == some (P.cellsOf t) && fs.toList.all fun f => fineT P n f.type
    | some (.array k e) => decide (P.cellsOf t = k * P.cellsOf e) && fineT P n e
    | _ => false

section
variable {P : Program} {w : World}

/-- cells that the model has stand as the machine's -/
def Opens (P : Program) (w : World) (t : TypeId) (cs : List Value) : Prop := ∃ l, TOk P t l ∧ LRel P (rho0 w) w.shape? l cs

theorem open_list : ∀ (items : List (TypeId × List Value)), (∀ x ∈ items, Opens P w x.1 x.2) →
    ∃ ps : List (List Value), ps.length = items.length ∧ (∀ (i : Nat) (x : TypeId × List Value) (p : List Value), items[i]? = some x → ps[i]? = some p → TOk P x.1 p) ∧
      LRel P (rho0 w) w.shape? ps.flatten (items.flatMap (·.2))
  | [], _ => ⟨[], rfl, fun i x d h => by simp at h, by simpa using LRel.nil⟩
  | x :: items, h => by
    obtain ⟨p, hp, h1⟩ := h x (by simp)
    obtain ⟨ps, hl, hok, h2⟩ := open_list items (fun y hy => h y (by simp [hy]))
    refine ⟨p :: ps, by simp [hl], fun i y e hi he => ?_, ?_⟩
    · cases i with
      | zero => simp at hi he; subst hi; subst he; exact hp
      | succ i => simp at hi he; exact hok i y e hi he
    · simp only [List.flatten_cons, List.flatMap_cons]
      exact h1.append h2

theorem contig_cells : ∀ (fs : List Field) (n m : Nat) (cs : List Value), contig P fs n = some m → cs.length = m → (fs.map fun f => (f.type, (cs.drop f.offset).take (P.cellsOf f.type))).flatMap (·.2) = cs.drop n
  | [], n, m, cs, h, hl => by simp [contig] at h; subst h; simp [← hl]
  | f :: fs, n, m, cs, h, hl => by
    simp only [contig] at h
    split at h
    · rename_i ho
      simp only [List.map_cons, List.flatMap_cons]
      rw [contig_cells fs _ m cs h hl, ho, ← List.drop_drop]
      exact List.take_append_drop _ _
    · simp at h

theorem array_cells (c : Nat) (e : TypeId) : ∀ (n : Nat) (cs : List Value), cs.length = n * c → ((List.range n).map fun i => (e, (cs.drop (i * c)).take c)).flatMap (·.2) = cs
  | 0, cs, h => by simp at h; simp [h]
  | n + 1, cs, h => by
    have h1 : (cs.drop c).length = n * c := by simp [h, Nat.succ_mul]
    have := array_cells c e n (cs.drop c) h1
    rw [List.range_succ_eq_map]
    simp only [List.map_cons, List.flatMap_cons, List.map_map, Nat.zero_mul, List.drop_zero]
    have e1 : (List.range n).map ((fun i => (e, (cs.drop (i * c)).take c)) ∘ Nat.succ) = (List.range n).map fun i => (e, ((cs.drop c).drop (i * c)).take c) := by
      refine List.map_congr_left fun i _ => ?_
      simp only [Function.comp, List.drop_drop]
      rw [Nat.succ_mul, Nat.add_comm]
    rw [e1, this]
    exact List.take_append_drop _ _

variable {H : Type} {enc : TypeId × Value → H}

theorem opens : ∀ (n : Nat) (fuel : Nat) (t : TypeId) (cs : List Value) (x : DataW H × List MemPlace), fineT P n t = true → DataW.trod enc P w 0 (fun _ => true) true fuel t cs = some x → Opens P w t cs
  | 0, _, _, _, _, h, _ => by simp [fineT] at h
  | n + 1, fuel, t, cs, x, hf, h => by
    simp only [fineT] at hf
    split at hf
    · rename_i ht
      obtain ⟨b, rfl, _⟩ := DataW.trod_bool ht h
      exact ⟨_, .bool b ht, .refl_plain rfl⟩
    · rename_i k ht
      obtain ⟨m, rfl, _, hw⟩ := DataW.trod_int ht h
      simp only [Lit.wf, Bool.and_eq_true, decide_eq_true_eq] at hw
      exact ⟨_, .int m ht hw, .refl_plain rfl⟩
    · rename_i ht
      obtain ⟨s, rfl, _, hs⟩ := DataW.trod_string ht h
      exact ⟨_, .str s ht hs, .refl_plain rfl⟩
    · rename_i e ht
      simp only [Bool.and_eq_true, decide_eq_true_eq] at hf
      rcases open_slice ht h with ⟨rfl, _⟩ | ⟨a, len, cap, m, k, Dd, Pl, rfl, _, hl, hm, hmm, _, hx⟩
      · exact ⟨_, .slice [] ht (by simp) (by simp), .cons (.tree0 (fun _ => rfl)) .nil⟩
      · simp only [if_true] at hmm
        subst hmm
        obtain ⟨cf, hcf⟩ := choose_lt (α := List Value) hx
        have hopen : ∀ y ∈ (List.range len).map fun i => (e, cf i), Opens P w y.1 y.2 := by
          intro y hy
          obtain ⟨i, hi, rfl⟩ := List.mem_map.1 hy
          exact opens n k e (cf i) _ hf.2 (hcf i (by have := List.mem_range.1 hi; omega)).2
        obtain ⟨ps, hdl, hdok, hL⟩ := open_list _ hopen
        simp only [List.length_map, List.length_range] at hdl
        subst hdl
        have hok : ∀ r ∈ ps, TOk P e r := by
          intro r hr
          obtain ⟨i, hi⟩ := List.getElem?_of_mem hr
          exact hdok i (e, cf i) r (by simp [lt_of_get hi]) hi
        by_cases h0 : ps.length = 0
        · have hps0 : ps = [] := List.eq_nil_of_length_eq_zero h0
          subst hps0
          exact ⟨_, .slice [] ht (by simp) (by simp), .cons (.tree0 (fun h => by simp at h)) .nil⟩
        · have hc0 : 0 < ps.length := Nat.pos_of_ne_zero h0
          -- the row's block
          obtain ⟨_, hlen0, hcell0⟩ := World.cells?_some (hcf 0 (by omega)).1
          have hsp : a.spot = none ∧ ∃ carr row fz, w.heap[a.block]? = some (.cells carr row fz) := by
            have := hcell0 0 hf.1
            have hadd : (a.add (0 * P.cellsOf e)).add 0 = a := by simp [Addr.add]
            rw [hadd] at this
            obtain ⟨v, hv⟩ : ∃ v, (cf 0)[0]? = some v := ⟨_, List.getElem?_eq_getElem (by rw [hlen0]; exact hf.1)⟩
            rw [hv] at this
            unfold World.cell? at this
            split at this
            · rename_i c row fz hb
              split at this
              · simp at this
              · rename_i hn
                exact ⟨by cases hs : a.spot <;> simp_all, c, row, fz, hb⟩
            · simp at this
          obtain ⟨hsp, carr, row, fz, hblk⟩ := hsp
          have hcells : ∀ i, i < ps.length → ∀ j, j < P.cellsOf e → carr.toList[a.off + i * P.cellsOf e + j]? = (cf i)[j]? := by
            intro i hi j hj
            obtain ⟨_, hlen, hcell⟩ := World.cells?_some (hcf i (by omega)).1
            rw [← hcell j hj, add_add]
            unfold World.cell? Addr.add
            by_cases hz : i * P.cellsOf e + j = 0
            · rw [if_pos hz, hblk]
              have : a.off + i * P.cellsOf e + j = a.off := by omega
              simp [hsp, this]
            · rw [if_neg hz]
              simp [hblk, Nat.add_assoc]
          have hflat : ((List.range ps.length).map fun i => (e, cf i)).flatMap (·.2) = (carr.toList.drop a.off).take (ps.length * P.cellsOf e) := by
            have key : ∀ m, m ≤ ps.length → ((List.range m).map fun i => (e, cf i)).flatMap (·.2) = (carr.toList.drop a.off).take (m * P.cellsOf e) := by
              intro m
              induction m with
              | zero => intro _; simp
              | succ m ih =>
                intro hm
                rw [List.range_succ, List.map_append, List.flatMap_append, ih (by omega)]
                simp only [List.map_cons, List.map_nil, List.flatMap_cons, List.flatMap_nil, List.append_nil]
                rw [Nat.succ_mul, List.take_add]
                congr 1
                obtain ⟨_, hlen, _⟩ := World.cells?_some (hcf m (by omega)).1
                apply List.ext_getElem?
                intro j
                by_cases hj : j < P.cellsOf e
                · rw [List.getElem?_take_of_lt hj, List.drop_drop, List.getElem?_drop, ← hcells m (by omega) j hj]
                · rw [List.getElem?_eq_none (by omega), List.getElem?_eq_none (by simp; omega)]
            exact key _ (Nat.le_refl _)
          have hflen : (((List.range ps.length).map fun i => (e, cf i)).flatMap (·.2)).length = ps.length * P.cellsOf e := by
            have key : ∀ m, m ≤ ps.length → (((List.range m).map fun i => (e, cf i)).flatMap (·.2)).length = m * P.cellsOf e := by
              intro m
              induction m with
              | zero => intro _; simp
              | succ m ih =>
                intro hm
                rw [List.range_succ, List.map_append, List.flatMap_append, List.length_append, ih (by omega)]
                obtain ⟨_, hlen, _⟩ := World.cells?_some (hcf m (by omega)).1
                simp [hlen, Nat.succ_mul]
            exact key _ (Nat.le_refl _)
          refine ⟨_, .slice ps ht (by omega) hok, LRel.cons ?_ .nil⟩
          have ha : a = ⟨a.block, a.off, none⟩ := by cases a; simp_all
          rw [ha]
          have hz : (rho0 w).fz a.block = some carr := by simp [rho0, hblk]
          exact VRel.tree_list hz (by rw [hflen, ← hflat]) (by omega) hL
    · rename_i fs ht
      simp only [Bool.and_eq_true, beq_iff_eq, List.all_eq_true] at hf
      obtain ⟨xs, m, rfl, _, hlen, hxl, hx⟩ := DataW.trod_struct ht h
      have hopen : ∀ y ∈ fs.toList.map fun f => (f.type, (cs.drop f.offset).take (P.cellsOf f.type)), Opens P w y.1 y.2 := by
        intro y hy
        obtain ⟨f, hfm, rfl⟩ := List.mem_map.1 hy
        obtain ⟨i, hi⟩ := List.getElem?_of_mem hfm
        have := hx i f (by simpa using hi)
        have hil : i < xs.length := by rw [hxl]; have := lt_of_get hi; simpa using this
        rw [List.getElem?_eq_getElem hil] at this
        exact opens n m _ _ _ (hf.2 f hfm) this
      obtain ⟨ps, hdl, hdok, hds⟩ := open_list _ hopen
      rw [contig_cells fs.toList 0 _ cs hf.1 hlen, List.drop_zero] at hds
      exact ⟨_, .struct ps ht (by simpa using hdl) (fun i f d hi hd => hdok i (f.type, (cs.drop f.offset).take (P.cellsOf f.type)) d (by simp [hi]) hd), hds⟩
    · rename_i k e ht
      simp only [Bool.and_eq_true, decide_eq_true_eq] at hf
      obtain ⟨xs, m, rfl, _, hlen, hxl, hx⟩ := DataW.trod_array ht h
      have hopen : ∀ y ∈ (List.range k).map fun i => (e, (cs.drop (i * P.cellsOf e)).take (P.cellsOf e)), Opens P w y.1 y.2 := by
        intro y hy
        obtain ⟨i, hi, rfl⟩ := List.mem_map.1 hy
        have hi := List.mem_range.1 hi
        have := hx i hi
        rw [List.getElem?_eq_getElem (by omega)] at this
        exact opens n m _ _ _ hf.2 this
      obtain ⟨ps, hdl, hdok, hds⟩ := open_list _ hopen
      rw [array_cells (P.cellsOf e) e k cs (by rw [hlen, hf.1])] at hds
      refine ⟨_, .array ps ht (by simpa using hdl) (fun d hd => ?_), hds⟩
      obtain ⟨i, hi⟩ := List.getElem?_of_mem hd
      have hlt := lt_of_get hi
      simp only [List.length_map, List.length_range] at hdl
      exact hdok i (e, _) d (by simp [hdl ▸ hlt]; rfl) hi
    · simp at hf

/-! ### A law's arguments -/

/-- an argument's value -/
def argV (P : Program) (t : TypeId) (l : List Value) : Value :=
  match P.underlying t with
  | some (.struct _) | some (.array _ _) => .agg l.toArray
  | _ => l.headD unk

/-- the arguments' values -/
def argVs (P : Program) : List TypeId → List (List Value) → List Value
  | t :: ts, d :: ds => argV P t d :: argVs P ts ds
  | _, _ => []

/-- all fit their types -/
def TOks (P : Program) : List TypeId → List (List Value) → Prop
  | [], [] => True
  | t :: ts, d :: ds => TOk P t d ∧ TOks P ts ds
  | _, _ => False

theorem arg_rel {ρ : Ren} {sh : Sh} {t : TypeId} {l : List Value} {v : Value} {base : Nat} (hv : Value.okWide P w .any base t v) (hl : LRel P ρ sh l v.cells.toList) : VRel P ρ sh (argV P t l) v := by
  have agg : ∀ cs : Array Value, v = .agg cs → VRel P ρ sh (.agg l.toArray) v := by
    intro cs he; subst he
    have : LRel P ρ sh l.toArray.toList cs.toList := by simpa [Value.cells] using hl
    exact .agg this.arr.1 this.arr.2
  unfold argV
  unfold Value.okWide at hv
  split
  · rename_i h1; rw [h1] at hv; obtain ⟨cs, he, _⟩ := hv; exact agg cs he
  · rename_i h1; rw [h1] at hv; obtain ⟨cs, he, _⟩ := hv; exact agg cs he
  · have one : v.cells.toList = [v] ∨ ∃ cs, v = .agg cs := by cases v <;> simp [Value.cells]
    rcases one with h1 | ⟨cs, rfl⟩
    · rw [h1] at hl
      match l, hl with
      | [x], hl => exact hl.head.1
      | [], hl => have := hl.1; simp at this
      | x :: y :: r, hl => have := hl.1; simp at this
    · rename_i h2 h3
      exfalso
      split at hv
      · exact h2 _ ‹_›
      · exact h3 _ _ ‹_›
      · unfold Cell.okWide at hv
        split at hv <;> simp_all [Cell.ok]

/-- A LAW'S ARGUMENTS, OPENED -/
theorem open_args {base : Nat} : ∀ (ts : List TypeId) (vs : List Value) (ds : List (DataW H)) (ps : List MemPlace), ts.all (fineT P 12) = true → DataW.TrodAll enc P w 0 (fun _ => true) true ts vs ds ps →
    (∀ (j : Nat) t v, ts[j]? = some t → vs[j]? = some v → Value.okWide P w .any base t v) →
    ∃ xs, TOks P ts xs ∧ LRel P (rho0 w) w.shape? (argVs P ts xs) vs
  | [], vs, ds, ps, _, h, _ => by
    obtain ⟨rfl, _, _⟩ := trodAll_nil h
    exact ⟨[], trivial, LRel.nil⟩
  | t :: ts, vs, ds, ps, hf, h, hv => by
    obtain ⟨v, vs1, d1, ds1, a, b, rfl, rfl, rfl, ⟨fuel, h1⟩, h2⟩ := trodAll_cons h
    simp only [List.all_cons, Bool.and_eq_true] at hf
    obtain ⟨d, hd, ho⟩ := opens 12 fuel t _ _ hf.1 h1
    obtain ⟨xs, hxs, hos⟩ := open_args ts vs1 ds1 b hf.2 h2 (fun j t v ht hj => hv (j + 1) t v (by simpa using ht) (by simpa using hj))
    exact ⟨d :: xs, ⟨hd, hxs⟩, LRel.cons (arg_rel (hv 0 t v (by simp) (by simp)) ho) hos⟩

/-- A LAW'S CALL, from what the machine says of it whatever the arguments are -/
theorem calls_open {T : FuncId → Tab} (hT : ∀ f, (T f).lives = true → Lives P f) {f : FuncId} {ts : List TypeId} (hf : ts.all (fineT P 12) = true) (h : ∀ xs, TOks P ts xs → saysTrue (acall P T f (argVs P ts xs) []) = true)
    {base : Nat} {args : Array Value} {ds : List (DataW H)} {ps : List MemPlace} (hA : DataW.TrodAll enc P w 0 (fun _ => true) true ts args.toList ds ps)
    (hval : ∀ (j : Nat) t v, ts[j]? = some t → args[j]? = some v → Value.okWide P w .any base t v) :
    Calls P f args w fun e w' => e = .returned (.bool true) ∧ Kept w w' := by
  obtain ⟨xs, hxs, l⟩ := open_args (base := base) ts args.toList ds ps hf hA (fun j t v ht hj => hval j t v ht (by simpa using hj))
  have h := h xs hxs
  unfold saysTrue at h
  split at h
  · rename_i H' e hc
    refine (acall_sound P T hT f _ _ _ _ _ (rho0 w) w args hc (rel_nil w) l).mono fun e w' ⟨cv, he, ho⟩ => ?_
    obtain ⟨⟨ρ2, _, h2, h3⟩, _⟩ := ho
    exact ⟨by rw [he, h3.bool_inv], kept_of_step h2 (fun b k hb => by simp at hb)⟩
  · simp at h

/-! ### What fits a type, by its type -/

theorem TOk.bool_inv {t : TypeId} {l : List Value} (h : TOk P t l) (ht : P.underlying t = some .bool) : ∃ b, l = [.bool b] := by
  cases h with
  | bool b _ => exact ⟨b, rfl⟩
  | _ => simp_all

theorem TOk.int_inv {t : TypeId} {l : List Value} {k : IntKind} (h : TOk P t l) (ht : P.underlying t = some (.int k)) : ∃ n, l = [.int k n] ∧ k.min ≤ n ∧ n ≤ k.max := by
  cases h with
  | int n h hw => rw [ht] at h; simp at h; subst h; exact ⟨n, rfl, hw⟩
  | _ => simp_all

theorem TOk.str_inv {t : TypeId} {l : List Value} (h : TOk P t l) (ht : P.underlying t = some .string) : ∃ s, l = [.string s] ∧ s.size ≤ maxLen := by
  cases h with
  | str s _ hs => exact ⟨s, rfl, hs⟩
  | _ => simp_all

theorem TOk.slice_inv {t e : TypeId} {l : List Value} (h : TOk P t l) (ht : P.underlying t = some (.slice e)) : ∃ rows : List (List Value), l = [tSl rows.length rows.flatten] ∧ rows.length ≤ maxLen ∧ ∀ r ∈ rows, TOk P e r := by
  cases h with
  | slice rows h hm ho => rw [ht] at h; simp at h; subst h; exact ⟨rows, rfl, hm, ho⟩
  | _ => simp_all

theorem TOks.of_index : ∀ (ts : List TypeId) (ds : List (List Value)), ds.length = ts.length → (∀ (i : Nat) (t : TypeId) (d : List Value), ts[i]? = some t → ds[i]? = some d → TOk P t d) → TOks P ts ds
  | [], [], _, _ => trivial
  | t :: ts, d :: ds, hl, h => ⟨h 0 t d (by simp) (by simp), TOks.of_index ts ds (by simpa using hl) (fun i t d ht hd => h (i + 1) t d (by simpa using ht) (by simpa using hd))⟩
  | [], _ :: _, hl, _ => by simp at hl
  | _ :: _, [], hl, _ => by simp at hl

theorem TOk.struct_inv {t : TypeId} {l : List Value} {fs : Array Field} (h : TOk P t l) (ht : P.underlying t = some (.struct fs)) : ∃ ps : List (List Value), l = ps.flatten ∧ TOks P (fs.toList.map (·.type)) ps := by
  cases h with
  | struct ps h hl ho =>
    rw [ht] at h; simp at h; subst h
    refine ⟨ps, rfl, .of_index _ _ (by simpa using hl) (fun i t d hi hd => ?_)⟩
    simp only [List.getElem?_map, Option.map_eq_some_iff] at hi
    obtain ⟨f, hf, rfl⟩ := hi
    exact ho i f d (by simpa using hf) hd
  | _ => simp_all

theorem TOk.array_inv {t n e : TypeId} {l : List Value} (h : TOk P t l) (ht : P.underlying t = some (.array n e)) : ∃ ps : List (List Value), l = ps.flatten ∧ ps.length = n ∧ ∀ x ∈ ps, TOk P e x := by
  cases h with
  | array ps h hl ho => rw [ht] at h; simp at h; obtain ⟨rfl, rfl⟩ := h; exact ⟨ps, rfl, hl, ho⟩
  | _ => simp_all

end
end Go.Am
