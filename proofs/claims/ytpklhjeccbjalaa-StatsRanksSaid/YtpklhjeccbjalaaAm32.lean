/- A part of the proof: Am32, Am33, Am34, Am35, Am36, Am37, Am38, Am39. Its conditions: none. -/
import Derived.Test.YtpklhjeccbjalaaAm23
import Derived.Sort.Grow
import Derived.Sort.Row
set_option linter.all false
set_option linter.unusedVariables false
set_option linter.unusedSimpArgs false
set_option linter.unnecessarySimpa false
section
namespace Go.Am

/-- a map's entries have these keys and values -/
structure MapIs {α : Type} (K V : α → Value) (xs : List α) (es : List MapEntry) (c : Nat) : Prop where
  kv : es.map (fun e => (e.key, e.val)) = xs.map fun x => (K x, V x)
  old : ∀ e ∈ es, e.born < c
  nd : (es.map (·.born)).Nodup

section
variable {P : Program} {α : Type} {K V : α → Value}

theorem MapIs.nil (c : Nat) : MapIs K V ([] : List α) [] c := ⟨rfl, fun _ h => by simp at h, by simp⟩
theorem MapIs.len {xs : List α} {es : List MapEntry} {c : Nat} (h : MapIs K V xs es c) : es.length = xs.length := by simpa using congrArg List.length h.kv
theorem MapIs.get {xs : List α} {es : List MapEntry} {c : Nat} (h : MapIs K V xs es c) {j : Nat} {e : MapEntry} (he : es[j]? = some e) : ∃ x, xs[j]? = some x ∧ e.key = K x ∧ e.val = V x := by
  have := congrArg (fun l => l[j]?) h.kv
  simp only [List.getElem?_map, he, Option.map_some] at this
  cases hx : xs[j]? with
  | none => simp [hx] at this
  | some x => rw [hx] at this; simp at this; exact ⟨x, rfl, this.1, this.2⟩
theorem MapIs.get' {xs : List α} {es : List MapEntry} {c : Nat} (h : MapIs K V xs es c) {j : Nat} {x : α} (hx : xs[j]? = some x) : ∃ e, es[j]? = some e ∧ e.key = K x ∧ e.val = V x := by
  have := congrArg (fun l => l[j]?) h.kv
  simp only [List.getElem?_map, hx, Option.map_some] at this
  cases he : es[j]? with
  | none => simp [he] at this
  | some e => rw [he] at this; simp at this; exact ⟨e, rfl, this.1, this.2⟩
theorem MapIs.keys {kt : TypeId} {kc : α → List Value} {xs : List α} {es : List MapEntry} {c : Nat} (h : MapIs K V xs es c) (hK : ∀ x ∈ xs, K x = argV P kt (kc x)) (hT : ∀ x ∈ xs, TOk P kt (kc x)) : Keys P kt es (xs.map kc) := by
  refine ⟨?_, fun k hk => ?_⟩
  · have := congrArg (List.map Prod.fst) h.kv
    simp only [List.map_map] at this
    rw [show (List.map (·.key) es) = List.map (Prod.fst ∘ fun e : MapEntry => (e.key, e.val)) es from rfl, this, List.map_map]
    exact List.map_congr_left fun x hx => hK x hx
  · obtain ⟨x, hx, rfl⟩ := List.mem_map.1 hk
    exact hT x hx
theorem MapIs.snoc {xs : List α} {es : List MapEntry} {c : Nat} (h : MapIs K V xs es c) (x : α) : MapIs K V (xs ++ [x]) (es ++ [{ key := K x, val := V x, born := c }]) (c + 1) := by
  refine ⟨by simp [h.kv], fun e he => ?_, ?_⟩
  · rw [List.mem_append] at he
    rcases he with he | he
    · exact Nat.lt_succ_of_lt (h.old e he)
    · simp at he; subst he; simp
  · rw [List.map_append, List.nodup_append]
    refine ⟨h.nd, by simp, fun a ha b hb => ?_⟩
    obtain ⟨e, he, rfl⟩ := List.mem_map.1 ha
    simp at hb
    have := h.old e he
    omega
theorem MapIs.set {xs : List α} {es : List MapEntry} {c i : Nat} (h : MapIs K V xs es c) {e : MapEntry} (he : es[i]? = some e) (x : α) : MapIs K V (xs.set i x) (es.set i { e with key := K x, val := V x }) c := by
  refine ⟨by rw [List.map_set, List.map_set, h.kv], fun e' he' => ?_, ?_⟩
  · rcases List.mem_or_eq_of_mem_set he' with h1 | rfl
    · exact h.old e' h1
    · exact h.old e (List.mem_of_getElem? he)
  · have : (es.set i { e with key := K x, val := V x }).map (·.born) = es.map (·.born) := by
      rw [List.map_set]
      apply List.ext_getElem?
      intro j
      rw [List.getElem?_set]
      split
      · next hij =>
        subst hij
        obtain ⟨hlt, _⟩ := List.getElem?_eq_some_iff.1 he
        simp [hlt, he, (List.getElem?_eq_some_iff.1 he).2]
      · rfl
    rw [this]; exact h.nd
theorem map_erase {β γ : Type} (f : β → γ) : ∀ (l : List β) (i : Nat), (l.eraseIdx i).map f = (l.map f).eraseIdx i
  | [], _ => rfl
  | _ :: _, 0 => rfl
  | a :: l, i + 1 => by simp [List.eraseIdx_cons_succ, map_erase f l i]
theorem MapIs.erase {xs : List α} {es : List MapEntry} {c : Nat} (h : MapIs K V xs es c) (i : Nat) : MapIs K V (xs.eraseIdx i) (es.eraseIdx i) c := by
  refine ⟨?_, fun e he => h.old e (List.mem_of_mem_eraseIdx he), ?_⟩
  · rw [map_erase, map_erase, h.kv]
  · rw [map_erase]
    exact h.nd.sublist (List.eraseIdx_sublist ..)

theorem findIdx_some {xs : List α} {p : α → Bool} {i : Nat} (h : xs.findIdx? p = some i) : ∃ x, xs[i]? = some x ∧ p x = true ∧ xs.find? p = some x := by
  induction xs generalizing i with
  | nil => simp at h
  | cons y ys ih =>
    rw [List.findIdx?_cons] at h
    by_cases hy : p y = true
    · simp [hy] at h; subst h
      exact ⟨y, rfl, hy, by simp [List.find?_cons, hy]⟩
    · simp only [hy, Bool.false_eq_true, if_false] at h
      cases hq : ys.findIdx? p with
      | none => simp [hq] at h
      | some j =>
        simp [hq] at h; subst h
        obtain ⟨x, h1, h2, h3⟩ := ih hq
        exact ⟨x, by simpa using h1, h2, by simp [List.find?_cons, hy, h3]⟩
theorem findIdx_none {xs : List α} {p : α → Bool} (h : xs.findIdx? p = none) : xs.find? p = none := by
  rw [List.findIdx?_eq_none_iff] at h
  rw [List.find?_eq_none]
  intro x hx
  simp [h x hx]

section
variable {t kt et : TypeId} {z : Value} {st : AS} {r c : Nat} {xs : List α} {es : List MapEntry} {kc : α → List Value} {q : List Value} {p : α → Bool}

theorem idx_of (hp : ∀ x ∈ xs, p x = true ↔ kc x = q) [DecidablePred fun k : List Value => k = q] : ((xs.map kc).findIdx? fun k => decide (k = q)) = xs.findIdx? p := by
  induction xs with
  | nil => rfl
  | cons x xs ih =>
    rw [List.map_cons, List.findIdx?_cons, List.findIdx?_cons, ih (fun y hy => hp y (by simp [hy]))]
    have h0 := hp x (by simp)
    by_cases hx : kc x = q
    · simp [hx, h0.2 hx]
    · have : p x = false := by
        cases hpx : p x with
        | true => exact absurd (h0.1 hpx) hx
        | false => rfl
      simp [hx, this]

/-- what a map has for a key -/
theorem look_is (ht : P.underlying t = some (.map kt et)) (hz : zeroP P et = some z) (hpz : Am.plain z = true) (hf : flatT P 12 kt = true) (hr : st.H[r]? = some (.map es c)) (h : MapIs K V xs es c)
    (hK : ∀ x ∈ xs, K x = argV P kt (kc x)) (hT : ∀ x ∈ xs, TOk P kt (kc x)) (hq : TOk P kt q) (hp : ∀ x ∈ xs, p x = true ↔ kc x = q) (ok : Bool) :
    aLookup P t (.map (some r)) (argV P kt q) ok st = some (match xs.find? p with
      | some x => if ok then .tuple #[V x, .bool true] else V x
      | none => if ok then .tuple #[z, .bool false] else z) := by
  classical
  rw [lookup_flat ht hz hpz hf hr (h.keys hK hT) hq ok, idx_of hp]
  cases hi : xs.findIdx? p with
  | none => rw [findIdx_none hi]
  | some i =>
    obtain ⟨x, h1, _, h3⟩ := findIdx_some hi
    obtain ⟨e, h4, _, h6⟩ := h.get' h1
    simp only [h3, h4, Option.map_some, h6]

/-- a key that is there already -/
theorem sameBits_flat (hf : flatT P 12 kt = true) (hq : TOk P kt q) : Instr.sameBits 10000 (argV P kt q) (argV P kt q) = true → True := fun _ => trivial

/-- a new key -/
theorem upd_new (ht : P.underlying t = some (.map kt et)) (hf : flatT P 12 kt = true) (hr : st.H[r]? = some (.map es c)) (h : MapIs K V xs es c)
    (hK : ∀ x ∈ xs, K x = argV P kt (kc x)) (hT : ∀ x ∈ xs, TOk P kt (kc x)) (hq : TOk P kt q) {x : α} (hx : K x = argV P kt q) (hn : ∀ y ∈ xs, kc y ≠ q) :
    aMapUpdate P t (.map (some r)) (argV P kt q) (V x) st = some ⟨st.H.set r (.map (es ++ [{ key := K x, val := V x, born := c }]) (c + 1)), escOf st.esc r (vrefs (V x))⟩ := by
  rw [update_new ht hf hr (h.keys hK hT) hq (by simpa using hn) (V x), hx]

/-- a key that is there -/
theorem upd_old (ht : P.underlying t = some (.map kt et)) (hf : flatT P 12 kt = true) (hr : st.H[r]? = some (.map es c)) (h : MapIs K V xs es c)
    (hK : ∀ x ∈ xs, K x = argV P kt (kc x)) (hT : ∀ x ∈ xs, TOk P kt (kc x)) (hq : TOk P kt q) (hp : ∀ x ∈ xs, p x = true ↔ kc x = q) {i : Nat} (hi : xs.findIdx? p = some i) {x : α} (hx : K x = argV P kt q) (hs : Instr.sameBits 10000 (K x) (K x) = true) :
    ∃ e, es[i]? = some e ∧ aMapUpdate P t (.map (some r)) (argV P kt q) (V x) st = some ⟨st.H.set r (.map (es.set i { e with key := K x, val := V x }) c), escOf st.esc r (vrefs (V x))⟩ := by
  classical
  have hk := h.keys hK hT
  obtain ⟨y, h1, h2, _⟩ := findIdx_some hi
  obtain ⟨e, h4, h5, _⟩ := h.get' h1
  refine ⟨e, h4, ?_⟩
  have hm := List.mem_of_getElem? h1
  have hky : e.key = argV P kt q := by rw [h5, hK y hm, (hp y hm).1 h2]
  unfold aMapUpdate
  simp only [ht, hr]
  rw [if_pos ⟨argV_plain hf hq, by rw [check_flat false 12 10000 kt q hf (by decide) hq]; rfl, hk.plain hf⟩]
  rw [keyIx_flat hf hq es _ 0 hk, idx_of hp, hi]
  simp only [Option.map_some, Nat.add_zero, h4, hky]
  rw [if_pos (by rw [← hx]; exact hs), hx]

/-- what is struck -/
theorem del_is {ats : Array TypeId} (ha : ats[0]? = some t) (ht : P.underlying t = some (.map kt et)) (hf : flatT P 12 kt = true) (hr : st.H[r]? = some (.map es c)) (h : MapIs K V xs es c)
    (hK : ∀ x ∈ xs, K x = argV P kt (kc x)) (hT : ∀ x ∈ xs, TOk P kt (kc x)) (hq : TOk P kt q) (hp : ∀ x ∈ xs, p x = true ↔ kc x = q) :
    aDelete P ats (.map (some r)) (argV P kt q) st = some (match xs.findIdx? p with | some i => ⟨st.H.set r (.map (es.eraseIdx i) c), st.esc⟩ | none => st) := by
  classical
  have hk := h.keys hK hT
  unfold aDelete
  simp only [ha, Option.bind_some, ht, hr]
  rw [if_pos ⟨argV_plain hf hq, by rw [check_flat es.isEmpty 12 10000 kt q hf (by decide) hq]; rfl, hk.plain hf⟩]
  rw [keyIx_flat hf hq es _ 0 hk, idx_of hp]
  cases xs.findIdx? p <;> rfl
end

/-- what a walk may hand out next -/
theorem next_is {st : AS} {b r c : Nat} {seen : List Nat} {xs : List α} {es : List MapEntry} (hb : st.H[b]? = some (.iter (some r) c seen c)) (hr : st.H[r]? = some (.map es c)) (h : MapIs K V xs es c) :
    ((∀ e ∈ es, e.born ∈ seen) ∧ aNext (.pointer (some ⟨b, 0, none⟩)) st = some (1, fun _ => (.tuple #[.bool false], st))) ∨
    ∃ n g, aNext (.pointer (some ⟨b, 0, none⟩)) st = some (n, g) ∧ 0 < n ∧ ∀ i, i < n → ∃ (j : Nat) (e : MapEntry) (x : α), es[j]? = some e ∧ xs[j]? = some x ∧ e.born ∉ seen ∧ g i = (.tuple #[.bool true, K x, V x], ⟨st.H.set b (.iter (some r) c (seen ++ [e.born]) c), st.esc⟩) := by
  have hold : (es.all fun e => decide (e.born < c)) = true := by
    rw [List.all_eq_true]
    intro e he
    have := h.old e he
    simpa using this
  unfold aNext
  simp only [hb, hr]
  rw [if_pos ⟨hold, Nat.le_refl _⟩]
  cases hl : es.filter fun e => !seen.contains e.born with
  | nil =>
    refine .inl ⟨fun e he => ?_, rfl⟩
    rw [List.filter_eq_nil_iff] at hl
    have := hl _ he
    simpa using this
  | cons e0 l =>
    refine .inr ⟨_, _, rfl, by omega, fun i hi => ?_⟩
    have hi' : i < (e0 :: l).length := by simpa using hi
    have hm : (e0 :: l)[i] ∈ e0 :: l := List.getElem_mem hi'
    have hg : (e0 :: l).getD i e0 = (e0 :: l)[i] := by simp only [List.getD, List.getElem?_eq_getElem hi', Option.getD_some]
    generalize (e0 :: l)[i] = ei at hm hg
    rw [← hl] at hm
    obtain ⟨hm1, hm2⟩ := List.mem_filter.1 hm
    obtain ⟨j, hj⟩ := List.getElem?_of_mem hm1
    obtain ⟨x, h1, h2, h3⟩ := h.get hj
    refine ⟨j, ei, x, hj, h1, by simpa using hm2, ?_⟩
    simp only [hg, h2, h3]

/-- what it handed out -/
theorem entry_is {e : MapEntry} {st : AS} {b r c s : Nat} {seen : List Nat} {xs : List α} {es : List MapEntry} {j : Nat} {x : α} (hb : st.H[b]? = some (.iter (some r) s (seen ++ [e.born]) c)) (hr : st.H[r]? = some (.map es c)) (h : MapIs K V xs es c) (he : es[j]? = some e) (hx : xs[j]? = some x) :
    aEntry (.pointer (some ⟨b, 0, none⟩)) st = some (.tuple #[K x, V x]) := by
  have hf : es.find? (·.born == e.born) = some e := by
    have hnd := h.nd
    clear hb hr h hx
    induction es generalizing j with
    | nil => simp at he
    | cons a as ih =>
      rw [List.find?_cons]
      rw [List.map_cons, List.nodup_cons] at hnd
      cases j with
      | zero => simp at he; subst he; simp
      | succ j =>
        have hj : as[j]? = some e := by simpa using he
        have hne : (a.born == e.born) = false := by
          rw [beq_eq_false_iff_ne]
          intro hc
          exact hnd.1 (by rw [hc]; exact List.mem_map.2 ⟨e, List.mem_of_getElem? hj, rfl⟩)
        rw [hne]; exact ih hj hnd.2
  obtain ⟨y, h1, h2, h3⟩ := h.get he
  rw [hx] at h1; cases h1
  unfold aEntry
  simp only [hb, hr, List.getLast?_append, List.getLast?_singleton, Option.some_or, if_true, hf, Option.map_some, h2, h3]

/-- how many are left -/
def leftE (es : List MapEntry) (seen : List Nat) : Nat := (es.filter fun e => !seen.contains e.born).length
theorem leftE_less {e : MapEntry} {es : List MapEntry} {seen : List Nat} (he : e ∈ es) (hs : e.born ∉ seen) : leftE es (seen ++ [e.born]) < leftE es seen :=
  filter_lt (fun x : MapEntry => !seen.contains x.born) (fun x : MapEntry => !(seen ++ [e.born]).contains x.born) (fun x hx => by
    simp only [List.contains_append, Bool.not_or, Bool.and_eq_true] at hx; exact hx.1) e (by simpa using hs) (by simp) es he
end
end Go.Am

end
section
namespace Go.Am
section
variable {P : Program} {H : List Blk} {b : Nat} {cs : List Value} {t : TypeId} {o : Bool}
theorem cellAt_eq (h : H[b]? = some (.cells cs t o)) (k : Nat) : cellAt H b k = cs[k]? := by simp [cellAt, h]
theorem cellsAt_eq (h : H[b]? = some (.cells cs t o)) (k n : Nat) : cellsAt H b k n = if k + n ≤ cs.length then some ((cs.drop k).take n) else none := by simp [cellsAt, h]
theorem storeL_eq (h : H[b]? = some (.cells cs t true)) {e : Option Nat} {k : Nat} {vs : List Value} : storeL ⟨H, e⟩ b k vs = if k + vs.length ≤ cs.length ∧ allCells vs = true then some ⟨H.set b (.cells (putCells cs k vs) t true), escOf e b (lrefs vs)⟩ else none := by simp [storeL, h]
theorem cellAt_set (h : b < H.length) (k : Nat) : cellAt (H.set b (.cells cs t o)) b k = cs[k]? := by simp [cellAt, h]
theorem cellsAt_set (h : b < H.length) (k n : Nat) : cellsAt (H.set b (.cells cs t o)) b k n = if k + n ≤ cs.length then some ((cs.drop k).take n) else none := by simp [cellsAt, h]
theorem storeL_set (h : b < H.length) {e : Option Nat} {k : Nat} {vs : List Value} : storeL ⟨H.set b (.cells cs t true), e⟩ b k vs = if k + vs.length ≤ cs.length ∧ allCells vs = true then some ⟨H.set b (.cells (putCells cs k vs) t true), escOf e b (lrefs vs)⟩ else none := by simp [storeL, h]
theorem blk_lt {x : Blk} (h : H[b]? = some x) : b < H.length := (List.getElem?_eq_some_iff.1 h).1
theorem get_left {x : Blk} (h : H[b]? = some x) (l : List Blk) : (H ++ l)[b]? = some x := by rw [List.getElem?_append_left (blk_lt h)]; exact h
theorem get_set_ne {k : Nat} {x : Blk} (h : b ≠ k) : (H.set b x)[k]? = H[k]? := by rw [List.getElem?_set]; simp [h]
theorem get_set_eq {x y : Blk} (h : H[b]? = some y) : (H.set b x)[b]? = some x := by rw [List.getElem?_set]; simp [blk_lt h]
theorem set_left (h : b < H.length) (x : Blk) (l : List Blk) : (H ++ l).set b x = H.set b x ++ l := by rw [List.set_append]; simp [h]

/-- the end of a call that answers flat values, where nothing but older blocks stands -/
theorem fin_old {vs : List Value} {H : List Blk} {n0 : Nat} (hn : H.length = n0) (hf : vs.all flatV = true) (hr : lrefs vs = []) : fin P false n0 vs ⟨H, none⟩ = some (oneOf vs, H, none) := by
  subst hn
  exact fin_lit0 hf hr
/-- and where new ones are struck -/
theorem fin_app {vs : List Value} {H l : List Blk} {n0 : Nat} (hn : H.length = n0) (hf : vs.all flatV = true) (hr : lrefs vs = []) {e : Option Nat} (he : escOk n0 e = true) : fin P false n0 vs ⟨H ++ l, e⟩ = some (oneOf vs, H, none) := by
  subst hn
  exact fin_lit hf hr he
theorem wrap_i64 {n : Int} (h : -9223372036854775808 ≤ n ∧ n ≤ 9223372036854775807) : IntKind.i64.wrap n = n := by
  simp only [IntKind.wrap, IntKind.bits, IntKind.signed]
  try simp
  omega
theorem wrap_nat {n : Nat} (h : n < 4611686018427387904) : IntKind.i64.wrap (n : Int) = (n : Int) := wrap_i64 ⟨by omega, by omega⟩
theorem wrap_add1 {n : Nat} (h : n < 4611686018427387904) : IntKind.i64.wrap ((n : Int) + 1) = ((n + 1 : Nat) : Int) := by
  rw [wrap_i64 ⟨by omega, by omega⟩]; omega

/-- a row's part, written over -/
theorem put_row {sz i : Nat} {rs : List (List Value)} {r : List Value} (h : ∀ x ∈ rs, x.length = sz) (hr : r.length = sz) (hi : i < rs.length) : putCells rs.flatten (i * sz) r = (rs.set i r).flatten := by
  induction rs generalizing i with
  | nil => simp at hi
  | cons x xs ih =>
    have hx := h x (by simp)
    cases i with
    | zero =>
      simp only [Nat.zero_mul, List.flatten_cons, List.set_cons_zero, putCells, List.take_zero, List.nil_append, Nat.zero_add]
      rw [List.drop_append, hr]
      simp [hx]
    | succ i =>
      have := ih (i := i) (fun y hy => h y (by simp [hy])) (by simpa using hi)
      simp only [List.flatten_cons, List.set_cons_succ, ← this, putCells]
      rw [show (i + 1) * sz = x.length + i * sz by rw [hx, Nat.succ_mul]; omega]
      rw [List.take_length_add_append, Nat.add_assoc, List.drop_length_add_append]
      simp
theorem part_row {sz i : Nat} {rs : List (List Value)} {r : List Value} (h : ∀ x ∈ rs, x.length = sz) (hi : rs[i]? = some r) : (rs.flatten.drop (i * sz)).take sz = r := chunk_get rs h i r hi
theorem part_fits {sz i : Nat} {rs : List (List Value)} {r : List Value} (h : ∀ x ∈ rs, x.length = sz) (hi : rs[i]? = some r) : i * sz + sz ≤ rs.flatten.length := by
  rw [chunk_len rs h]
  have := (List.getElem?_eq_some_iff.1 hi).1
  calc i * sz + sz = (i + 1) * sz := by rw [Nat.succ_mul]
    _ ≤ rs.length * sz := Nat.mul_le_mul_right _ this
end
end Go.Am
namespace Go.Am
section
theorem reach_b (H : List Blk) (n fuel r : Nat) (rs acc : List Nat) (hr : ¬ r < n) (ha : acc.contains r = false) {x : Blk} (hb : H[r]? = some x) : reach H n (fuel + 1) (r :: rs) acc = reach H n fuel (blkRefs x ++ rs) (acc ++ [r]) := by
  rw [reach]
  rw [if_neg hr, if_neg (by rw [ha]; simp), hb]
  cases x <;> rfl
theorem reach_single {H : List Blk} {n : Nat} {x : Blk} (hb : H[n]? = some x) (hx : ∀ r ∈ blkRefs x, r < n) : ∀ (fuel : Nat) (l : List Nat) (acc : List Nat), (l.length + if acc = [] then (blkRefs x).length else 0) < fuel → (∀ r ∈ l, r < n ∨ r = n) → acc = [] ∨ acc = [n] →
    reach H n fuel l acc = if n ∈ l ∨ acc = [n] then [n] else []
  | 0, l, acc, hf, _, _ => by omega
  | fuel + 1, [], acc, _, _, ha => by
    rcases ha with rfl | rfl <;> simp [reach]
  | fuel + 1, r :: rs, acc, hf, hl, ha => by
    rcases hl r (by simp) with hr | rfl
    · have ih := reach_single hb hx fuel rs acc (by simp at hf; omega) (fun x hx => hl x (by simp [hx])) ha
      rw [reach, if_pos hr, ih]
      have : ¬ n = r := by omega
      simp [this]
    · rcases ha with rfl | rfl
      · rw [reach_b H r fuel r rs [] (by omega) (by simp) hb]
        have ih := reach_single hb hx fuel (blkRefs x ++ rs) [r] (by simp at hf ⊢; omega) (fun y hy => by
          rcases List.mem_append.1 hy with hy | hy
          · exact .inl (hx y hy)
          · exact hl y (by simp [hy])) (.inr rfl)
        rw [List.nil_append, ih]
        simp
      · have ih := reach_single hb hx fuel rs [r] (by simp at hf ⊢; omega) (fun x hx => hl x (by simp [hx])) (.inr rfl)
        rw [reach, if_neg (by omega), if_pos (by simp), ih]
        simp
/-- one new block is led to, that names older ones alone: it stays, all behind it are struck -/
theorem gc_single {vs : List Value} {H G : List Blk} {x : Blk} (hl : ∀ r ∈ lrefs vs, r < H.length ∨ r = H.length) (hm : H.length ∈ lrefs vs) (hx : ∀ r ∈ blkRefs x, r < H.length) (hren : ∀ σ : Nat → Nat, (∀ r, r < H.length → σ r = r) → renBlk σ x = x) (hn : (lrefs vs).length + (blkRefs x).length < 4096) {e : Option Nat} (he : escOk H.length e = true) :
    gc H.length vs ⟨H ++ (x :: G), e⟩ = (vs, ⟨H ++ [x], none⟩) := by
  have hb : (H ++ (x :: G))[H.length]? = some x := by rw [List.getElem?_append_right (Nat.le_refl _)]; simp
  unfold gc
  simp only [he, if_true]
  have hrch : reach (H ++ (x :: G)) H.length ((H ++ (x :: G)).length * 64 + 4096) (lrefs vs) [] = [H.length] := by
    rw [reach_single hb hx _ _ _ (by simp; omega) hl (.inl rfl)]
    simp [hm]
  rw [hrch]
  have h1 : closed H.length [H.length] (lrefs vs) = true := by
    unfold closed
    rw [List.all_eq_true]
    intro r hr
    rcases hl r hr with h | h <;> simp [h]
  have hr : ∀ b ∈ lrefs vs, renum H.length [H.length] b = b := by
    intro b hb
    rcases hl b hb with h | h
    · simp [renum, h]
    · subst h; simp [renum, findIx]
  have hg : (H ++ x :: G).getD H.length .dead = x := by simp [List.getD]
  simp only [h1, List.map_cons, List.map_nil, List.all_cons, List.all_nil, Bool.and_true, true_and, hg]
  rw [if_pos]
  · rw [lren_same vs hr, hren _ (fun r hr => by simp [renum, hr])]
    simp only [List.take_left']
  · refine ⟨?_, by simp⟩
    unfold closed
    rw [List.all_eq_true]
    intro r hr
    simp [hx r hr]
theorem gc_iter {vs : List Value} {H G : List Blk} {m a c : Nat} {seen : List Nat} (hl : ∀ r ∈ lrefs vs, r < H.length ∨ r = H.length) (hm : H.length ∈ lrefs vs) (hx : m < H.length) (hn : (lrefs vs).length < 4000) :
    gc H.length vs ⟨H ++ (.iter (some m) a seen c :: G), none⟩ = (vs, ⟨H ++ [.iter (some m) a seen c], none⟩) :=
  gc_single hl hm (by simpa [blkRefs] using hx) (fun σ hσ => by simp [renBlk, hσ m hx]) (by simp [blkRefs]; omega) rfl
end
end Go.Am

end
section
namespace Go.Am

/-- so many rounds, each told its number -/
def upto {σ : Type} (f : Nat → σ → σ) : Nat → σ → σ
  | 0, s => s
  | n + 1, s => f n (upto f n s)

section
variable {P : Program} {t : TypeId} {ox oy : Operand}

theorem loop_upto {σ : Type} {n0 : Nat} {step : List Value × AS → Option ((List Value × AS) ⊕ (AEx × List Value × AS))} {len : Nat} (S : Nat → σ → List Value × AS) (f : Nat → σ → σ) (Ok : Nat → σ → Prop) (R : σ → AEx × List Value × AS)
    (h : ∀ i s, i < len → Ok i s → ∃ vs st, step (S i s) = some (.inl (vs, st)) ∧ gc n0 vs st = S (i + 1) (f i s) ∧ Ok (i + 1) (f i s))
    (hend : ∀ s, Ok len s → step (S len s) = some (.inr (R s))) (s : σ) (vs : List Value) (st : AS) (ho : Ok 0 s) (hX : gc n0 vs st = S 0 s) : loopG n0 step (vs, st) = some (R (upto f len s)) := by
  have key : ∀ k i, i + k = len → Ok i (upto f i s) → ∀ vs st, gc n0 vs st = S i (upto f i s) → loopG n0 step (vs, st) = some (R (upto f len s)) := by
    intro k
    induction k with
    | zero =>
      intro i hi hok vs st hg
      have : i = len := by omega
      subst this
      rw [loopG_eq, hg, hend _ hok]
      rfl
    | succ k ih =>
      intro i hi hok vs st hg
      obtain ⟨vs', st', h1, h2, h3⟩ := h i _ (by omega) hok
      rw [loopG_eq, hg, h1]
      exact ih (i + 1) (by omega) h3 vs' st' h2
  exact key len 0 (by omega) ho vs st hX

theorem ix_arr {elem : TypeId} {k sz n b o : Nat} {j : IntKind} (hu : P.underlying t = some (.array k elem)) (hs : sizeP P elem = some sz) (hn : n < k) : aIndexAddr P t (.pointer (some ⟨b, o, none⟩)) (.int j (n : Int)) = some (.pointer (some ⟨b, o + n * sz, none⟩)) := by
  unfold aIndexAddr
  simp only [hu, hs]
  rw [if_pos ⟨by omega, by omega⟩, Int.toNat_natCast]
  simp only [Addr.add]
  split
  · next h => simp [h]
  · rfl
theorem ix_sl {elem : TypeId} {k c sz n b o : Nat} {j : IntKind} (hu : P.underlying t = some (.slice elem)) (hs : sizeP P elem = some sz) (hn : n < k) : aIndexAddr P t (.slice (some ⟨b, o, none⟩) k c) (.int j (n : Int)) = some (.pointer (some ⟨b, o + n * sz, none⟩)) := by
  unfold aIndexAddr
  simp only [hu, hs]
  rw [if_pos ⟨by omega, by omega⟩, Int.toNat_natCast]
  simp only [Addr.add]
  split
  · next h => simp [h]
  · rfl
theorem reach_at {H : List Blk} {n0 n : Nat} {x : Blk} (hn0 : n0 ≤ n) (hb : H[n]? = some x) (hx : ∀ r ∈ blkRefs x, r < n0) : ∀ (fuel : Nat) (l : List Nat) (acc : List Nat), (l.length + if acc = [] then (blkRefs x).length else 0) < fuel → (∀ r ∈ l, r < n0 ∨ r = n) → acc = [] ∨ acc = [n] →
    reach H n0 fuel l acc = if n ∈ l ∨ acc = [n] then [n] else []
  | 0, l, acc, hf, _, _ => by omega
  | fuel + 1, [], acc, _, _, ha => by
    rcases ha with rfl | rfl <;> simp [reach]
  | fuel + 1, r :: rs, acc, hf, hl, ha => by
    rcases hl r (by simp) with hr | rfl
    · have ih := reach_at hn0 hb hx fuel rs acc (by simp at hf; omega) (fun x hx => hl x (by simp [hx])) ha
      rw [reach, if_pos hr, ih]
      have : ¬ n = r := by omega
      simp [this]
    · rcases ha with rfl | rfl
      · rw [reach_b H n0 fuel r rs [] (by omega) (by simp) hb]
        have ih := reach_at hn0 hb hx fuel (blkRefs x ++ rs) [r] (by simp at hf ⊢; omega) (fun y hy => by
          rcases List.mem_append.1 hy with hy | hy
          · exact .inl (hx y hy)
          · exact hl y (by simp [hy])) (.inr rfl)
        rw [List.nil_append, ih]
        simp
      · have ih := reach_at hn0 hb hx fuel rs [r] (by simp at hf ⊢; omega) (fun x hx => hl x (by simp [hx])) (.inr rfl)
        rw [reach, if_neg (by omega), if_pos (by simp), ih]
        simp
mutual
theorem vren_congr {σ τ : Nat → Nat} : ∀ (v : Value), (∀ b ∈ vrefs v, σ b = τ b) → vren σ v = vren τ v
  | .bool _, _ | .int _ _, _ | .float _ _, _ | .string _, _ | .pointer none, _ | .slice none _ _, _ | .map none, _ | .nilFunc, _ | .nilIface, _ | .complex _ _ _, _ | .chan none, _ => rfl
  | .chan (some r), h => by simp [vren, h r (by simp [vrefs])]
  | .pointer (some a), h => by simp [vren, h a.block (by simp [vrefs])]
  | .slice (some a) l c, h => by simp [vren, h a.block (by simp [vrefs])]
  | .map (some r), h => by simp [vren, h r (by simp [vrefs])]
  | .func f ⟨a⟩ ⟨b⟩, h => by
    simp only [vren, aren]
    rw [lren_congr a (fun x hx => h x (by simp [vrefs, arefs, hx])), lren_congr b (fun x hx => h x (by simp [vrefs, arefs, hx]))]
  | .iface t v, h => by simp only [vren]; rw [vren_congr v (fun b hb => h b (by simpa [vrefs] using hb))]
  | .agg ⟨l⟩, h => by simp only [vren, aren]; rw [lren_congr l (fun b hb => h b (by simpa [vrefs, arefs] using hb))]
  | .tuple ⟨l⟩, h => by simp only [vren, aren]; rw [lren_congr l (fun b hb => h b (by simpa [vrefs, arefs] using hb))]
theorem lren_congr {σ τ : Nat → Nat} : ∀ (l : List Value), (∀ b ∈ lrefs l, σ b = τ b) → lren σ l = lren τ l
  | [], _ => rfl
  | v :: vs, h => by
    simp only [lren]
    rw [vren_congr v (fun b hb => h b (by simp [lrefs, hb])), lren_congr vs (fun b hb => h b (by simp [lrefs, hb]))]
end
/-- block a becomes block b -/
def mv (a b r : Nat) : Nat := if r = a then b else r
theorem mv_eq (a b : Nat) : mv a b a = b := by simp [mv]
theorem mv_ne {a b r : Nat} (h : r ≠ a) : mv a b r = r := by simp [mv, h]
theorem mv_lt {a b r : Nat} (h : r < a) : mv a b r = r := mv_ne (by omega)
/-- one new block is led to, wherever it stands -/
theorem gc_at {vs : List Value} {H l : List Blk} {k : Nat} {x : Blk} {e : Option Nat} (hk : l[k]? = some x) (hl : ∀ r ∈ lrefs vs, r < H.length ∨ r = H.length + k) (hm : H.length + k ∈ lrefs vs) (hx : ∀ r ∈ blkRefs x, r < H.length) (hren : ∀ σ : Nat → Nat, (∀ r, r < H.length → σ r = r) → renBlk σ x = x) (hn : (lrefs vs).length + (blkRefs x).length < 4096) (he : escOk H.length e = true) :
    gc H.length vs ⟨H ++ l, e⟩ = (lren (mv (H.length + k) H.length) vs, ⟨H ++ [x], none⟩) := by
  have hb : (H ++ l)[H.length + k]? = some x := by rw [List.getElem?_append_right (by omega)]; simpa using hk
  unfold gc
  simp only [he, if_true]
  have hrch : reach (H ++ l) H.length ((H ++ l).length * 64 + 4096) (lrefs vs) [] = [H.length + k] := by
    rw [reach_at (by omega) hb hx _ _ _ (by simp; omega) hl (.inl rfl)]
    simp [hm]
  rw [hrch]
  have h1 : closed H.length [H.length + k] (lrefs vs) = true := by
    unfold closed
    rw [List.all_eq_true]
    intro r hr
    rcases hl r hr with h | h <;> simp [h]
  have hr : ∀ b ∈ lrefs vs, renum H.length [H.length + k] b = mv (H.length + k) H.length b := by
    intro b hb
    rcases hl b hb with h | h
    · rw [mv_ne (by omega)]; simp [renum, h]
    · subst h; simp [renum, findIx, mv]; omega
  have hg : (H ++ l).getD (H.length + k) .dead = x := by simp only [List.getD, hb, Option.getD_some]
  simp only [h1, List.map_cons, List.map_nil, List.all_cons, List.all_nil, Bool.and_true, true_and, hg]
  rw [if_pos]
  · rw [lren_congr vs hr, hren _ (fun r hr => by simp [renum, hr])]
    simp only [List.take_left']
  · refine ⟨?_, by simp⟩
    unfold closed
    rw [List.all_eq_true]
    intro r hr
    simp [hx r hr]
theorem gc_rowk {vs : List Value} {H l : List Blk} {k : Nat} {cs : List Value} {o : Bool} {e : Option Nat} (hk : l[k]? = some (.cells cs t o)) (hl : ∀ r ∈ lrefs vs, r < H.length ∨ r = H.length + k) (hm : H.length + k ∈ lrefs vs) (hc : lrefs cs = []) (hn : (lrefs vs).length < 4000) (he : escOk H.length e = true) :
    gc H.length vs ⟨H ++ l, e⟩ = (lren (mv (H.length + k) H.length) vs, ⟨H ++ [.cells cs t o], none⟩) :=
  gc_at hk hl hm (by simp [blkRefs_cells, hc]) (fun σ _ => by rw [renBlk_cells, lren_none hc]) (by simp [blkRefs_cells, hc]; omega) he
theorem wrap32_nat {n : Nat} (h : n < 2 ^ 32) : IntKind.u32.wrap (n : Int) = n := by rw [IntKind.wrap_u32]; omega
theorem wrap8_nat (n : Nat) : IntKind.u8.wrap (n : Int) = ((n % 256 : Nat) : Int) := by rw [IntKind.wrap_u8]; omega
theorem wrap64_nat {n : Nat} (h : n < 2 ^ 64) : IntKind.u64.wrap (n : Int) = n := by rw [IntKind.wrap_u64]; omega

theorem bin_xor32 {x y : Nat} (hx : x < 2 ^ 32) (hy : y < 2 ^ 32) : aBin P .xor t ox oy (.int .u32 x) (.int .u32 y) = some (.int .u32 ((x ^^^ y : Nat) : Int)) := by
  refine bin_run rfl rfl guard_int ?_ rfl
  show some (Value.int .u32 (IntKind.u32.wrap ((BitVec.ofInt 32 (x : Int) ^^^ BitVec.ofInt 32 (y : Int)).toNat : Int))) = _
  rw [IntKind.wrap_u32, BitVec.toNat_xor, BitVec.toNat_ofInt, BitVec.toNat_ofInt]
  have h1 : ((x : Int) % ((2 ^ 32 : Nat) : Int)).toNat = x := by omega
  have h2 : ((y : Int) % ((2 ^ 32 : Nat) : Int)).toNat = y := by omega
  rw [h1, h2]
  have := Nat.xor_lt_two_pow hx hy
  congr 2
  omega
theorem bin_and8 {x y : Nat} (hx : x < 2 ^ 8) (hy : y < 2 ^ 8) : aBin P .and t ox oy (.int .u8 x) (.int .u8 y) = some (.int .u8 ((x &&& y : Nat) : Int)) := by
  refine bin_run rfl rfl guard_int ?_ rfl
  show some (Value.int .u8 (IntKind.u8.wrap ((BitVec.ofInt 8 (x : Int) &&& BitVec.ofInt 8 (y : Int)).toNat : Int))) = _
  rw [IntKind.wrap_u8, BitVec.toNat_and, BitVec.toNat_ofInt, BitVec.toNat_ofInt]
  have h1 : ((x : Int) % ((2 ^ 8 : Nat) : Int)).toNat = x := by omega
  have h2 : ((y : Int) % ((2 ^ 8 : Nat) : Int)).toNat = y := by omega
  rw [h1, h2]
  have : x &&& y < 2 ^ 8 := Nat.and_lt_two_pow _ hy
  congr 2
  omega
theorem bin_shr32 {x i : Nat} {j : IntKind} (hi : i < 32) (hx : x < 2 ^ 32) : aBin P .shr t ox oy (.int .u32 x) (.int j (i : Int)) = some (.int .u32 ((x >>> i : Nat) : Int)) := by
  refine bin_run rfl rfl guard_int ?_ rfl
  have h0 : ¬ ((i : Int) < 0) := by omega
  have hb : IntKind.u32.bits = 32 := rfl
  simp only [binOp, Op.shift, h0, if_false, pr_pure]
  rw [Int.toNat_natCast, hb, Nat.min_eq_left (by omega), Nat.shiftRight_eq_div_pow]
  have h2 : (2 : Int) ^ i = ((2 ^ i : Nat) : Int) := by simp
  rw [h2, Int.fdiv_eq_ediv_of_nonneg _ (Int.natCast_nonneg _), Int.natCast_ediv]
theorem bin_quo_nat {x y : Nat} {k : IntKind} (hy : y ≠ 0) (hk : ∀ n : Nat, n ≤ x → k.wrap (n : Int) = n) : aBin P .quo t ox oy (.int k x) (.int k y) = some (.int k ((x / y : Nat) : Int)) := by
  rw [bin_quo (by omega)]
  rw [Int.tdiv_eq_ediv_of_nonneg (by omega), ← Int.natCast_ediv, hk _ (Nat.div_le_self _ _)]
end
end Go.Am

end
section
namespace Go.Am
theorem gc0_spec (vs : List Value) (st : AS) : ∃ σ : Nat → Nat, (gc 0 vs st).1 = lren σ vs ∧
    (∀ r, Rch st.H (lrefs vs) r → ∀ b, st.H[r]? = some b → (gc 0 vs st).2.H[σ r]? = some (renBlk σ b)) ∧
    (∀ r r', Rch st.H (lrefs vs) r → Rch st.H (lrefs vs) r' → σ r = σ r' → r = r') := by
  obtain ⟨H, e⟩ := st
  have idv : lren (fun r => r) vs = vs := lren_same vs (fun _ _ => rfl)
  have idb : ∀ b : Blk, renBlk (fun r => r) b = b := by
    intro b
    cases b with
    | cells cs t o => simp [renBlk, lren_same cs (fun _ _ => rfl)]
    | map es c =>
      simp only [renBlk]
      congr 1
      rw [show es = es.map id by simp, List.map_map]
      refine List.map_congr_left fun x _ => ?_
      simp [vren_same x.key (fun _ _ => rfl), vren_same x.val (fun _ _ => rfl)]
    | iter m a b c => simp [renBlk]
    | loop f ps x y fr s => simp [renBlk, lren_same fr (fun _ _ => rfl)]
    | dead => rfl
  have same : ∃ σ : Nat → Nat, (vs, (⟨H, e⟩ : AS)).1 = lren σ vs ∧ (∀ r, Rch H (lrefs vs) r → ∀ b, H[r]? = some b → (vs, (⟨H, e⟩ : AS)).2.H[σ r]? = some (renBlk σ b)) ∧
      (∀ r r', Rch H (lrefs vs) r → Rch H (lrefs vs) r' → σ r = σ r' → r = r') :=
    ⟨fun r => r, idv.symm, fun r _ b hb => by rw [idb]; exact hb, fun _ _ _ _ h => h⟩
  unfold gc
  split
  · simp only
    generalize hkept : reach H 0 (H.length * 64 + 4096) (lrefs vs) [] = kept
    split
    · rename_i hcond
      obtain ⟨hc1, hc2, hc3⟩ := hcond
      have hc1 := closed_spec hc1
      rw [List.all_eq_true] at hc2
      have hmem : ∀ r, Rch H (lrefs vs) r → r ∈ kept := by
        intro r hr
        induction hr with
        | here h =>
          rcases hc1 _ h with h | h
          · omega
          · exact h
        | @step r q b hq hb hrb ih =>
          have := hc2 (H.getD q .dead) (List.mem_map.2 ⟨q, ih, rfl⟩)
          have hbq : H.getD q .dead = b := by simp [List.getD, hb]
          rw [hbq] at this
          rcases closed_spec this r hrb with h | h
          · omega
          · exact h
      have hix : ∀ r, Rch H (lrefs vs) r → kept[renum 0 kept r]? = some r := by
        intro r hr
        obtain ⟨j, h1, h2⟩ := findIx_mem kept 0 (hmem r hr)
        have : renum 0 kept r = j := by simp [renum, h1]
        rw [this]
        exact h2
      refine ⟨renum 0 kept, rfl, fun r hr b hb => ?_, fun r r' hr hr' h => ?_⟩
      · rw [List.take_zero, List.nil_append, List.getElem?_map, List.getElem?_map, hix r hr]
        simp [List.getD, hb]
      · have h1 := hix r hr
        rw [h, hix r' hr'] at h1
        exact (Option.some.inj h1).symm
    · exact same
  · exact same

theorem says_fin0 {P : Program} {n0 : Nat} {st : AS} : saysTrue (fin P false n0 [.bool true] st) = true := by
  unfold fin endFrz
  simp only [Bool.false_eq_true, if_false, frzL, frz_noSl n0 8 (.bool true) st.H rfl]
  rw [gc_vals _ _ _ rfl]
  rfl
end Go.Am

end
section
namespace Go.Am
section
variable {P : Program}
theorem gc_same' {vs : List Value} {H : List Blk} {n0 : Nat} (hn : H.length = n0) (hl : ∀ r ∈ lrefs vs, r < n0) : gc n0 vs ⟨H, none⟩ = (vs, ⟨H, none⟩) := by
  subst hn; exact gc_same hl
theorem put_head {x v : List Value} {off : Nat} (y : List Value) (h : off + v.length ≤ x.length) : putCells (x ++ y) off v = putCells x off v ++ y := by
  simp only [putCells]
  rw [List.take_append_of_le_length (by omega), List.drop_append, show off + v.length - x.length = 0 by omega]
  simp
theorem put_part {sz i off : Nat} {rs : List (List Value)} {r v : List Value} (h : ∀ x ∈ rs, x.length = sz) (hr : rs[i]? = some r) (ho : off + v.length ≤ sz) : putCells rs.flatten (i * sz + off) v = (rs.set i (putCells r off v)).flatten := by
  induction rs generalizing i with
  | nil => simp at hr
  | cons x xs ih =>
    have hx := h x (by simp)
    cases i with
    | zero =>
      simp at hr; subst hr
      rw [Nat.zero_mul, Nat.zero_add, List.flatten_cons, List.set_cons_zero, List.flatten_cons, put_head _ (by omega)]
    | succ i =>
      have := ih (i := i) (fun y hy => h y (by simp [hy])) (by simpa using hr)
      rw [List.flatten_cons, List.set_cons_succ, List.flatten_cons, ← this]
      unfold putCells
      rw [show (i + 1) * sz + off = x.length + (i * sz + off) by rw [hx, Nat.succ_mul]; omega]
      rw [List.take_length_add_append, Nat.add_assoc, List.drop_length_add_append]
      simp
theorem part_sub {sz i off k : Nat} {rs : List (List Value)} {r : List Value} (h : ∀ x ∈ rs, x.length = sz) (hr : rs[i]? = some r) (ho : off + k ≤ sz) : (rs.flatten.drop (i * sz + off)).take k = (r.drop off).take k := by
  have h1 := part_row h hr
  have hl : r.length = sz := h r (List.mem_of_getElem? hr)
  rw [← List.drop_drop]
  generalize rs.flatten.drop (i * sz) = q at h1
  rw [← h1, List.drop_take, List.take_take, Nat.min_eq_left (by omega)]
theorem part_get {sz i off : Nat} {rs : List (List Value)} {r : List Value} (h : ∀ x ∈ rs, x.length = sz) (hr : rs[i]? = some r) (ho : off < sz) : rs.flatten[i * sz + off]? = r[off]? := by
  have h1 := part_row h hr
  have h2 : rs.flatten[i * sz + off]? = (rs.flatten.drop (i * sz))[off]? := by rw [List.getElem?_drop]
  rw [h2, ← h1, List.getElem?_take_of_lt ho]
theorem part_fits' {sz i off k : Nat} {rs : List (List Value)} {r : List Value} (h : ∀ x ∈ rs, x.length = sz) (hr : rs[i]? = some r) (ho : off + k ≤ sz) : i * sz + off + k ≤ rs.flatten.length := by
  have := part_fits h hr; omega
theorem rem_nat {t : TypeId} {ox oy : Operand} {x y : Nat} {k : IntKind} (hy : y ≠ 0) : aBin P .rem t ox oy (.int k x) (.int k y) = some (.int k ((x % y : Nat) : Int)) := by
  rw [bin_rem (by omega)]
  rfl
end
end Go.Am

end
section
namespace Go.Am
/-- of names, those of new blocks, told from the first new one on -/
def news (n : Nat) (l : List Nat) : List Nat := l.filter fun r => decide (n ≤ r)
@[simp] theorem news_nil (n : Nat) : news n [] = [] := rfl
theorem news_old {n r : Nat} {l : List Nat} (h : r < n) : news n (r :: l) = news n l := by
  simp only [news, List.filter_cons]
  rw [if_neg (by simp; omega)]
theorem news_own (n j : Nat) (l : List Nat) : news n ((n + j) :: l) = (n + j) :: news n l := by
  simp only [news, List.filter_cons]
  rw [if_pos (by simp)]
theorem news_own0 (n : Nat) (l : List Nat) : news n (n :: l) = n :: news n l := news_own n 0 l
theorem news_app (n : Nat) (a b : List Nat) : news n (a ++ b) = news n a ++ news n b := by simp [news]
section
variable {P : Program} {H0 l : List Blk} {vs : List Value} {e : Option Nat}
theorem news_mem {n : Nat} {l0 rs : List Nat} (h : news n l0 = rs.map (n + ·)) {r : Nat} (hr : r ∈ l0) : r < n ∨ ∃ j ∈ rs, r = n + j := by
  by_cases hlt : r < n
  · exact .inl hlt
  · right
    have : r ∈ news n l0 := List.mem_filter.2 ⟨hr, by simp; omega⟩
    rw [h] at this
    obtain ⟨j, hj, he⟩ := List.mem_map.1 this
    exact ⟨j, hj, he.symm⟩
theorem reach_mix {R : List (List Nat)} (hR : ∀ j, news H0.length (blkRefs (l.getD j .dead)) = (R.getD j []).map (H0.length + ·)) (hB : ∀ j, (blkRefs (l.getD j .dead)).length ≤ 48) : ∀ (fuel k : Nat) (l0 rs acc ks : List Nat), news H0.length l0 = rs.map (H0.length + ·) → reachR R k rs acc = some ks → l0.length + k * 48 < fuel →
    reach (H0 ++ l) H0.length fuel l0 (acc.map (H0.length + ·)) = ks.map (H0.length + ·)
  | 0, k, l0, rs, acc, ks, _, _, hf => by omega
  | fuel + 1, k, [], rs, acc, ks, hn, h, hf => by
    have hrs : rs = [] := by cases rs with
      | nil => rfl
      | cons x xs => simp at hn
    subst hrs
    have : acc = ks := by cases k <;> simpa [reachR] using h
    subst this
    rfl
  | fuel + 1, k, r :: t, rs, acc, ks, hn, h, hf => by
    by_cases hr : r < H0.length
    · rw [news_old hr] at hn
      rw [reach, if_pos hr]
      exact reach_mix hR hB fuel k t rs acc ks hn h (by simp at hf; omega)
    · obtain ⟨j, rfl⟩ : ∃ j, r = H0.length + j := ⟨r - H0.length, by omega⟩
      rw [news_own] at hn
      match rs, hn with
      | [], hn => simp at hn
      | j' :: rs', hm =>
        simp only [List.map_cons, List.cons.injEq] at hm
        obtain ⟨hj, hm⟩ := hm
        have hj : j' = j := by omega
        subst hj
        match k, h with
        | 0, h => simp [reachR] at h
        | k + 1, h =>
          simp only [reachR] at h
          rw [reach_refs _ _ _ _ _ _ (by omega), contains_rel]
          have hg : (H0 ++ l).getD (H0.length + j') .dead = l.getD j' .dead := by simp only [List.getD, get_app]
          split at h
          · next hc =>
            rw [if_pos hc]
            exact reach_mix hR hB fuel k t rs' acc ks hm h (by simp at hf; omega)
          · next hc =>
            rw [if_neg hc, hg, show acc.map (H0.length + ·) ++ [H0.length + j'] = (acc ++ [j']).map (H0.length + ·) by simp]
            refine reach_mix hR hB fuel k _ (R.getD j' [] ++ rs') (acc ++ [j']) ks (by rw [news_app, hR, hm, List.map_append]) h ?_
            have := hB j'
            simp at hf ⊢
            simp at this
            omega
theorem gc_mix (R : List (List Nat)) (rs ks : List Nat) (hk : reachR R 64 rs [] = some ks) (he : escOk H0.length e = true) (hvs : news H0.length (lrefs vs) = rs.map (H0.length + ·)) (hlen : (lrefs vs).length ≤ 64) (hR : (l.map fun b => news H0.length (blkRefs b)) = R.map (List.map (H0.length + ·))) (hB : ∀ b ∈ l, (blkRefs b).length ≤ 48)
    {vs' : List Value} {l' : List Blk} (h1 : lren (rn H0.length ks) vs = vs') (h2 : (ks.map fun j => renBlk (rn H0.length ks) (l.getD j .dead)) = l') :
    gc H0.length vs ⟨H0 ++ l, e⟩ = (vs', ⟨H0 ++ l', none⟩) := by
  subst h1 h2
  obtain ⟨_, g2, g3⟩ := reachR_spec 64 rs [] ks hk
  have hR' : ∀ j, news H0.length (blkRefs (l.getD j .dead)) = (R.getD j []).map (H0.length + ·) := by
    intro j
    have h2 := congrArg (fun x => x[j]?) hR
    simp only [List.getElem?_map] at h2
    simp only [List.getD]
    cases hl : l[j]? with
    | none =>
      rw [hl] at h2
      cases hq : R[j]? with
      | none => rfl
      | some q => rw [hq] at h2; simp at h2
    | some b =>
      rw [hl] at h2
      simp only [Option.map_some] at h2
      cases hq : R[j]? with
      | none => rw [hq] at h2; simp at h2
      | some q => rw [hq] at h2; simp at h2; simp [h2]
  have hB' : ∀ j, (blkRefs (l.getD j .dead)).length ≤ 48 := by
    intro j
    simp only [List.getD]
    cases hl : l[j]? with
    | none => simp [blkRefs]
    | some b => exact hB b (List.mem_of_getElem? hl)
  unfold gc
  simp only [he, if_true]
  have hrch := reach_mix (H0 := H0) hR' hB' ((H0 ++ l).length * 64 + 4096) 64 (lrefs vs) rs [] ks hvs hk (by omega)
  simp only [List.map_nil] at hrch
  rw [hrch]
  have hget : ∀ j, (H0 ++ l).getD (H0.length + j) .dead = l.getD j .dead := fun j => by simp only [List.getD, get_app]
  have hnew : ((ks.map (H0.length + ·)).map fun r => (H0 ++ l).getD r .dead) = ks.map fun j => l.getD j .dead := by
    simp only [List.map_map, Function.comp_def, hget]
  have c1 : closed H0.length (ks.map (H0.length + ·)) (lrefs vs) = true := by
    unfold closed
    rw [List.all_eq_true]
    intro r hr
    rcases news_mem hvs hr with h | ⟨j, hj, rfl⟩
    · simp [h]
    · rw [contains_rel]
      simp [g2 j hj]
  have c2 : ((ks.map fun j => l.getD j .dead).all fun b => closed H0.length (ks.map (H0.length + ·)) (blkRefs b)) = true := by
    rw [List.all_eq_true]
    intro b hb
    obtain ⟨j, hj, rfl⟩ := List.mem_map.1 hb
    unfold closed
    rw [List.all_eq_true]
    intro r hr
    rcases news_mem (hR' j) hr with h | ⟨q, hq, rfl⟩
    · simp [h]
    · rw [contains_rel]
      simp [g3 j hj (by simp) q hq]
  rw [hnew]
  have c3 : H0.length ≤ (H0 ++ l).length := by simp
  rw [if_pos ⟨c1, c2, c3⟩]
  simp only [List.take_left', List.map_map, Function.comp_def]
  rfl
end
end Go.Am
namespace Go.Am
section
variable {P : Program} {H0 l : List Blk} {vs : List Value} {e : Option Nat}
/-- which of some numbers stay, each once, in their order -/
def once : List Nat → List Nat → List Nat
  | [], acc => acc
  | r :: rs, acc => if acc.contains r = true then once rs acc else once rs (acc ++ [r])
theorem reachR_once {R : List (List Nat)} (hR : ∀ j, R.getD j [] = []) : ∀ (k : Nat) (rs acc : List Nat), rs.length ≤ k → reachR R k rs acc = some (once rs acc)
  | k, [], acc, _ => by cases k <;> rfl
  | 0, r :: rs, acc, h => by simp at h
  | k + 1, r :: rs, acc, h => by
    simp only [reachR, once, hR, List.nil_append]
    split
    · exact reachR_once hR k rs acc (by simpa using h)
    · exact reachR_once hR k rs _ (by simpa using h)
/-- new blocks that name none -/
theorem gc_flats (rs : List Nat) (hf : ∀ b ∈ l, blkRefs b = []) (he : escOk H0.length e = true) (hvs : news H0.length (lrefs vs) = rs.map (H0.length + ·)) (hlen : (lrefs vs).length ≤ 64)
    {vs' : List Value} {l' : List Blk} (h1 : lren (rn H0.length (once rs [])) vs = vs') (h2 : (once rs []).map (fun j => l.getD j .dead) = l') :
    gc H0.length vs ⟨H0 ++ l, e⟩ = (vs', ⟨H0 ++ l', none⟩) := by
  have hfd : ∀ j, blkRefs (l.getD j .dead) = [] := by
    intro j
    simp only [List.getD]
    cases hl : l[j]? with
    | none => simp [blkRefs]
    | some b => exact hf b (List.mem_of_getElem? hl)
  have hren : ∀ (σ : Nat → Nat) (b : Blk), blkRefs b = [] → renBlk σ b = b := by
    intro σ b hb
    cases b with
    | cells cs t o => rw [renBlk_cells, lren_none (by simpa [blkRefs] using hb)]
    | map es c =>
      simp only [renBlk]
      congr 1
      have : ∀ x ∈ es, vrefs x.key = [] ∧ vrefs x.val = [] := by
        intro x hx
        have := List.flatMap_eq_nil_iff.1 (show es.flatMap (fun e => vrefs e.key ++ vrefs e.val) = [] by simpa [blkRefs] using hb) x hx
        simpa using this
      conv => rhs; rw [← List.map_id es]
      refine List.map_congr_left fun x hx => ?_
      obtain ⟨a, b⟩ := this x hx
      simp [vren_none a, vren_none b]
    | iter m a b c =>
      cases m with
      | none => rfl
      | some m => simp [blkRefs] at hb
    | loop f ps x y fr s => simp only [renBlk]; rw [lren_none (by simpa [blkRefs] using hb)]
    | dead => rfl
  have hlr : rs.length ≤ 64 := by
    have := congrArg List.length hvs
    simp only [List.length_map] at this
    have h3 : (news H0.length (lrefs vs)).length ≤ (lrefs vs).length := List.length_filter_le _ _
    omega
  refine gc_mix (l.map fun _ => []) rs (once rs []) (reachR_once (fun j => by simp only [List.getD, List.getElem?_map]; cases l[j]? <;> rfl) 64 rs [] hlr) he hvs hlen ?_ (fun b hb => by rw [hf b hb]; simp) h1 ?_
  · rw [List.map_map]
    refine List.map_congr_left fun b hb => ?_
    simp [hf b hb]
  · rw [← h2]
    refine List.map_congr_left fun j _ => ?_
    rw [hren _ _ (hfd j)]
end
end Go.Am
namespace Go.Am
theorem putB_end {cs vs : List Value} {t : TypeId} : ∀ (a : List Blk), vs.length = cs.length → allCells vs = true → putB (a ++ [.cells cs t true]) a.length 0 vs = some (a ++ [.cells vs t true])
  | [], hl, ha => by
    simp only [List.nil_append, List.length_nil, putB_z]
    rw [if_pos ⟨by omega, ha⟩, putCells_all hl]
  | b :: a, hl, ha => by
    simp only [List.cons_append, List.length_cons, putB_s, putB_end a hl ha, Option.map_some]
end Go.Am

end
section
namespace Go.Am
section
variable {P : Program} {t : TypeId} {ox oy : Operand}
theorem bin_or32 {x y : Nat} (hx : x < 2 ^ 32) (hy : y < 2 ^ 32) : aBin P .or t ox oy (.int .u32 x) (.int .u32 y) = some (.int .u32 ((x ||| y : Nat) : Int)) := by
  refine bin_run rfl rfl guard_int ?_ rfl
  show some (Value.int .u32 (IntKind.u32.wrap ((BitVec.ofInt 32 (x : Int) ||| BitVec.ofInt 32 (y : Int)).toNat : Int))) = _
  rw [IntKind.wrap_u32, BitVec.toNat_or, BitVec.toNat_ofInt, BitVec.toNat_ofInt]
  have h1 : ((x : Int) % ((2 ^ 32 : Nat) : Int)).toNat = x := by omega
  have h2 : ((y : Int) % ((2 ^ 32 : Nat) : Int)).toNat = y := by omega
  rw [h1, h2]
  have := Nat.or_lt_two_pow hx hy
  congr 2
  omega
theorem bin_shl8_32 {x : Nat} {j : IntKind} (hx : x * 256 < 2 ^ 32) : aBin P .shl t ox oy (.int .u32 x) (.int j 8) = some (.int .u32 ((x * 256 : Nat) : Int)) := by
  refine bin_run rfl rfl guard_int ?_ rfl
  have h0 : ¬ ((8 : Int) < 0) := by omega
  simp only [binOp, Op.shift, h0, if_false, pr_pure]
  rw [IntKind.wrap_u32]
  congr 2
  show ((x : Int) * 2 ^ 8) % 4294967296 = _
  omega
theorem bin_shl8_64 {x : Nat} {j : IntKind} (hx : x * 256 < 2 ^ 64) : aBin P .shl t ox oy (.int .u64 x) (.int j 8) = some (.int .u64 ((x * 256 : Nat) : Int)) := by
  refine bin_run rfl rfl guard_int ?_ rfl
  have h0 : ¬ ((8 : Int) < 0) := by omega
  simp only [binOp, Op.shift, h0, if_false, pr_pure]
  rw [IntKind.wrap_u64]
  congr 2
  show ((x : Int) * 2 ^ 8) % 18446744073709551616 = _
  omega
theorem add_def (b o n : Nat) : (⟨b, o, none⟩ : Addr).add n = ⟨b, o + n, none⟩ := by
  simp only [Addr.add]
  split
  · next h => simp [h]
  · rfl
/-- the first part of a slice -/
theorem slice_to {elem : TypeId} {sz b o n c m : Nat} {j : IntKind} {st : AS} (hu : P.underlying t = some (.slice elem)) (hs : sizeP P elem = some sz) (hm : m ≤ n) (hn : n ≤ c) (hc : c < UNK) : aSlice P t (.slice (some ⟨b, o, none⟩) n c) none (some (.int j (m : Int))) none st = some (.slice (some ⟨b, o, none⟩) m c) := by
  have hb : aBounds n c none (some (.int j (m : Int))) none = some (0, m, c) := by
    have h1 : c ≠ UNK := by omega
    have h2 : m ≤ c := by omega
    simp [aBounds, h1, h2, hc]
  unfold aSlice
  simp only [hu, hs, hb]
  rw [if_neg (by omega), Nat.zero_mul, add_def]
  rfl
/-- the last part of a slice -/
theorem slice_lo {elem : TypeId} {sz b o n c m : Nat} {j : IntKind} {st : AS} (hu : P.underlying t = some (.slice elem)) (hs : sizeP P elem = some sz) (hm : m ≤ n) (hn : n ≤ c) (hc : c < UNK) : aSlice P t (.slice (some ⟨b, o, none⟩) n c) (some (.int j (m : Int))) none none st = some (.slice (some ⟨b, o + m * sz, none⟩) (n - m) (c - m)) := by
  have hb : aBounds n c (some (.int j (m : Int))) none none = some (m, n, c - m) := by
    have h1 : c ≠ UNK := by omega
    simp [aBounds, h1, hm, hn, hc]
  unfold aSlice
  simp only [hu, hs, hb]
  rw [if_neg (by omega), add_def]
/-- the last part of a slice of which the capacity is not known -/
theorem slice_lo_unk {elem et : TypeId} {sz b o n m : Nat} {j : IntKind} {st : AS} {cs : List Value} {w : Bool} (hu : P.underlying t = some (.slice elem)) (hs : sizeP P elem = some sz) (hk : st.H[b]? = some (.cells cs et w)) (he : sizeP P et = some sz) (hm : m ≤ n) (hn : n < UNK) : aSlice P t (.slice (some ⟨b, o, none⟩) n UNK) (some (.int j (m : Int))) none none st = some (.slice (some ⟨b, o + m * sz, none⟩) (n - m) UNK) := by
  have hb : aBounds n UNK (some (.int j (m : Int))) none none = some (m, n, UNK) := by
    simp [aBounds, hm, hn]
  unfold aSlice
  simp only [hu, hs, hb]
  rw [if_pos trivial, hk]
  simp only [he, if_true]
  rw [add_def]
/-- the last part of an array -/
theorem slice_from {elem : TypeId} {sz b k m : Nat} {j : IntKind} {st : AS} (hu : P.underlying t = some (.array k elem)) (hs : sizeP P elem = some sz) (hm : m ≤ k) (hc : k < UNK) : aSlice P t (.pointer (some ⟨b, 0, none⟩)) (some (.int j (m : Int))) none none st = some (.slice (some ⟨b, m * sz, none⟩) (k - m) (k - m)) := by
  have hb : aBounds k k (some (.int j (m : Int))) none none = some (m, k, k - m) := by
    have h1 : k ≠ UNK := by omega
    simp [aBounds, h1, hm, hc]
  unfold aSlice
  simp only [hu, hs, hb]
  rw [if_neg (by omega), add_def, Nat.zero_add]
theorem slice_all {elem : TypeId} {sz b k : Nat} {st : AS} (hu : P.underlying t = some (.array k elem)) (hs : sizeP P elem = some sz) (hc : k < UNK) : aSlice P t (.pointer (some ⟨b, 0, none⟩)) none none none st = some (.slice (some ⟨b, 0, none⟩) k k) := by
  have hb : aBounds k k none none none = some (0, k, k) := by
    have h1 : k ≠ UNK := by omega
    simp [aBounds, h1, hc]
  unfold aSlice
  simp only [hu, hs, hb]
  rw [if_neg (by omega), Nat.zero_mul, add_def]
  rfl
theorem veq_sl {a : Addr} {n c : Nat} : veq (.slice (some a) n c) (.slice (some a) n c) = true := by simp [veq]
/-- cells of one apiece are copied -/
theorem copy_own {elem et t' : TypeId} {st : AS} {k o len c m q : Nat} {cs new : List Value} {y : Value} {R : Type} (F : Value → AS → Option R) (hu : P.underlying t = some (.slice elem)) (hs : sizeP P elem = some 1) (hk : st.H[k]? = some (.cells cs et true)) (hy : srcCells 1 st.H y = some (m, new)) (hm : new.length = m) (hq : min m len = q) (h0 : 0 < q) (hf : o + q ≤ cs.length) (ha : allCells new = true) (hr : lrefs new = []) :
    eBuiltin P .copy #[t, t'] [.slice (some ⟨k, o, none⟩) len c, y] st F = F (.int .i64 (q : Nat)) ⟨st.H.set k (.cells (putCells cs o (new.take q)) et true), st.esc⟩ := by
  obtain ⟨Hh, e⟩ := st
  have hl : (new.take q).length = q := by rw [List.length_take]; omega
  have hta : allCells (new.take q) = true := by
    unfold allCells at ha ⊢
    rw [List.all_eq_true] at ha ⊢
    exact fun x hx => ha x (List.mem_of_mem_take hx)
  have htr : lrefs (new.take q) = [] := lrefs_take hr q
  have hst : storeL ⟨Hh, e⟩ k o (new.take q) = some ⟨Hh.set k (.cells (putCells cs o (new.take q)) et true), e⟩ := by
    rw [storeL_eq hk, if_pos ⟨by rw [hl]; exact hf, hta⟩, htr]; rfl
  have hc : aCopy P #[t, t'] (.slice (some ⟨k, o, none⟩) len c) y ⟨Hh, e⟩ = some (.int .i64 (q : Nat), ⟨Hh.set k (.cells (putCells cs o (new.take q)) et true), e⟩) := by
    have hg : (#[t, t'] : Array TypeId)[0]? = some t := rfl
    unfold aCopy
    simp only [hg, hu, hs, Option.getD_some, hy, hq, Nat.mul_one, hst]
    rw [if_neg (by omega)]
    rfl
  simp only [eBuiltin, hc]
  rfl
end
end Go.Am

end
section
namespace Go.Am
open Go

/-- what was there stands: so does all that was told of it -/
theorem kept_step {P : Program} {ρ : Ren} {H : List Blk} {w w' : World} (hrel : Rel P ρ H w) (hk : Kept w w') : Rel P ρ H w' ∧ Step H.length ρ H w ρ H w' := by
  have lt : ∀ {cb : Nat} {o : Obj}, w.heap[cb]? = some o → cb < w.heap.size := fun {cb o} h => by
    by_cases hi : cb < w.heap.size
    · exact hi
    · rw [Array.getElem?_eq_none (Nat.le_of_not_lt hi)] at h; simp at h
  refine ⟨⟨fun b k hb hlv => ?_, hrel.uniq, hrel.dom, fun cb c hc => ?_⟩, ?_⟩
  · obtain ⟨cb, base, o, h1, h2, h3⟩ := hrel.blk b k hb hlv
    exact ⟨cb, base, o, h1, by rw [hk.block cb (lt h2)]; exact h2, h3.mono (fun _ _ h => h) (fun _ _ h => h) hk.shape⟩
  · obtain ⟨⟨e, fz, h1⟩, h2⟩ := hrel.frozen cb c hc
    exact ⟨⟨e, fz, by rw [hk.block cb (lt h1)]; exact h1⟩, h2⟩
  · exact ⟨fun _ _ => rfl, hk.shape, hk.size, fun cb hlt _ => hk.block cb hlt, fun _ _ h => h, hk.os, hk.output, fun _ _ h => h, fun _ _ h => h, fun cb r h => ⟨r, by rw [hk.block cb (lt_of_getA h)]; exact h⟩⟩

theorem kept_ahead (w : World) (n : Nat) : Kept w (Sort.ahead w n) := ⟨rfl, rfl, fun _ _ => rfl⟩
theorem kept_grow (w : World) (os : Array Obj) : Kept w (Sort.grow w os) := ⟨rfl, rfl, fun k hk => by
  simp only [Sort.grow]
  rw [Array.getElem?_append_left hk]⟩

/-- whole numbers -/
def numsOf : List Value → Option (List Int)
  | [] => some []
  | .int .i64 n :: r => (numsOf r).map (n :: ·)
  | _ => none
theorem numsOf_map (l : List Int) : numsOf (l.map (Value.int .i64)) = some l := by
  induction l with
  | nil => rfl
  | cons a l ih => simp only [List.map_cons, numsOf, ih, Option.map_some]
theorem numsOf_spec : ∀ {l : List Value} {zs : List Int}, numsOf l = some zs → l = zs.map (Value.int .i64)
  | [], zs, h => by simp [numsOf] at h; subst h; rfl
  | v :: r, zs, h => by
    cases v with
    | int k n =>
      cases k <;> simp [numsOf] at h
      obtain ⟨a, h1, rfl⟩ := h
      rw [numsOf_spec h1]; rfl
    | _ => simp [numsOf] at h

def sorted (zs : List Int) : List Int := zs.mergeSort fun x y => decide (x ≤ y)

/-- slices.Sort of whole numbers -/
def gSort (args : List Value) (H : List Blk) : Option (Value × List Blk × Option Nat) := match args with
  | [.slice (some ⟨b, o, none⟩) n _] => match H[b]? with
    | some (.cells cs _ true) => if o + n ≤ cs.length ∧ 0 < n ∧ n < 1000000 then
        match numsOf ((cs.drop o).take n) with
        | some zs => (storeL ⟨H, none⟩ b o ((sorted zs).map (Value.int .i64))).map fun s => (.tuple #[], s.H, s.esc)
        | none => none
      else none
    | _ => none
  | _ => none

theorem putRow_set {w : World} {cb o : Nat} {carr : Array Value} {e : TypeId} {fz : Nat × Nat} {d : List Int} (hc : w.heap[cb]? = some (.cells carr e fz)) (hl : o + d.length ≤ carr.size) :
    Sort.putRow (Value.int .i64) w cb o d.toArray = w.setCells cb o (d.map (Value.int .i64)) := by
  rw [heap_setCells cb e fz _ o w carr hc (by simpa using hl)]
  unfold Sort.putRow
  rw [Sort.mapBlock_congr w cb _ (fun _ => (putCells carr.toList o (d.map (Value.int .i64))).toArray) (fun c e' fr h => by
    rw [hc] at h
    simp only [Option.some.injEq, Obj.cells.injEq] at h
    obtain ⟨rfl, _, _⟩ := h
    apply Array.ext_getElem?
    intro k
    rw [Sort.putCells, Array.getElem?_mapIdx]
    simp only [List.getElem?_toArray]
    rw [putCells_get (by simpa using hl)]
    simp only [List.size_toArray, List.length_map]
    by_cases h1 : k < o
    · have : ¬ (o ≤ k ∧ k < o + d.length) := by omega
      simp [h1, this]
    · by_cases h2 : k < o + d.length
      · have hk : o ≤ k ∧ k < o + d.length := by omega
        have hkc : k < carr.size := by omega
        simp only [h1, h2, hk, if_true, if_false, and_self]
        rw [Array.getElem?_eq_getElem hkc]
        have hkd : k - o < d.length := by omega
        simp [hkd]
      · have : ¬ (o ≤ k ∧ k < o + d.length) := by omega
        simp [h1, h2, this])]
  unfold Sort.mapBlock setBlk
  congr 1
  apply Array.ext_getElem?
  intro k
  rw [Array.getElem?_modify, Array.getElem?_setIfInBounds]
  by_cases hk : cb = k
  · subst hk
    simp only [if_true, hc, Option.map_some, Sort.onCells]
    have := lt_of_getA hc
    simp [this]
  · simp [hk]

theorem gSort_ok {P : Program} {f : FuncId} (hc : ∀ (blk off cap : Nat) (zs : List Int) (w : World), Sort.Holds (Value.int .i64) w blk off zs.toArray → blk < w.heap.size → zs.length < 4611686018427387904 →
    Calls P f #[.slice (some ⟨blk, off, none⟩) zs.length cap] w fun e w' => e = .returned (.tuple #[]) ∧ ∃ n os, w' = Sort.grow (Sort.putRow (Value.int .i64) (Sort.ahead w n) blk off (zs.mergeSort fun x y => decide (x ≤ y)).toArray) os) : SumOk P gSort f := by
  refine ⟨?_, ?_⟩
  · intro args H v H' e ρ w cargs h hrel hargs
    unfold gSort at h
    split at h
    case h_2 => simp at h
    rename_i b o n c
    split at h
    case h_2 => simp at h
    rename_i cs t hb
    rw [ite_some] at h
    obtain ⟨⟨hlen, hpos, hn⟩, h⟩ := h
    split at h
    case h_2 => simp at h
    rename_i zs hz
    obtain ⟨s, hs, h⟩ := Option.map_eq_some_iff.1 h
    simp only [Prod.mk.injEq] at h
    obtain ⟨rfl, rfl, rfl⟩ := h
    have hz' := numsOf_spec hz
    have hzl : zs.length = n := by
      have := congrArg List.length hz'
      simp at this
      omega
    have hsl : (sorted zs).length = n := by rw [sorted, List.length_mergeSort, hzl]
    obtain ⟨cv, hcv, hv⟩ := hargs.2 0 _ rfl
    have hca : cargs = #[cv] := by
      have h1 := hargs.1
      apply Array.ext_getElem?
      intro i
      have hsz : cargs.size = 1 := by simpa using h1.symm
      cases i with
      | zero => simpa using hcv
      | succ i => rw [Array.getElem?_eq_none (by omega), Array.getElem?_eq_none (by simp)]
    rcases hv.slice_inv with ⟨cb, base, cap', _, hr, rfl, _, _, _⟩ | ⟨_, _, _, _, h0, _⟩
    case inr => omega
    obtain ⟨cb', base', carr, fz, h1, h2, h3, h4, h5, h6⟩ := cells_get hrel hb
    simp only at hr
    rw [h1] at hr; simp only [Option.some.injEq, Prod.mk.injEq] at hr; obtain ⟨rfl, rfl⟩ := hr
    have hcne : cs ≠ [] := fun e0 => by subst e0; simp at hlen; omega
    have hfit := h4 hcne
    have hL : ∀ ds : List Int, LRel P ρ w.shape? (ds.map (Value.int .i64)) (ds.map (Value.int .i64)) := fun ds => ⟨rfl, fun i x hx => ⟨x, hx, by
      obtain ⟨k, _, rfl⟩ := List.mem_map.1 (List.mem_of_getElem? hx)
      exact .same _ rfl⟩⟩
    obtain ⟨k1, k2, k3, k4, k5, k6⟩ := storeL_sound hrel hs h1 (hL (sorted zs))
    have hholds : Sort.Holds (Value.int .i64) w cb' (base' + o) zs.toArray := by
      intro j hj
      have hj' : j < zs.length := by simpa using hj
      refine ⟨?_, k5 j (by simp [hsl]; omega)⟩
      have hcsj : cs[o + j]? = some (.int .i64 zs[j]) := by
        have := congrArg (fun l => l[j]?) hz'
        simp only [List.getElem?_take, List.getElem?_drop, List.getElem?_map, List.getElem?_eq_getElem hj', Option.map_some] at this
        rw [if_pos (by omega)] at this
        exact this
      obtain ⟨y, hy, hyr⟩ := h3 _ _ hcsj
      rw [hyr.int_inv] at hy
      have : w.cell? ⟨cb', base' + o + j, none⟩ = some (.int .i64 zs[j]) := by
        rw [cell_at h2, Nat.add_assoc]
        exact hy
      rw [this]
      simp [hj']
    subst hca
    have hcall := hc cb' (base' + o) cap' zs w hholds (lt_of_getA h2) (by omega)
    rw [hzl] at hcall
    refine hcall.mono fun en w' ⟨he, m, os, hw'⟩ => ⟨_, he, ⟨ρ, ?_⟩, ?_⟩
    · have a1 := kept_step hrel (kept_ahead w m)
      obtain ⟨s1, s2, s3, _⟩ := storeL_sound a1.1 hs h1 (hL (sorted zs))
      have hput : Sort.putRow (Value.int .i64) (Sort.ahead w m) cb' (base' + o) (zs.mergeSort fun x y => decide (x ≤ y)).toArray = (Sort.ahead w m).setCells cb' (base' + o) ((sorted zs).map (Value.int .i64)) :=
        putRow_set (w := Sort.ahead w m) (e := t) (fz := fz) (carr := carr) (d := sorted zs) h2 (by rw [hsl]; omega)
      rw [hput] at hw'
      have a2 := kept_step s1 (kept_grow _ os)
      rw [← hw'] at a2
      refine ⟨a2.1, (a1.2.trans s2).trans ?_, .same _ rfl⟩
      have := a2.2
      rwa [s3] at this
    · rw [k3]; exact Nat.le_refl _
  · intro args H v H' e h
    unfold gSort at h
    split at h
    case h_2 => simp at h
    split at h
    case h_2 => simp at h
    rw [ite_some] at h
    obtain ⟨_, h⟩ := h
    split at h
    case h_2 => simp at h
    obtain ⟨s, hs, h⟩ := Option.map_eq_some_iff.1 h
    simp only [Prod.mk.injEq] at h
    obtain ⟨rfl, rfl, rfl⟩ := h
    obtain ⟨u1, _, u3⟩ := storeL_up hs
    exact ⟨u1, u3⟩
end Go.Am

end
