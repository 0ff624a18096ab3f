/- Maps, by lists of what was laid into them. -/
import Derived.Test.YtfinilnkempofaaAm25
set_option linter.all false
set_option linter.unusedVariables false
set_option linter.unusedSimpArgs false
set_option linter.unnecessarySimpa false
namespace Go.Am

/-- entries in the order in which they were laid in -/
def entries {α : Type} (K V : α → Value) : Nat → List α → List MapEntry
  | _, [] => []
  | b, x :: xs => { key := K x, val := V x, born := b } :: entries K V (b + 1) xs

section
variable {P : Program} {α : Type} {K V : α → Value}

theorem entries_snoc : ∀ (b : Nat) (xs : List α) (x : α), entries K V b (xs ++ [x]) = entries K V b xs ++ [{ key := K x, val := V x, born := b + xs.length }]
  | b, [], x => by simp [entries]
  | b, y :: ys, x => by
    simp only [List.cons_append, entries, entries_snoc (b + 1) ys x, List.length_cons]
    rw [show b + 1 + ys.length = b + (ys.length + 1) by omega]

theorem entries_len : ∀ (b : Nat) (xs : List α), (entries K V b xs).length = xs.length
  | _, [] => rfl
  | b, _ :: xs => by simp [entries, entries_len (b + 1) xs]

theorem entries_get : ∀ (b : Nat) (xs : List α) (i : Nat), (entries K V b xs)[i]? = (xs[i]?).map fun x => { key := K x, val := V x, born := b + i }
  | _, [], i => by simp [entries]
  | b, x :: xs, 0 => by simp [entries]
  | b, x :: xs, i + 1 => by
    simp only [entries, List.getElem?_cons_succ, entries_get (b + 1) xs i]
    rw [show b + 1 + i = b + (i + 1) by omega]

theorem entries_keys {kt : TypeId} {kc : α → List Value} : ∀ (b : Nat) (xs : List α), (∀ x ∈ xs, K x = argV P kt (kc x)) → (∀ x ∈ xs, TOk P kt (kc x)) → Keys P kt (entries K V b xs) (xs.map kc)
  | _, [], _, _ => .nil
  | b, x :: xs, h1, h2 => by
    have ih := entries_keys (kt := kt) (kc := kc) (b + 1) xs (fun y hy => h1 y (by simp [hy])) (fun y hy => h2 y (by simp [hy]))
    refine ⟨?_, fun k hk => ?_⟩
    · simp only [entries, List.map_cons, ih.keys, h1 x (by simp)]
    · simp only [List.map_cons, List.mem_cons] at hk
      rcases hk with rfl | hk
      · exact h2 x (by simp)
      · exact ih.ok k hk

theorem entries_refs (hv : ∀ x, vrefs (V x) = []) (hk : ∀ x, vrefs (K x) = []) : ∀ (b : Nat) (xs : List α), ((entries K V b xs).flatMap fun e => vrefs e.key ++ vrefs e.val) = []
  | _, [] => rfl
  | b, x :: xs => by simp [entries, hv x, hk x, entries_refs hv hk (b + 1) xs]

theorem entries_ren {σ : Nat → Nat} (hv : ∀ x, vrefs (V x) = []) (hk : ∀ x, vrefs (K x) = []) : ∀ (b : Nat) (xs : List α), ((entries K V b xs).map fun e => { key := vren σ e.key, val := vren σ e.val, born := e.born : MapEntry }) = entries K V b xs
  | _, [] => rfl
  | b, x :: xs => by simp [entries, vren_none (hv x), vren_none (hk x), entries_ren hv hk (b + 1) xs]

theorem TOk.struct' {t : TypeId} {fs : Array Field} {ts : List TypeId} {ps : List (List Value)} (hu : P.underlying t = some (.struct fs)) (ht : fs.toList.map (·.type) = ts) (h : TOks P ts ps) : TOk P t ps.flatten := by
  obtain ⟨h1, h2⟩ := h.get
  refine .struct ps hu (by rw [h1, ← ht]; simp) (fun i f p hf hp => h2 i f.type p ?_ hp)
  rw [← ht, List.getElem?_map]
  have : fs.toList[i]? = some f := by simpa using hf
  rw [this]; rfl

/-- what is there for a key -/
theorem look_ent {t kt et : TypeId} {z : Value} (ht : P.underlying t = some (.map kt et)) (hz : zeroP P et = some z) (hpz : plain z = true) (hf : flatT P 12 kt = true) {st : AS} {r c : Nat} {xs : List α} {kc : α → List Value}
    (hK : ∀ x ∈ xs, K x = argV P kt (kc x)) (hT : ∀ x ∈ xs, TOk P kt (kc x)) (hr : st.H[r]? = some (.map (entries K V 0 xs) c)) {q : List Value} (hq : TOk P kt q) {p : α → Bool} (hp : ∀ x ∈ xs, p x = true ↔ kc x = q) :
    aLookup P t (.map (some r)) (argV P kt q) true st = some (match xs.find? p with | some x => .tuple #[V x, .bool true] | none => .tuple #[z, .bool false]) := by
  classical
  rw [lookup_flat ht hz hpz hf hr (entries_keys 0 xs hK hT) hq true]
  rw [List.findIdx?_map]
  have : ((fun k => decide (k = q)) ∘ kc) = fun x => decide (kc x = q) := rfl
  rw [this]
  clear hK hT hr this
  have key : ∀ (ys : List α) (b : Nat), (∀ x ∈ ys, p x = true ↔ kc x = q) → (match ys.findIdx? fun x => decide (kc x = q) with
      | some i => ((entries K V b ys)[i]?).map fun e => if true = true then Value.tuple #[e.val, .bool true] else e.val
      | none => some (if true = true then .tuple #[z, .bool false] else z)) = some (match ys.find? p with | some x => .tuple #[V x, .bool true] | none => .tuple #[z, .bool false]) := by
    intro ys
    induction ys with
    | nil => intro b _; rfl
    | cons y ys ih =>
      intro b hp
      by_cases hy : kc y = q
      · have hpy := (hp y (by simp)).2 hy
        simp [List.findIdx?_cons, hy, entries, hpy]
      · have hpy : p y = false := by
          cases h : p y with
          | false => rfl
          | true => exact absurd ((hp y (by simp)).1 h) hy
        have := ih (b + 1) (fun x hx => hp x (by simp [hx]))
        simp only [List.findIdx?_cons, List.find?_cons, hy, decide_false, hpy]
        cases hi : ys.findIdx? fun x => decide (kc x = q) with
        | none =>
          rw [hi] at this
          simpa using this
        | some i =>
          rw [hi] at this
          simpa [entries] using this
  exact key xs 0 hp

/-- a new key is laid in -/
theorem upd_ent {t kt et : TypeId} (ht : P.underlying t = some (.map kt et)) (hf : flatT P 12 kt = true) {st : AS} {r : Nat} {xs : List α} {kc : α → List Value}
    (hK : ∀ x ∈ xs, K x = argV P kt (kc x)) (hT : ∀ x ∈ xs, TOk P kt (kc x)) (hr : st.H[r]? = some (.map (entries K V 0 xs) xs.length)) {x : α} {q : List Value} {v : Value} (hx : K x = argV P kt q) (hv : V x = v) (hq : TOk P kt q) (hn : ∀ y ∈ xs, kc y ≠ q) :
    aMapUpdate P t (.map (some r)) (argV P kt q) v st = some ⟨st.H.set r (.map (entries K V 0 (xs ++ [x])) (xs.length + 1)), escOf st.esc r (vrefs v)⟩ := by
  subst hv
  rw [update_new ht hf hr (entries_keys 0 xs hK hT) hq (fun hm => by
    obtain ⟨y, hy, he⟩ := List.mem_map.1 hm
    exact hn y hy he) (V x)]
  rw [entries_snoc, hx, Nat.zero_add]

end
end Go.Am
