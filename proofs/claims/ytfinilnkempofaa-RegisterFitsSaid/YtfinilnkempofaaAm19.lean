/- Laws by which the printed forms are reckoned: loops, blocks behind others, what is struck. -/
import Derived.Test.YtfinilnkempofaaAm18
set_option linter.all false
set_option linter.unusedVariables false
set_option linter.unusedSimpArgs false
set_option linter.unnecessarySimpa false
namespace Go.Am

section
variable {P : Program}

/-! ### Loops -/

theorem rounds_unique {σ ρ : Type} {step : σ → Option (σ ⊕ ρ)} {n m : Nat} {s : σ} {a b : ρ} (h : rounds step n s = some a) (h' : rounds step m s = some b) : a = b := by
  rcases Nat.le_total n m with hl | hl
  · have := rounds_le h hl; rw [this] at h'; simpa using h'
  · have := rounds_le h' hl; rw [this] at h; simpa using h.symm

theorem loopW_eq {σ ρ : Type} (step : σ → Option (σ ⊕ ρ)) (s : σ) : loopW step s = (step s).bind fun x => match x with | .inl s' => loopW step s' | .inr r => some r := by
  cases hs : step s with
  | none =>
    unfold loopW
    rw [dif_neg]
    · rfl
    · rintro ⟨n, r, h⟩
      cases n with
      | zero => simp [rounds] at h
      | succ n => simp [rounds, hs] at h
  | some x =>
    cases x with
    | inr r => exact loopW_all step 1 s r (by simp [rounds, hs])
    | inl s' =>
      simp only [Option.bind_some]
      by_cases h : ∃ n r, rounds step n s' = some r
      · obtain ⟨n, r, h⟩ := h
        rw [loopW_all step n s' r h]
        exact loopW_all step (n + 1) s r (by simp [rounds, hs, h])
      · have h2 : ¬ ∃ n r, rounds step n s = some r := by
          rintro ⟨n, r, h3⟩
          cases n with
          | zero => simp [rounds] at h3
          | succ n => simp [rounds, hs] at h3; exact h ⟨n, r, h3⟩
        unfold loopW
        rw [dif_neg h, dif_neg h2]

/-- one round of a loop -/
theorem loopG_eq (n0 : Nat) (step : List Value × AS → Option ((List Value × AS) ⊕ (AEx × List Value × AS))) (vs : List Value) (st : AS) :
    loopG n0 step (vs, st) = (step (gc n0 vs st)).bind fun x => match x with | .inl s' => loopG n0 step s' | .inr r => some r := by
  show loopW (headed n0 step) (vs, st) = _
  rw [loopW_eq]
  show (step (gc n0 vs st)).bind _ = _
  congr 1
  funext x
  cases x <;> rfl

/-! ### What is struck -/

mutual
theorem vren_same {σ : Nat → Nat} : ∀ (v : Value), (∀ b ∈ vrefs v, σ b = b) → vren σ v = v
  | .bool _, _ | .int _ _, _ | .float _ _, _ | .string _, _ | .pointer none, _ | .slice none _ _, _ | .map none, _ | .nilFunc, _ | .nilIface, _ | .complex _ _ _, _ | .chan none, _ | .chan (some _), _ => rfl
  | .pointer (some a), h => by simp [vren, h a.block (by simp [vrefs])]
  | .slice (some a) l c, h => by simp [vren, h a.block (by simp [vrefs])]
  | .map (some r), h => by simp [vren, h r (by simp [vrefs])]
  | .func f ⟨a⟩ ⟨b⟩, h => by
    simp only [vren, aren]
    rw [lren_same a (fun x hx => h x (by simp [vrefs, arefs, hx])), lren_same b (fun x hx => h x (by simp [vrefs, arefs, hx]))]
  | .iface t v, h => by simp only [vren]; rw [vren_same v (fun b hb => h b (by simpa [vrefs] using hb))]
  | .agg ⟨l⟩, h => by simp only [vren, aren]; rw [lren_same l (fun b hb => h b (by simpa [vrefs, arefs] using hb))]
  | .tuple ⟨l⟩, h => by simp only [vren, aren]; rw [lren_same l (fun b hb => h b (by simpa [vrefs, arefs] using hb))]
theorem lren_same {σ : Nat → Nat} : ∀ (l : List Value), (∀ b ∈ lrefs l, σ b = b) → lren σ l = l
  | [], _ => rfl
  | v :: vs, h => by
    simp only [lren]
    rw [vren_same v (fun b hb => h b (by simp [lrefs, hb])), lren_same vs (fun b hb => h b (by simp [lrefs, hb]))]
end

theorem reach_low (H : List Blk) (n : Nat) : ∀ (fuel : Nat) (l acc : List Nat), (∀ r ∈ l, r < n) → reach H n fuel l acc = acc
  | 0, _, _, _ => rfl
  | _ + 1, [], _, _ => rfl
  | fuel + 1, r :: rs, acc, h => by
    simp only [reach, h r (by simp), if_true]
    exact reach_low H n fuel rs acc (fun x hx => h x (by simp [hx]))

/-- nothing new is led to: all new blocks are struck -/
theorem gc_low {n : Nat} {vs : List Value} {H : List Blk} (hl : ∀ r ∈ lrefs vs, r < n) (hn : n ≤ H.length) : gc n vs ⟨H, none⟩ = (vs, ⟨H.take n, none⟩) := by
  unfold gc
  simp only [escOk, if_true]
  rw [reach_low H n _ _ _ hl]
  have h1 : closed n [] (lrefs vs) = true := by
    unfold closed
    rw [List.all_eq_true]
    intro r hr
    simp [hl r hr]
  simp only [h1, List.map_nil, List.all_nil, true_and, hn, if_true, List.append_nil]
  rw [lren_same vs (fun b hb => by simp [renum, hl b hb])]

/-- the same, where the blocks stand behind older ones -/
theorem gc_none {vs : List Value} {H l : List Blk} (hl : lrefs vs = []) : gc H.length vs ⟨H ++ l, none⟩ = (vs, ⟨H, none⟩) := by
  rw [gc_low (by simp [hl]) (by simp)]
  simp

theorem gc_nil {vs : List Value} {H : List Blk} (hl : lrefs vs = []) : gc H.length vs ⟨H, none⟩ = (vs, ⟨H, none⟩) := by
  rw [gc_low (by simp [hl]) (by simp)]
  simp

theorem gc_old {vs : List Value} {H l : List Blk} (hl : ∀ r ∈ lrefs vs, r < H.length) : gc H.length vs ⟨H ++ l, none⟩ = (vs, ⟨H, none⟩) := by
  rw [gc_low hl (by simp)]
  simp

/-! ### References -/

@[simp] theorem lrefs_nil : lrefs [] = [] := rfl
@[simp] theorem lrefs_cons (v : Value) (l : List Value) : lrefs (v :: l) = vrefs v ++ lrefs l := rfl
@[simp] theorem lrefs_app (a b : List Value) : lrefs (a ++ b) = lrefs a ++ lrefs b := by
  induction a with
  | nil => rfl
  | cons x xs ih => simp [ih]
@[simp] theorem vrefs_bool (b : Bool) : vrefs (.bool b) = [] := rfl
@[simp] theorem vrefs_int (k : IntKind) (n : Int) : vrefs (.int k n) = [] := rfl
@[simp] theorem vrefs_string (b : ByteArray) : vrefs (.string b) = [] := rfl
@[simp] theorem vrefs_ptr (a : Addr) : vrefs (.pointer (some a)) = [a.block] := rfl
@[simp] theorem vrefs_ptr0 : vrefs (.pointer none) = [] := rfl
@[simp] theorem vrefs_slice (a : Addr) (n c : Nat) : vrefs (.slice (some a) n c) = [a.block] := rfl
@[simp] theorem vrefs_slice0 (n c : Nat) : vrefs (.slice none n c) = [] := rfl
@[simp] theorem vrefs_map (r : Nat) : vrefs (.map (some r)) = [r] := rfl
@[simp] theorem vrefs_agg (l : List Value) : vrefs (.agg l.toArray) = lrefs l := rfl
@[simp] theorem vrefs_tuple (l : List Value) : vrefs (.tuple l.toArray) = lrefs l := rfl
@[simp] theorem vrefs_tSl (n : Nat) (l : List Value) : vrefs (tSl n l) = lrefs l := rfl
@[simp] theorem vrefs_tPtr (n : Nat) (l : List Value) : vrefs (tPtr n l.toArray) = lrefs l := rfl
@[simp] theorem vrefs_unk : vrefs unk = [] := rfl
@[simp] theorem vrefs_undef : vrefs undef = [] := rfl
@[simp] theorem vrefs_func (f : Fn) (a b : List Value) : vrefs (.func f a.toArray b.toArray) = lrefs a ++ lrefs b := rfl

end
end Go.Am
