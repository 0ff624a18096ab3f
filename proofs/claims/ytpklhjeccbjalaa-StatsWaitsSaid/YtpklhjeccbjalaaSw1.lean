/- A part of the proof: Sw1, Sw2, Sw3, Sw4, Sw5, Sw6, Sw7, Sw8, Sw9, Sw10, Sw11, Sw12, Sw13, Sw14, Sw15. Its conditions: none. -/
import Derived.Test.YtpklhjeccbjalaaStSh
import Derived.Test.YtpklhjeccbjalaaStOps
import Derived.Test.YtpklhjeccbjalaaAm23
import Derived.Test.YtpklhjeccbjalaaAm32
set_option linter.all false
set_option linter.unusedVariables false
set_option linter.unusedSimpArgs false
set_option linter.unnecessarySimpa false
section
namespace Go.Proofs.Ytpklhjeccbjalaa
open Go Go.Am


/-- an event -/
structure Ev where
  kind : Int
  who : Int
  ticket : Int
  rk : Int
  off : Int
  len : Int
  rd : List Int
  d : List Int

def byt (l : List Int) : List Value := l.map (Value.int .u8)
def evc (x : Ev) : List Value := [.int .i64 x.kind, .int .i64 x.who, .int .i64 x.ticket, .int .i64 x.rk, .int .i64 x.off, .int .i64 x.len, tSl x.rd.length (byt x.rd), tSl x.d.length (byt x.d)]
def evs (l : List Ev) : List (List Value) := l.map evc
/-- the events' row -/
def evR (l : List Ev) : List Value := (evs l).flatten

def isI (n : Int) : Prop := -9223372036854775808 ≤ n ∧ n < 9223372036854775808
def OkB (l : List Int) : Prop := l.length < 1000000 ∧ ∀ b ∈ l, 0 ≤ b ∧ b < 256
structure OkEv (x : Ev) : Prop where
  kind : isI x.kind
  who : isI x.who
  ticket : isI x.ticket
  rk : isI x.rk
  off : isI x.off
  len : isI x.len
  rd : OkB x.rd
  d : OkB x.d
def OkEvs (l : List Ev) : Prop := ∀ x ∈ l, OkEv x

theorem byt_refs (l : List Int) : lrefs (byt l) = [] := by
  induction l with
  | nil => rfl
  | cons x xs ih => simpa [byt] using ih
theorem byt_len (l : List Int) : (byt l).length = l.length := by simp [byt]
theorem evc_refs (x : Ev) : lrefs (evc x) = [] := by simp [evc, byt_refs]
theorem evc_len (x : Ev) : (evc x).length = 8 := by simp [evc]
theorem evc_cells (x : Ev) : allCells (evc x) = true := by simp [evc]
theorem evc_flat (x : Ev) : (evc x).all noSl = true := by simp [evc, noSl, tSl]
theorem evs_rows (l : List Ev) : RowsOf 8 (evs l) := by
  have key : ∀ r ∈ evs l, ∃ x, r = evc x := fun r hr => by
    obtain ⟨x, _, rfl⟩ := List.mem_map.1 hr
    exact ⟨x, rfl⟩
  refine ⟨fun r hr => ?_, fun r hr => ?_, fun r hr => ?_, fun r hr => ?_⟩ <;> obtain ⟨x, rfl⟩ := key r hr
  · rfl
  · exact evc_refs x
  · rfl
  · rfl
theorem evR_refs (l : List Ev) : lrefs (evR l) = [] := (evs_rows l).frefs
theorem evs_get {l : List Ev} {k : Nat} {x : Ev} (h : l[k]? = some x) : (evs l)[k]? = some (evc x) := by simp [evs, h]
theorem evs_len (l : List Ev) : (evs l).length = l.length := by simp [evs]

/-- the names of both worlds' events -/
theorem ix_ref {l : List Ev} {k : Nat} (hk : k < l.length) : aIndexAddr PP t_L_twainref34_Event (tSl l.length (evR l)) (.int .i64 (k : Int)) = some (tPtr (k * 8) (evR l).toArray) := tsl_index u_L_twainref34_Event sz_twainref34_Event hk
theorem ix_wld {l : List Ev} {k : Nat} (hk : k < l.length) : aIndexAddr PP t_L_world_Event (tSl l.length (evR l)) (.int .i64 (k : Int)) = some (tPtr (k * 8) (evR l).toArray) := tsl_index u_L_world_Event sz_world_Event hk
theorem ln_ref (l : List Ev) (st : AS) : aLen PP t_L_twainref34_Event (tSl l.length (evR l)) st = some (.int .i64 l.length) := tsl_len u_L_twainref34_Event
theorem ln_wld (l : List Ev) (st : AS) : aLen PP t_L_world_Event (tSl l.length (evR l)) st = some (.int .i64 l.length) := tsl_len u_L_world_Event
section
variable {l : List Ev} {k : Nat} {x : Ev} (h : l[k]? = some x) (st : AS)
include h
theorem ev_load : aLoad true 8 st (tPtr (k * 8) (evR l).toArray) = some (.agg (evc x).toArray) := tptr_load (evs_rows l) (evs_get h)
theorem ev_kind : aLoad false 1 st (tPtr (k * 8) (evR l).toArray) = some (.int .i64 x.kind) := tptr_get (off := 0) (evs_rows l) (evs_get h) rfl
theorem ev_who : aLoad false 1 st (tPtr (k * 8 + 1) (evR l).toArray) = some (.int .i64 x.who) := tptr_get (evs_rows l) (evs_get h) rfl
theorem ev_ticket : aLoad false 1 st (tPtr (k * 8 + 2) (evR l).toArray) = some (.int .i64 x.ticket) := tptr_get (evs_rows l) (evs_get h) rfl
theorem ev_d : aLoad false 1 st (tPtr (k * 8 + 7) (evR l).toArray) = some (tSl x.d.length (byt x.d)) := tptr_get (evs_rows l) (evs_get h) rfl
end

theorem wrap_in {n : Int} (h : isI n) : IntKind.i64.wrap n = n := by
  unfold isI at h; rw [IntKind.wrap_i64]; omega
theorem wrap_nat {n : Nat} (h : n < 9223372036854775808) : IntKind.i64.wrap (n : Int) = (n : Int) := wrap_in ⟨by omega, by omega⟩
theorem wrap_succ {n : Nat} (h : n < 4611686018427387904) : IntKind.i64.wrap ((n : Int) + 1) = ((n + 1 : Nat) : Int) := by
  rw [wrap_in ⟨by omega, by omega⟩]; omega


end Go.Proofs.Ytpklhjeccbjalaa

end
section
namespace Go.Proofs.Ytpklhjeccbjalaa
open Go Go.Am


/-- is x the asking of y? -/
def asksB (x y : Ev) : Bool := decide (x.kind = 0) && decide (x.who = y.who) && decide (x.ticket = y.ticket)
/-- the first asking of y among the first events -/
def askedI (l : List Ev) (at_ : Nat) : Int := match l[at_]? with
  | some y => match (l.take at_).findIdx? fun x => asksB x y with
    | some i => (i : Int)
    | none => -1
  | none => -1

theorem findIdx_take {α : Type} (p : α → Bool) : ∀ (l : List α) (n i : Nat), (∀ j x, j < i → l[j]? = some x → p x = false) → (∀ x, l[i]? = some x → p x = true) → i < n → i < l.length → (l.take n).findIdx? p = some i
  | [], n, i, h, hp, hi, hl => by simp at hl
  | x :: xs, 0, i, h, hp, hi, hl => by omega
  | x :: xs, n + 1, 0, h, hp, hi, hl => by simp [List.findIdx?_cons, hp x rfl]
  | x :: xs, n + 1, i + 1, h, hp, hi, hl => by
    have hx := h 0 x (by omega) rfl
    have ih := findIdx_take p xs n i (fun j y hj hy => h (j + 1) y (by omega) (by simpa using hy)) (fun y hy => hp y (by simpa using hy)) (by omega) (by simpa using hl)
    simp [List.findIdx?_cons, hx, ih]

theorem findIdx_none {α : Type} (p : α → Bool) (l : List α) (n : Nat) (h : ∀ j x, j < n → l[j]? = some x → p x = false) : (l.take n).findIdx? p = none := by
  rw [List.findIdx?_eq_none_iff]
  intro x hx
  obtain ⟨j, hj⟩ := List.getElem?_of_mem hx
  rw [List.getElem?_take] at hj
  split at hj
  · rename_i hjn
    simpa using h j x hjn hj
  · simp at hj

section
variable {l : List Ev}

theorem asked_ok (hl : OkEvs l) (hm : l.length < 1000000) {at_ : Nat} (hat : at_ < l.length) (H : List Blk) : acall PP TT n_twainref36_asked [tSl l.length (evR l), .int .i64 at_] H = some (.int .i64 (askedI l at_), H, none) := by
  obtain ⟨y, hy⟩ : ∃ y, l[at_]? = some y := ⟨_, List.getElem?_eq_getElem hat⟩
  have hixa := ix_ref hat
  obtain ⟨r, hlp, hr⟩ := loop_rule (n0 := H.length) (step := twainref36_asked.loop2s (acall PP TT) loopG H.length) (len := at_) (σ := Unit) (fun i _ => ([tSl l.length (evR l), .int .i64 at_, .int .i64 i], ⟨H, none⟩))
    (fun i _ => ∀ j x, j < i → l[j]? = some x → asksB x y = false)
    (fun r => (r = (.exit 0, [unk], ⟨H, none⟩) ∧ askedI l at_ = -1) ∨ r = (.ret, [.int .i64 (askedI l at_)], ⟨H, none⟩))
    (fun i _ hi ho => by
      have hil : i < l.length := by omega
      obtain ⟨x, hx⟩ : ∃ x, l[i]? = some x := ⟨_, List.getElem?_eq_getElem hil⟩
      have hi' : ((i : Int) < (at_ : Int)) := by omega
      have hix := ix_ref hil
      have hw := wrap_succ (n := i) (by omega)
      have e1 := ev_kind hx ⟨H, none⟩
      have e2 := ev_who hx ⟨H, none⟩
      have e3 := ev_ticket hx ⟨H, none⟩
      have e4 := ev_who hy ⟨H, none⟩
      have e5 := ev_ticket hy ⟨H, none⟩
      cases hb : asksB x y with
      | true =>
        have hfound : askedI l at_ = (i : Int) := by
          unfold askedI
          rw [hy]
          simp only [findIdx_take (fun x => asksB x y) l at_ i ho (fun z hz => by rw [hx] at hz; simp at hz; subst hz; exact hb) hi hil]
        refine .inl ⟨_, ?_, .inr rfl⟩
        simp only [asksB, Bool.and_eq_true, decide_eq_true_eq] at hb
        obtain ⟨⟨h1, h2⟩, h3⟩ := hb
        simp only [twainref36_asked.loop2s, twainref36_asked.loop2, twainref36_asked.j1, mach, Nat.reduceAdd, Nat.reduceLeDiff, Int.reduceEq, Int.reduceLT, Int.reduceLE, hi', hix, hixa, ft_twainref34_Event_0, ft_twainref34_Event_1, ft_twainref34_Event_2, e1, e2, e3, e4, e5, h1, h2, h3, hfound]
      | false =>
        refine .inr ⟨([tSl l.length (evR l), .int .i64 at_, .int .i64 ((i + 1 : Nat) : Int)], ⟨H, none⟩), (), ?_, gc_nil (by simp [evR_refs]), fun j z hj hz => ?_⟩
        · have hcase : x.kind ≠ 0 ∨ (x.kind = 0 ∧ x.who ≠ y.who) ∨ (x.kind = 0 ∧ x.who = y.who ∧ x.ticket ≠ y.ticket) := by
            simp only [asksB, Bool.and_eq_false_iff, decide_eq_false_iff_not] at hb
            by_cases h1 : x.kind = 0 <;> by_cases h2 : x.who = y.who <;> simp_all
          rcases hcase with h1 | ⟨h1, h2⟩ | ⟨h1, h2, h3⟩
          · simp only [twainref36_asked.loop2s, twainref36_asked.loop2, twainref36_asked.j1, twainref36_asked.j2, mach, Nat.reduceAdd, Nat.reduceLeDiff, Int.reduceEq, Int.reduceLT, Int.reduceLE, hi', hix, hixa, ft_twainref34_Event_0, ft_twainref34_Event_1, ft_twainref34_Event_2, e1, e2, e3, e4, e5, h1, hw]
          · simp only [twainref36_asked.loop2s, twainref36_asked.loop2, twainref36_asked.j1, twainref36_asked.j2, mach, Nat.reduceAdd, Nat.reduceLeDiff, Int.reduceEq, Int.reduceLT, Int.reduceLE, hi', hix, hixa, ft_twainref34_Event_0, ft_twainref34_Event_1, ft_twainref34_Event_2, e1, e2, e3, e4, e5, h1, h2, hw]
          · simp only [twainref36_asked.loop2s, twainref36_asked.loop2, twainref36_asked.j1, twainref36_asked.j2, mach, Nat.reduceAdd, Nat.reduceLeDiff, Int.reduceEq, Int.reduceLT, Int.reduceLE, hi', hix, hixa, ft_twainref34_Event_0, ft_twainref34_Event_1, ft_twainref34_Event_2, e1, e2, e3, e4, e5, h1, h2, h3, hw]
        · by_cases hji : j = i
          · subst hji; rw [hx] at hz; simp at hz; subst hz; exact hb
          · exact ho j z (by omega) hz)
    (fun _ ho => ⟨_, by simp only [twainref36_asked.loop2s, twainref36_asked.loop2, mach, Nat.reduceAdd, Nat.reduceLeDiff, Int.reduceEq, Int.reduceLT, Int.reduceLE, Int.lt_irrefl], .inl ⟨rfl, by
      unfold askedI
      rw [hy]
      simp only [findIdx_none (fun x => asksB x y) l at_ ho]⟩⟩)
    at_ 0 () ([tSl l.length (evR l), .int .i64 at_, .int .i64 0], ⟨H, none⟩) (by omega) (fun j x hj => by omega) (gc_nil (by simp [evR_refs]))
  rw [acall_eq, twainref36_asked.eq]
  rcases hr with ⟨rfl, h⟩ | rfl
  · simp only [twainref36_asked.sh, hlp, mach, Nat.reduceAdd, Nat.reduceLeDiff, Int.reduceEq, Int.reduceLT, Int.reduceLE, twainref36_asked.j4, h]
    exact fin_lit0 rfl rfl
  · simp only [twainref36_asked.sh, hlp, mach, Nat.reduceAdd, Nat.reduceLeDiff, Int.reduceEq, Int.reduceLT, Int.reduceLE]
    exact fin_lit0 rfl rfl

end


/-- the first of some numbers, so many of them, that is so; -1: none -/
def firstN (p : Nat → Bool) : Nat → Nat → Int
  | _, 0 => -1
  | i, k + 1 => if p i = true then (i : Int) else firstN p (i + 1) k

theorem firstN_hit {p : Nat → Bool} : ∀ (k i m : Nat), (∀ j, i ≤ j → j < m → p j = false) → p m = true → i ≤ m → m < i + k → firstN p i k = (m : Int)
  | 0, i, m, _, _, h1, h2 => by omega
  | k + 1, i, m, h, hm, h1, h2 => by
    simp only [firstN]
    by_cases he : i = m
    · subst he; rw [if_pos hm]
    · rw [h i (Nat.le_refl _) (by omega)]
      simp only [Bool.false_eq_true, if_false]
      exact firstN_hit k (i + 1) m (fun j h3 h4 => h j (by omega) h4) hm (by omega) (by omega)

theorem firstN_none {p : Nat → Bool} : ∀ (k i : Nat), (∀ j, i ≤ j → j < i + k → p j = false) → firstN p i k = -1
  | 0, i, _ => rfl
  | k + 1, i, h => by
    simp only [firstN, h i (Nat.le_refl _) (by omega), Bool.false_eq_true, if_false]
    exact firstN_none k (i + 1) (fun j h3 h4 => h j (by omega) (by omega))

theorem firstN_spec {p : Nat → Bool} : ∀ (k i : Nat), (firstN p i k = -1 ∧ ∀ j, i ≤ j → j < i + k → p j = false) ∨ ∃ m : Nat, firstN p i k = (m : Int) ∧ i ≤ m ∧ m < i + k ∧ p m = true ∧ ∀ j, i ≤ j → j < m → p j = false
  | 0, i => .inl ⟨rfl, fun j h1 h2 => by omega⟩
  | k + 1, i => by
    cases hp : p i with
    | true => exact .inr ⟨i, by simp [firstN, hp], by omega, by omega, hp, fun j h1 h2 => by omega⟩
    | false =>
      have he : firstN p i (k + 1) = firstN p (i + 1) k := by simp [firstN, hp]
      rw [he]
      rcases firstN_spec (p := p) k (i + 1) with ⟨h1, h2⟩ | ⟨m, h1, h2, h3, h4, h5⟩
      · refine .inl ⟨h1, fun j h3 h4 => ?_⟩
        by_cases hj : j = i
        · subst hj; exact hp
        · exact h2 j (by omega) (by omega)
      · refine .inr ⟨m, h1, by omega, by omega, h4, fun j h6 h7 => ?_⟩
        by_cases hj : j = i
        · subst hj; exact hp
        · exact h5 j (by omega) h7

/-- is event i an end of what was asked at a place? -/
def endsB (l : List Ev) (from_ i : Nat) : Bool := match l[i]? with
  | some x => decide (x.kind = 1) && decide (askedI l i = (from_ : Int))
  | none => false
def endedI (l : List Ev) (from_ : Nat) : Int := firstN (endsB l from_) (from_ + 1) (l.length - (from_ + 1))

section
variable {l : List Ev}

theorem askedI_isI (hm : l.length < 1000000) (k : Nat) : isI (askedI l k) ∧ askedI l k < (l.length : Int) := by
  unfold askedI isI
  split
  · rename_i y hy
    split
    · rename_i i hi
      have := List.findIdx?_eq_some_iff_findIdx_eq.1 hi
      have h2 := this.1
      simp at h2
      omega
    · omega
  · omega

theorem ended_ok (hl : OkEvs l) (hm : l.length < 1000000) {from_ : Nat} (hf : from_ < l.length) (H : List Blk) : acall PP TT n_twainref36_ended [tSl l.length (evR l), .int .i64 from_] H = some (.int .i64 (endedI l from_), H, none) := by
  have hw0 := wrap_succ (n := from_) (by omega)
  obtain ⟨r, hlp, hr⟩ := loop_rule (n0 := H.length) (step := twainref36_ended.loop2s (acall PP TT) loopG H.length) (len := l.length) (σ := Unit) (fun i _ => ([tSl l.length (evR l), .int .i64 from_, .int .i64 i], ⟨H, none⟩))
    (fun i _ => from_ + 1 ≤ i ∧ ∀ j, from_ + 1 ≤ j → j < i → endsB l from_ j = false)
    (fun r => (r = (.exit 0, [unk], ⟨H, none⟩) ∧ endedI l from_ = -1) ∨ r = (.ret, [.int .i64 (endedI l from_)], ⟨H, none⟩))
    (fun i _ hi ho => by
      obtain ⟨x, hx⟩ : ∃ x, l[i]? = some x := ⟨_, List.getElem?_eq_getElem hi⟩
      have hi' : ((i : Int) < (l.length : Int)) := by omega
      have hix := ix_ref hi
      have hw := wrap_succ (n := i) (by omega)
      have hln := ln_ref l ⟨H, none⟩
      have e1 := ev_kind hx ⟨H, none⟩
      have hak := asked_ok hl hm hi H
      cases hb : endsB l from_ i with
      | true =>
        have hfound : endedI l from_ = (i : Int) := firstN_hit _ _ _ ho.2 hb ho.1 (by omega)
        refine .inl ⟨_, ?_, .inr rfl⟩
        simp only [endsB, hx, Bool.and_eq_true, decide_eq_true_eq] at hb
        obtain ⟨h1, h2⟩ := hb
        simp only [twainref36_ended.loop2s, twainref36_ended.loop2, twainref36_ended.j1, mach, Nat.reduceAdd, Nat.reduceLeDiff, Int.reduceEq, Int.reduceLT, Int.reduceLE, hi', hix, hln, ft_twainref34_Event_0, e1, h1, hak, h2, hfound]
      | false =>
        refine .inr ⟨([tSl l.length (evR l), .int .i64 from_, .int .i64 ((i + 1 : Nat) : Int)], ⟨H, none⟩), (), ?_, gc_nil (by simp [evR_refs]), by omega, fun j h1 h2 => ?_⟩
        · simp only [endsB, hx, Bool.and_eq_false_iff, decide_eq_false_iff_not] at hb
          by_cases h1 : x.kind = 1
          · have h2 : ¬ askedI l i = (from_ : Int) := by
              rcases hb with hb | hb
              · exact absurd h1 hb
              · exact hb
            simp only [twainref36_ended.loop2s, twainref36_ended.loop2, twainref36_ended.j1, twainref36_ended.j2, mach, Nat.reduceAdd, Nat.reduceLeDiff, Int.reduceEq, Int.reduceLT, Int.reduceLE, hi', hix, hln, ft_twainref34_Event_0, e1, h1, hak, h2, hw]
          · simp only [twainref36_ended.loop2s, twainref36_ended.loop2, twainref36_ended.j1, twainref36_ended.j2, mach, Nat.reduceAdd, Nat.reduceLeDiff, Int.reduceEq, Int.reduceLT, Int.reduceLE, hi', hix, hln, ft_twainref34_Event_0, e1, h1, hw]
        · by_cases hji : j = i
          · subst hji; exact hb
          · exact ho.2 j h1 (by omega))
    (fun _ ho => ⟨_, by simp only [twainref36_ended.loop2s, twainref36_ended.loop2, mach, Nat.reduceAdd, Nat.reduceLeDiff, Int.reduceEq, Int.reduceLT, Int.reduceLE, ln_ref, Int.lt_irrefl], .inl ⟨rfl, firstN_none _ _ (fun j h1 h2 => ho.2 j h1 (by omega))⟩⟩)
    (l.length - (from_ + 1)) (from_ + 1) () ([tSl l.length (evR l), .int .i64 from_, .int .i64 ((from_ + 1 : Nat) : Int)], ⟨H, none⟩) (by omega) ⟨by omega, fun j h1 h2 => by omega⟩ (gc_nil (by simp [evR_refs]))
  rw [acall_eq, twainref36_ended.eq]
  rcases hr with ⟨rfl, h⟩ | rfl
  · simp only [twainref36_ended.sh, mach, Nat.reduceAdd, Nat.reduceLeDiff, Int.reduceEq, Int.reduceLT, Int.reduceLE, hw0, hlp, twainref36_ended.j4, h]
    exact fin_lit0 rfl rfl
  · simp only [twainref36_ended.sh, mach, Nat.reduceAdd, Nat.reduceLeDiff, Int.reduceEq, Int.reduceLT, Int.reduceLE, hw0, hlp]
    exact fin_lit0 rfl rfl


end

theorem ln_byt (b : List Int) (st : AS) : aLen PP t_L_uint8 (tSl b.length (byt b)) st = some (.int .i64 b.length) := tsl_len u_L_uint8

end Go.Proofs.Ytpklhjeccbjalaa

end
section
namespace Go.Proofs.Ytpklhjeccbjalaa
open Go Go.Am

/-! ### Keys -/

abbrev keyV (w t : Int) : Value := .agg [Value.int .i64 w, Value.int .i64 t].toArray
theorem bd_key (x y : Int) : aBuild PP t_stats_key [(0, .int .i64 x), (1, .int .i64 y)] = some (keyV x y) := by kernel_rfl


/-! ### Pairs -/

/-- what has been paired: the askings, the ends of some, and whether something was odd -/
structure PS where
  A : List ((Int × Int) × Nat)
  E : List (Nat × Nat)
  odd : Bool

def KA (p : (Int × Int) × Nat) : Value := keyV p.1.1 p.1.2
def VA (p : (Int × Int) × Nat) : Value := .int .i64 p.2
def KE (p : Nat × Nat) : Value := .int .i64 p.1
def VE (p : Nat × Nat) : Value := .int .i64 p.2
def lookA (A : List ((Int × Int) × Nat)) (w t : Int) : Option Nat := (A.find? fun p => decide (p.1 = (w, t))).map (·.2)
def lookE (E : List (Nat × Nat)) (n : Nat) : Option Nat := (E.find? fun p => decide (p.1 = n)).map (·.2)

def pstep (s : PS) (i : Nat) (x : Ev) : PS :=
  let f := lookA s.A x.who x.ticket
  if x.kind = 0 then
    match f with
    | some _ => { s with odd := true }
    | none => { s with A := s.A ++ [((x.who, x.ticket), i)] }
  else if x.kind = 1 then
    match f with
    | none => { s with odd := true }
    | some n => match lookE s.E n with
      | some _ => { s with odd := true }
      | none => { s with E := s.E ++ [(n, i)] }
  else s

def pairS (l : List Ev) : Nat → PS
  | 0 => ⟨[], [], false⟩
  | n + 1 => match l[n]? with
    | some x => pstep (pairS l n) n x
    | none => pairS l n

/-- what stands in it fits -/
structure OkPS (n : Nat) (s : PS) : Prop where
  a : ∀ p ∈ s.A, isI p.1.1 ∧ isI p.1.2 ∧ p.2 < n
  e : ∀ p ∈ s.E, p.1 < n ∧ p.2 < n

theorem lookA_mem {A : List ((Int × Int) × Nat)} {w t : Int} {n : Nat} (h : lookA A w t = some n) : ((w, t), n) ∈ A := by
  unfold lookA at h
  cases hf : A.find? fun p => decide (p.1 = (w, t)) with
  | none => rw [hf] at h; simp at h
  | some p =>
    rw [hf] at h
    simp at h
    have h1 := List.find?_some hf
    have h2 := List.mem_of_find?_eq_some hf
    simp only [decide_eq_true_eq] at h1
    obtain ⟨a, b⟩ := p
    simp only at h h1
    subst h h1
    exact h2

theorem OkPS.step {n : Nat} {s : PS} (h : OkPS n s) {x : Ev} (hx : OkEv x) : OkPS (n + 1) (pstep s n x) := by
  have up : OkPS (n + 1) s := ⟨fun p hp => by have := h.a p hp; exact ⟨this.1, this.2.1, by omega⟩, fun p hp => by have := h.e p hp; omega⟩
  unfold pstep
  dsimp only
  split
  · split
    · exact ⟨up.a, up.e⟩
    · refine ⟨fun p hp => ?_, up.e⟩
      rcases List.mem_append.1 hp with hp | hp
      · exact up.a p hp
      · simp at hp; subst hp; exact ⟨hx.who, hx.ticket, by simp⟩
  · split
    · split
      · exact ⟨up.a, up.e⟩
      · rename_i m hm
        split
        · exact ⟨up.a, up.e⟩
        · refine ⟨up.a, fun p hp => ?_⟩
          rcases List.mem_append.1 hp with hp | hp
          · exact up.e p hp
          · simp at hp; subst hp
            have := (h.a _ (lookA_mem hm)).2.2
            simp only at this ⊢
            omega
    · exact up

theorem pairS_ok {l : List Ev} (hl : OkEvs l) : ∀ n, n ≤ l.length → OkPS n (pairS l n)
  | 0, _ => ⟨fun p hp => by simp [pairS] at hp, fun p hp => by simp [pairS] at hp⟩
  | n + 1, h => by
    have ih := pairS_ok hl n (by omega)
    have hx : l[n]? = some l[n] := List.getElem?_eq_getElem (by omega)
    simp only [pairS, hx]
    exact ih.step (hl _ (List.mem_of_getElem? hx))

theorem flatKey : FlatAgg PP t_stats_key := ⟨by kernel_rfl, by kernel_rfl, by kernel_rfl⟩
theorem flatInt : flatT PP 12 t_int = true := by kernel_rfl
theorem i64_min : IntKind.i64.min = -9223372036854775808 := by kernel_rfl
theorem i64_max : IntKind.i64.max = 9223372036854775807 := by kernel_rfl
theorem tokInt {n : Int} (h : isI n) : TOk PP t_int [.int .i64 n] := by
  refine .int n u_int ?_
  unfold isI at h
  rw [i64_min, i64_max]
  omega
theorem tokKey {w t : Int} (hw : isI w) (ht : isI t) : TOk PP t_stats_key [.int .i64 w, .int .i64 t] :=
  TOk.struct' (ps := [[.int .i64 w], [.int .i64 t]]) us_stats_key ty_stats_key ⟨tokInt hw, tokInt ht, trivial⟩

def kcA (p : (Int × Int) × Nat) : List Value := [.int .i64 p.1.1, .int .i64 p.1.2]
def kcE (p : Nat × Nat) : List Value := [.int .i64 p.1]
theorem argInt (n : Int) : argV PP t_int [.int .i64 n] = .int .i64 n := by unfold argV; rw [u_int]; rfl

section
variable {H0 l : List Blk} {e : Option Nat} {n : Nat} {s : PS} (h : OkPS n s) (hn : n < 1000000)
include h

theorem lk_at {k c : Nat} {w t : Int} (hw : isI w) (ht : isI t) (hb : l[k]? = some (.map (entries KA VA 0 s.A) c)) :
    aLookup PP t_M_stats_key_int (.map (some (H0.length + k))) (keyV w t) true ⟨H0 ++ l, e⟩ = some (.tuple #[.int .i64 (((lookA s.A w t).getD 0 : Nat) : Int), .bool (lookA s.A w t).isSome]) := by
  have := look_ent (P := PP) (K := KA) (V := VA) (kc := kcA) u_M_stats_key_int zv_int rfl flatKey.flat (st := ⟨H0 ++ l, e⟩) (r := H0.length + k) (xs := s.A) (fun x hx => by rw [flatKey.argV]; rfl) (fun x hx => tokKey (h.a x hx).1 (h.a x hx).2.1) (by rw [get_app]; exact hb) (tokKey hw ht) (p := fun p => decide (p.1 = (w, t))) (fun x _ => by
    obtain ⟨⟨a, b⟩, c⟩ := x
    simp [kcA])
  rw [flatKey.argV] at this
  rw [this]
  unfold lookA
  cases s.A.find? fun p => decide (p.1 = (w, t)) <;> rfl

theorem up_at {k : Nat} {w t : Int} {i : Nat} (hw : isI w) (ht : isI t) (hb : l[k]? = some (.map (entries KA VA 0 s.A) s.A.length)) (hnew : lookA s.A w t = none) :
    aMapUpdate PP t_M_stats_key_int (.map (some (H0.length + k))) (keyV w t) (.int .i64 i) ⟨H0 ++ l, e⟩ = some ⟨H0 ++ l.set k (.map (entries KA VA 0 (s.A ++ [((w, t), i)])) (s.A.length + 1)), e⟩ := by
  have := upd_ent (P := PP) (K := KA) (V := VA) (kc := kcA) u_M_stats_key_int flatKey.flat (st := ⟨H0 ++ l, e⟩) (r := H0.length + k) (xs := s.A) (fun x hx => by rw [flatKey.argV]; rfl) (fun x hx => tokKey (h.a x hx).1 (h.a x hx).2.1) (by rw [get_app]; exact hb) (x := ((w, t), i)) (by rw [flatKey.argV]; rfl) rfl (tokKey hw ht) (fun y hy he => by
    unfold lookA at hnew
    simp only [Option.map_eq_none_iff, List.find?_eq_none, decide_eq_true_eq] at hnew
    refine hnew y hy ?_
    obtain ⟨⟨a, b⟩, c⟩ := y
    simpa [kcA] using he)
  rw [flatKey.argV] at this
  have h2 : (VA ((w, t), i) : Value) = .int .i64 i := rfl
  rw [h2] at this
  rw [this, set_app]
  rfl

theorem lk_en {k c m : Nat} (hm : m < 1000000) (hn : n < 1000000) (hb : l[k]? = some (.map (entries KE VE 0 s.E) c)) :
    aLookup PP t_M_int_int (.map (some (H0.length + k))) (.int .i64 m) true ⟨H0 ++ l, e⟩ = some (.tuple #[.int .i64 (((lookE s.E m).getD 0 : Nat) : Int), .bool (lookE s.E m).isSome]) := by
  have := look_ent (P := PP) (K := KE) (V := VE) (kc := kcE) u_M_int_int zv_int rfl flatInt (st := ⟨H0 ++ l, e⟩) (r := H0.length + k) (xs := s.E) (fun x hx => by rw [show kcE x = [.int .i64 x.1] from rfl, argInt]; rfl) (fun x hx => tokInt (by have := h.e x hx; unfold isI; omega)) (by rw [get_app]; exact hb) (q := [.int .i64 m]) (tokInt (by unfold isI; omega)) (p := fun p => decide (p.1 = m)) (fun x _ => by
    simp [kcE]
    omega)
  rw [argInt] at this
  rw [this]
  unfold lookE
  cases s.E.find? fun p => decide (p.1 = m) <;> rfl

theorem up_en {k m i : Nat} (hm : m < 1000000) (hn : n < 1000000) (hb : l[k]? = some (.map (entries KE VE 0 s.E) s.E.length)) (hnew : lookE s.E m = none) :
    aMapUpdate PP t_M_int_int (.map (some (H0.length + k))) (.int .i64 m) (.int .i64 i) ⟨H0 ++ l, e⟩ = some ⟨H0 ++ l.set k (.map (entries KE VE 0 (s.E ++ [(m, i)])) (s.E.length + 1)), e⟩ := by
  have := upd_ent (P := PP) (K := KE) (V := VE) (kc := kcE) u_M_int_int flatInt (st := ⟨H0 ++ l, e⟩) (r := H0.length + k) (xs := s.E) (fun x hx => by rw [show kcE x = [.int .i64 x.1] from rfl, argInt]; rfl) (fun x hx => tokInt (by have := h.e x hx; unfold isI; omega)) (by rw [get_app]; exact hb) (x := (m, i)) (q := [.int .i64 m]) (by rw [argInt]; rfl) rfl (tokInt (by unfold isI; omega)) (fun y hy he => by
    unfold lookE at hnew
    simp only [Option.map_eq_none_iff, List.find?_eq_none, decide_eq_true_eq] at hnew
    refine hnew y hy ?_
    simp [kcE] at he
    omega)
  rw [argInt] at this
  have h2 : (VE (m, i) : Value) = .int .i64 i := rfl
  rw [h2] at this
  rw [this, set_app]
  rfl
end

theorem KA_refs (p : (Int × Int) × Nat) : vrefs (KA p) = [] := rfl
theorem VA_refs (p : (Int × Int) × Nat) : vrefs (VA p) = [] := rfl
theorem KE_refs (p : Nat × Nat) : vrefs (KE p) = [] := rfl
theorem VE_refs (p : Nat × Nat) : vrefs (VE p) = [] := rfl
def mapA (s : PS) : Blk := .map (entries KA VA 0 s.A) s.A.length
def mapE (s : PS) : Blk := .map (entries KE VE 0 s.E) s.E.length
theorem mapA_refs (s : PS) : blkRefs (mapA s) = [] := entries_refs VA_refs KA_refs 0 s.A
theorem mapE_refs (s : PS) : blkRefs (mapE s) = [] := entries_refs VE_refs KE_refs 0 s.E
theorem mapA_ren (σ : Nat → Nat) (s : PS) : renBlk σ (mapA s) = mapA s := by
  simp only [mapA, renBlk]
  rw [entries_ren VA_refs KA_refs]
theorem mapE_ren (σ : Nat → Nat) (s : PS) : renBlk σ (mapE s) = mapE s := by
  simp only [mapE, renBlk]
  rw [entries_ren VE_refs KE_refs]


end Go.Proofs.Ytpklhjeccbjalaa

end
section
namespace Go.Proofs.Ytpklhjeccbjalaa
open Go Go.Am

def toI (s : PS) (i : Nat) : Int := match lookE s.E i with | some k => (k : Int) | none => -1


theorem ints_refs (l : List Int) : lrefs (l.map (Value.int .i64)) = [] := by
  induction l with
  | nil => rfl
  | cons x xs ih => simpa using ih
theorem ints_flat (l : List Int) : (l.map (Value.int .i64)).all noSl = true := by
  induction l with
  | nil => rfl
  | cons x xs ih => simp only [List.map_cons, List.all_cons, noSl, Bool.true_and]; exact ih
theorem bsl_int (v : Int) (H : List Blk) (e : Option Nat) : bsl PP t_L_int 1 [0] [.int .i64 v] ⟨H, e⟩ = some (.slice (some ⟨H.length, 0, none⟩) 1 1, ⟨H ++ [.cells [.int .i64 v] t_int true], e⟩) := by kernel_rfl

section
variable {l : List Ev} {H : List Blk}

theorem newBlk_own {n : List Blk} {e : Option Nat} (k : Blk) : newBlk ⟨H ++ n, e⟩ k = ⟨H ++ (n ++ [k]), e⟩ := newBlk_app k


/-! ### What is open -/

/-- the numbers that are so, of the first ones -/
def openL (p : Nat → Bool) : Nat → List Int
  | 0 => []
  | n + 1 => if p n = true then openL p n ++ [(n : Int)] else openL p n
theorem openL_len (p : Nat → Bool) : ∀ n, (openL p n).length ≤ n
  | 0 => by simp [openL]
  | n + 1 => by
    have := openL_len p n
    simp only [openL]
    split
    · simp; omega
    · omega

abbrev intsH (A : List Int) : List Value := A.map (Value.int .i64)
def rowO (n0 : Nat) (A : List Int) : Value := match A with | [] => .slice none 0 0 | a :: tl => .slice (some ⟨n0, 0, none⟩) (tl.length + 1) UNK
def blkO (A : List Int) : List Blk := match A with | [] => [] | a :: tl => [.cells (intsH (a :: tl)) t_int true]

/-- the end of such a loop -/
theorem fin_rowO (A : List Int) (L : List Blk) (e : Option Nat) (he : escOk H.length e = true) : fin PP false H.length [rowO H.length A] ⟨H ++ (blkO A ++ L), e⟩ = some (tSl A.length (intsH A), H, none) := by
  cases A with
  | nil => exact fin_nil he
  | cons a tl => exact fin_row0 (sz := 1) rfl sz_int (by simp) (ints_flat _) (ints_refs _) he

/-- is event n asked, and not ended? -/
def rOpenB (l : List Ev) (n : Nat) : Bool := match l[n]? with
  | some x => decide (x.kind = 0) && decide (endedI l n < 0)
  | none => false

theorem endedI_isI (hm : l.length < 1000000) (k : Nat) : isI (endedI l k) ∧ endedI l k < (l.length : Int) ∧ -1 ≤ endedI l k := by
  unfold endedI isI
  rcases firstN_spec (p := endsB l k) (l.length - (k + 1)) (k + 1) with ⟨h, _⟩ | ⟨m, h, h1, h2, _⟩ <;> rw [h] <;> omega

theorem ropen_gc (A : List Int) (n : Nat) (x : Ev) : gc H.length [tSl l.length (evR l), rowO H.length A, tSl l.length (evR l), .int .i64 l.length, .int .i64 n] ⟨H ++ (blkO A ++ [.cells (evc x) t_twainref34_Event true]), none⟩ = ([tSl l.length (evR l), rowO H.length A, tSl l.length (evR l), .int .i64 l.length, .int .i64 n], ⟨H ++ blkO A, none⟩) := by
  cases A with
  | nil => exact gc_own [[]] [] [] rfl rfl (by simp [rowO, evR_refs]) (by simp [blkO, blkRefs_cells, evc_refs]) (by simp [rowO, lren, vren, vren_none, evR_refs]) (by simp [blkO])
  | cons a tl => exact gc_own [[], []] [0] [0] rfl rfl (by simp [rowO, evR_refs]) (by simp [blkO, blkRefs_cells, evc_refs, ints_refs]) (by simp [rowO, lren, vren, rn_own0, findIx, vren_none, evR_refs]) (by simp [blkO, renBlk_cells, lren, vren, lren_none, ints_refs])

theorem ropen_gc2 (A : List Int) (n : Nat) (x : Ev) (v : Int) : gc H.length [tSl l.length (evR l), .slice (some ⟨H.length + ((blkO A).length + 2), 0, none⟩) (A.length + 1) UNK, tSl l.length (evR l), .int .i64 l.length, .int .i64 n] ⟨H ++ ((match A with | [] => [] | a :: tl => [Blk.dead]) ++ [.cells (evc x) t_twainref34_Event true, .cells [.int .i64 v] t_int true, .cells (intsH (A ++ [v])) t_int true]), none⟩ = ([tSl l.length (evR l), rowO H.length (A ++ [v]), tSl l.length (evR l), .int .i64 l.length, .int .i64 n], ⟨H ++ blkO (A ++ [v]), none⟩) := by
  cases A with
  | nil => exact gc_own [[], [], []] [2] [2] rfl rfl (by simp [blkO, evR_refs]) (by simp [blkRefs_cells, evc_refs]) (by simp [blkO, rowO, lren, vren, rn_own, findIx, vren_none, evR_refs]) (by simp [blkO, renBlk_cells, lren, vren])
  | cons a tl => exact gc_own [[], [], [], []] [3] [3] rfl rfl (by simp [blkO, evR_refs]) (by simp [blkRefs_cells, blkRefs_dead, evc_refs, ints_refs]) (by simp [blkO, rowO, lren, vren, rn_own, findIx, vren_none, evR_refs]) (by simp [blkO, renBlk_cells, lren, vren, lren_none, ints_refs])

theorem push_int_nil {L : List Blk} {e : Option Nat} {v : Int} {R : Type} {F : Value → AS → Option R} :
    ((bsl PP t_L_int 1 [0] [.int .i64 v] ⟨H ++ L, e⟩).bind fun q => eBuiltin PP .append #[t_L_int, t_L_int] [.slice none 0 0, q.1] q.2 F) = F (.slice (some ⟨H.length + (L.length + 1), 0, none⟩) 1 UNK) ⟨H ++ (L ++ [.cells [.int .i64 v] t_int true, .cells [.int .i64 v] t_int true]), e⟩ :=
  push_nil el_L_int rfl (bsl_int v)
theorem push_int {A : List Int} (hm : A.length ≤ 65535) {L : List Blk} {e : Option Nat} {v : Int} {R : Type} {F : Value → AS → Option R} (hk : L[0]? = some (.cells (intsH A) t_int true)) :
    ((bsl PP t_L_int 1 [0] [.int .i64 v] ⟨H ++ L, e⟩).bind fun q => eBuiltin PP .append #[t_L_int, t_L_int] [.slice (some ⟨H.length, 0, none⟩) A.length UNK, q.1] q.2 F) = F (.slice (some ⟨H.length + (L.length + 1), 0, none⟩) (A.length + 1) UNK) ⟨H ++ (L.set 0 .dead ++ [.cells [.int .i64 v] t_int true, .cells (intsH A ++ [.int .i64 v]) t_int true]), e⟩ :=
  push_more0 el_L_int rfl (bsl_int v) hk (by simp) hm

theorem ropen_ok (hl : OkEvs l) (hm : l.length < 60000) (H : List Blk) : acall PP TT n_twainref36_Open [tSl l.length (evR l)] H = some (tSl (openL (rOpenB l) l.length).length (intsH (openL (rOpenB l) l.length)), H, none) := by
  have hlast : ¬ ((l.length : Int) < (l.length : Int)) := Int.lt_irrefl _
  obtain ⟨r, hlp, hr⟩ := loop_r (n0 := H.length) (step := twainref36_Open.loop3s (acall PP TT) loopG H.length) (len := l.length) (σ := Unit)
    (fun n _ => ([tSl l.length (evR l), rowO H.length (openL (rOpenB l) n), tSl l.length (evR l), .int .i64 l.length, .int .i64 n], ⟨H ++ blkO (openL (rOpenB l) n), none⟩))
    (fun _ _ => True) (fun r => r = (.exit 0, [rowO H.length (openL (rOpenB l) l.length)], ⟨H ++ blkO (openL (rOpenB l) l.length), none⟩))
    (fun n _ hn _ => by
      obtain ⟨x, hx⟩ : ∃ x, l[n]? = some x := ⟨_, List.getElem?_eq_getElem hn⟩
      have hn' : ((n : Int) < (l.length : Int)) := by omega
      have hix := ix_ref hn
      have hld := fun st => ev_load hx st
      have hw := wrap_succ (n := n) (by omega)
      have hk0 : (evc x)[0]? = some (.int .i64 x.kind) := by simp [evc]
      have hed := fun H => ended_ok hl (by omega) hn H
      have hlen := openL_len (rOpenB l) n
      have hob : rOpenB l n = (decide (x.kind = 0) && decide (endedI l n < 0)) := by simp [rOpenB, hx]
      have hnx : openL (rOpenB l) (n + 1) = if rOpenB l n = true then openL (rOpenB l) n ++ [(n : Int)] else openL (rOpenB l) n := rfl
      rw [hnx]
      generalize openL (rOpenB l) n = A at hlen
      refine .inr ?_
      cases hb : rOpenB l n with
      | true =>
        rw [hob, Bool.and_eq_true, decide_eq_true_eq, decide_eq_true_eq] at hb
        obtain ⟨h1, h2⟩ := hb
        simp only [if_true]
        refine ⟨_, _, (), ?_, ropen_gc2 A (n + 1) x n, trivial⟩
        cases A with
        | nil => simp only [twainref36_Open.loop3s, twainref36_Open.loop3, twainref36_Open.j1, twainref36_Open.j2, rowO, blkO, mach, Nat.reduceAdd, Nat.reduceLeDiff, Int.reduceEq, Int.reduceLT, Int.reduceLE, hn', hix, hld, zg_twainref34_Event, zl_twainref34_Event, za_twainref34_Event, evc_len, evc_cells, evc_refs, putCells_all, hk0, fa_twainref34_Event_0, hed, h1, h2, push_int_nil, hw, List.append_nil, List.map_cons, List.map_nil]
        | cons a tl =>
          have hpi := fun (L : List Blk) (e : Option Nat) (v : Int) (R : Type) (F : Value → AS → Option R) (hk : L[0]? = some (.cells (intsH (a :: tl)) t_int true)) => push_int (H := H) (A := a :: tl) (by omega) (e := e) (v := v) (F := F) hk
          simp only [List.length_cons, List.map_cons] at hpi
          simp only [twainref36_Open.loop3s, twainref36_Open.loop3, twainref36_Open.j1, twainref36_Open.j2, rowO, blkO, mach, Nat.reduceAdd, Nat.reduceLeDiff, Int.reduceEq, Int.reduceLT, Int.reduceLE, hn', hix, hld, zg_twainref34_Event, zl_twainref34_Event, za_twainref34_Event, evc_len, evc_cells, evc_refs, putCells_all, hk0, fa_twainref34_Event_0, hed, h1, h2, hpi, hw, List.append_nil, List.set_cons_zero, List.map_append, List.map_cons, List.map_nil]
      | false =>
        simp only [Bool.false_eq_true, if_false]
        refine ⟨_, _, (), ?_, ropen_gc A (n + 1) x, trivial⟩
        rw [hob, Bool.and_eq_false_iff, decide_eq_false_iff_not, decide_eq_false_iff_not] at hb
        by_cases h1 : x.kind = 0
        · have h2 : ¬ endedI l n < 0 := by
            rcases hb with hb | hb
            · exact absurd h1 hb
            · exact hb
          cases A <;> simp only [twainref36_Open.loop3s, twainref36_Open.loop3, twainref36_Open.j1, twainref36_Open.j2, rowO, blkO, mach, Nat.reduceAdd, Nat.reduceLeDiff, Int.reduceEq, Int.reduceLT, Int.reduceLE, hn', hix, hld, zg_twainref34_Event, zl_twainref34_Event, za_twainref34_Event, evc_len, evc_cells, evc_refs, putCells_all, hk0, fa_twainref34_Event_0, hed, h1, h2, hw]
        · cases A <;> simp only [twainref36_Open.loop3s, twainref36_Open.loop3, twainref36_Open.j1, twainref36_Open.j2, rowO, blkO, mach, Nat.reduceAdd, Nat.reduceLeDiff, Int.reduceEq, Int.reduceLT, Int.reduceLE, hn', hix, hld, zg_twainref34_Event, zl_twainref34_Event, za_twainref34_Event, evc_len, evc_cells, evc_refs, putCells_all, hk0, fa_twainref34_Event_0, h1, hw])
    (fun _ _ => ⟨_, by simp only [twainref36_Open.loop3s, twainref36_Open.loop3, mach, Nat.reduceAdd, Nat.reduceLeDiff, Int.reduceEq, Int.reduceLT, Int.reduceLE, hlast], rfl⟩)
    l.length 0 () [tSl l.length (evR l), .slice none 0 0, tSl l.length (evR l), .int .i64 l.length, .int .i64 0] ⟨H, none⟩ (by omega) trivial (by
      have := gc_nil (H := H) (vs := [tSl l.length (evR l), .slice none 0 0, tSl l.length (evR l), .int .i64 l.length, .int .i64 0]) (by simp [evR_refs])
      simpa [openL, rowO, blkO] using this)
  subst hr
  rw [acall_eq, twainref36_Open.eq]
  simp only [twainref36_Open.sh, ln_ref, mach, Nat.reduceAdd, Nat.reduceLeDiff, Int.reduceEq, Int.reduceLT, Int.reduceLE, hlp, twainref36_Open.j4]
  have := fin_rowO (H := H) (openL (rOpenB l) l.length) [] none rfl
  simpa using this

end


/-- is event n odd? -/
def oddB (l : List Ev) (n : Nat) : Bool := match l[n]? with
  | none => false
  | some x => if x.kind = 0 then decide (0 ≤ askedI l n)
    else if x.kind = 1 then decide (askedI l n < 0) || !decide (endedI l (askedI l n).toNat = (n : Int))
    else false
def anyN (p : Nat → Bool) : Nat → Bool
  | 0 => false
  | n + 1 => anyN p n || p n
theorem anyN_false {p : Nat → Bool} : ∀ {n : Nat}, anyN p n = false ↔ ∀ i, i < n → p i = false
  | 0 => by simp [anyN]
  | n + 1 => by
    simp only [anyN, Bool.or_eq_false_iff, anyN_false]
    constructor
    · rintro ⟨h1, h2⟩ i hi
      by_cases h : i = n
      · subst h; exact h2
      · exact h1 i (by omega)
    · intro h
      exact ⟨fun i hi => h i (by omega), h n (by omega)⟩
theorem anyN_true {p : Nat → Bool} {n i : Nat} (hi : i < n) (h : p i = true) : anyN p n = true := by
  cases hb : anyN p n with
  | true => rfl
  | false => rw [anyN_false.1 hb i hi] at h; simp at h

section
variable {l : List Ev} {H : List Blk}

theorem gc_box (vs : List Value) (hv : lrefs vs = []) (G : List Blk) : gc H.length vs ⟨H ++ G, none⟩ = (vs, ⟨H, none⟩) := gc_clean hv rfl


/-! ### Few -/

def fewB (l : List Ev) : Bool := decide (l.length ≤ 100) && l.all fun x => decide (x.d.length ≤ 300) && decide (x.rd.length ≤ 300)

theorem few_ok (l : List Ev) (hm : l.length < 9223372036854775808) (H : List Blk) : acall PP TT n_twainlaw36_Few [tSl l.length (evR l)] H = some (.bool (fewB l), H, none) := by
  have hlast : ¬ ((l.length : Int) < (l.length : Int)) := Int.lt_irrefl _
  rw [acall_eq, twainlaw36_Few.eq]
  by_cases hc : (100 : Int) < (l.length : Int)
  · have hb : fewB l = false := by
      have : ¬ l.length ≤ 100 := by omega
      simp [fewB, this]
    simp only [twainlaw36_Few.sh, ln_ref, mach, Nat.reduceAdd, Nat.reduceLeDiff, Int.reduceEq, Int.reduceLT, Int.reduceLE, hc, hb]
    exact fin_lit0 rfl rfl
  · have hle : l.length ≤ 100 := by omega
    obtain ⟨r, hlp, hr⟩ := loop_r (n0 := H.length) (step := twainlaw36_Few.loop4s (acall PP TT) loopG H.length) (len := l.length) (σ := Unit)
      (fun n _ => ([tSl l.length (evR l), .int .i64 l.length, .int .i64 n], ⟨H, none⟩))
      (fun n _ => ∀ x ∈ l.take n, x.d.length ≤ 300 ∧ x.rd.length ≤ 300)
      (fun r => (r = (.exit 0, [unk], ⟨H, none⟩) ∧ fewB l = true) ∨ (∃ G e, r = (.ret, [.bool false], ⟨H ++ G, e⟩) ∧ escOk H.length e = true ∧ fewB l = false))
      (fun n _ hn ho => by
        obtain ⟨x, hx⟩ : ∃ x, l[n]? = some x := ⟨_, List.getElem?_eq_getElem hn⟩
        have hn' : ((n : Int) < (l.length : Int)) := by omega
        have hix := ix_ref hn
        have hld := fun st => ev_load hx st
        have hw := wrap_succ (n := n) (by omega)
        have f6 : (evc x)[6]? = some (tSl x.rd.length (byt x.rd)) := by simp [evc]
        have f7 : (evc x)[7]? = some (tSl x.d.length (byt x.d)) := by simp [evc]
        have hxm := List.mem_of_getElem? hx
        by_cases hd : (300 : Int) < (x.d.length : Int)
        · refine .inl ⟨_, ?_, .inr ⟨[.cells (evc x) t_twainref34_Event true], none, rfl, rfl, ?_⟩⟩
          · simp only [twainlaw36_Few.loop4s, twainlaw36_Few.loop4, twainlaw36_Few.j1, twainlaw36_Few.j2, mach, Nat.reduceAdd, Nat.reduceLeDiff, Int.reduceEq, Int.reduceLT, Int.reduceLE, hn', hix, hld, zg_twainref34_Event, zl_twainref34_Event, za_twainref34_Event, evc_len, evc_cells, evc_refs, putCells_all, f6, f7, fa_twainref34_Event_3, fa_twainref34_Event_4, fa_api_Request_2, ln_byt, hd]
          · simp only [fewB, Bool.and_eq_false_iff, List.all_eq_false]
            exact .inr ⟨x, hxm, by simp; omega⟩
        · by_cases hr : (300 : Int) < (x.rd.length : Int)
          · refine .inl ⟨_, ?_, .inr ⟨[.cells (evc x) t_twainref34_Event true], none, rfl, rfl, ?_⟩⟩
            · simp only [twainlaw36_Few.loop4s, twainlaw36_Few.loop4, twainlaw36_Few.j1, twainlaw36_Few.j2, mach, Nat.reduceAdd, Nat.reduceLeDiff, Int.reduceEq, Int.reduceLT, Int.reduceLE, hn', hix, hld, zg_twainref34_Event, zl_twainref34_Event, za_twainref34_Event, evc_len, evc_cells, evc_refs, putCells_all, f6, f7, fa_twainref34_Event_3, fa_twainref34_Event_4, fa_api_Request_2, ln_byt, hd, hr]
            · simp only [fewB, Bool.and_eq_false_iff, List.all_eq_false]
              exact .inr ⟨x, hxm, by simp; omega⟩
          · refine .inr ⟨[tSl l.length (evR l), .int .i64 l.length, .int .i64 ((n + 1 : Nat) : Int)], ⟨H ++ [.cells (evc x) t_twainref34_Event true], none⟩, (), ?_, gc_clean (by simp [evR_refs]) rfl, ?_⟩
            · simp only [twainlaw36_Few.loop4s, twainlaw36_Few.loop4, twainlaw36_Few.j1, twainlaw36_Few.j2, mach, Nat.reduceAdd, Nat.reduceLeDiff, Int.reduceEq, Int.reduceLT, Int.reduceLE, hn', hix, hld, zg_twainref34_Event, zl_twainref34_Event, za_twainref34_Event, evc_len, evc_cells, evc_refs, putCells_all, f6, f7, fa_twainref34_Event_3, fa_twainref34_Event_4, fa_api_Request_2, ln_byt, hd, hr, hw]
            · intro y hy
              rw [List.take_add_one, hx] at hy
              simp only [Option.toList_some, List.mem_append, List.mem_singleton] at hy
              rcases hy with hy | rfl
              · exact ho y hy
              · omega)
      (fun _ ho => ⟨_, by simp only [twainlaw36_Few.loop4s, twainlaw36_Few.loop4, mach, Nat.reduceAdd, Nat.reduceLeDiff, Int.reduceEq, Int.reduceLT, Int.reduceLE, hlast], .inl ⟨rfl, by
        rw [List.take_length] at ho
        simp only [fewB, Bool.and_eq_true, decide_eq_true_eq, List.all_eq_true]
        exact ⟨hle, fun x hx => ho x hx⟩⟩⟩)
      l.length 0 () _ _ (by omega) (fun x hx => by simp at hx) (gc_nil (H := H) (vs := [tSl l.length (evR l), .int .i64 l.length, .int .i64 0]) (by simp [evR_refs]))
    rcases hr with ⟨rfl, h⟩ | ⟨G, e, rfl, he, h⟩
    · simp only [twainlaw36_Few.sh, ln_ref, mach, Nat.reduceAdd, Nat.reduceLeDiff, Int.reduceEq, Int.reduceLT, Int.reduceLE, hc, hlp, twainlaw36_Few.j4, h]
      exact fin_lit0 rfl rfl
    · simp only [twainlaw36_Few.sh, ln_ref, mach, Nat.reduceAdd, Nat.reduceLeDiff, Int.reduceEq, Int.reduceLT, Int.reduceLE, hc, hlp, h]
      exact fin_lit rfl rfl he

end


theorem bsl_wev (x : Ev) (H : List Blk) (e : Option Nat) : bsl PP t_L_world_Event 1 [0] [.agg (evc x).toArray] ⟨H, e⟩ = some (.slice (some ⟨H.length, 0, none⟩) 1 1, ⟨H ++ [.cells (evc x) t_world_Event true], e⟩) := by
  unfold bsl
  have hfl : frzL (frz PP 0 8) [Value.agg (evc x).toArray] H = ([Value.agg (evc x).toArray], H) := frzL_flatV _ _ _ _ (by simp [flatV, evc_flat])
  simp only [hfl]
  refine Eq.trans (b := some (aRow t_world_Event (evc x) 1 1 ⟨H, e⟩)) ?_ rfl
  clear hfl
  kernel_rfl

theorem evR_snoc (l : List Ev) (x : Ev) : evR l ++ evc x = evR (l ++ [x]) := by simp [evR, evs]
theorem evR_flat (l : List Ev) : (evR l).all noSl = true := (evs_rows l).fflat
theorem evR_len (l : List Ev) : (evR l).length = l.length * 8 := by
  have := (evs_rows l).flen
  simpa [evR, evs_len] using this

section
variable {l : List Ev} {H : List Blk}

theorem push_ev_nil {L : List Blk} {e : Option Nat} {x : Ev} {R : Type} {F : Value → AS → Option R} :
    ((bsl PP t_L_world_Event 1 [0] [.agg (evc x).toArray] ⟨H ++ L, e⟩).bind fun q => eBuiltin PP .append #[t_L_world_Event, t_L_world_Event] [.slice none 0 0, q.1] q.2 F) = F (.slice (some ⟨H.length + (L.length + 1), 0, none⟩) 1 UNK) ⟨H ++ (L ++ [.cells (evc x) t_world_Event true, .cells (evc x) t_world_Event true]), e⟩ :=
  push_nil el_L_world_Event (evc_len x) (bsl_wev x)
theorem push_ev {A : List Ev} (hm : A.length ≤ 65535) {L : List Blk} {e : Option Nat} {x : Ev} {R : Type} {F : Value → AS → Option R} (hk : L[0]? = some (.cells (evR A) t_world_Event true)) :
    ((bsl PP t_L_world_Event 1 [0] [.agg (evc x).toArray] ⟨H ++ L, e⟩).bind fun q => eBuiltin PP .append #[t_L_world_Event, t_L_world_Event] [.slice (some ⟨H.length, 0, none⟩) A.length UNK, q.1] q.2 F) = F (.slice (some ⟨H.length + (L.length + 1), 0, none⟩) (A.length + 1) UNK) ⟨H ++ (L.set 0 .dead ++ [.cells (evc x) t_world_Event true, .cells (evR (A ++ [x])) t_world_Event true]), e⟩ := by
  rw [← evR_snoc]
  exact push_more0 el_L_world_Event (evc_len x) (bsl_wev x) hk (evR_len A) hm

def rowW (n0 : Nat) (A : List Ev) : Value := match A with | [] => .slice none 0 0 | _ :: tl => .slice (some ⟨n0, 0, none⟩) (tl.length + 1) UNK
def blkW (A : List Ev) : List Blk := match A with | [] => [] | a :: tl => [.cells (evR (a :: tl)) t_world_Event true]

theorem take_snoc {α : Type} {l : List α} {n : Nat} {x : α} (hx : l[n]? = some x) : l.take (n + 1) = l.take n ++ [x] := by
  rw [List.take_add_one, hx]; rfl

theorem raw_ok (hm : l.length < 60000) (H : List Blk) : acall PP TT n_twainlaw36_Raw [tSl l.length (evR l)] H = some (tSl l.length (evR l), H, none) := by
  have hlast : ¬ ((l.length : Int) < (l.length : Int)) := Int.lt_irrefl _
  obtain ⟨r, hlp, hr⟩ := loop_r (n0 := H.length) (step := twainlaw36_Raw.loop3s (acall PP TT) loopG H.length) (len := l.length) (σ := Unit)
    (fun n _ => ([rowW H.length (l.take n), tSl l.length (evR l), .int .i64 l.length, .int .i64 n], ⟨H ++ blkW (l.take n), none⟩))
    (fun _ _ => True) (fun r => r = (.exit 0, [rowW H.length l], ⟨H ++ blkW l, none⟩))
    (fun n _ hn _ => by
      obtain ⟨x, hx⟩ : ∃ x, l[n]? = some x := ⟨_, List.getElem?_eq_getElem hn⟩
      have hn' : ((n : Int) < (l.length : Int)) := by omega
      have hix := ix_ref hn
      have hld := fun st => ev_load hx st
      have hw := wrap_succ (n := n) (by omega)
      have htk : (evc x).take 8 = evc x := List.take_of_length_le (by simp [evc_len])
      have hlen : (l.take n).length ≤ 65535 := by simp; omega
      rw [take_snoc hx]
      generalize l.take n = A at hlen
      refine .inr ?_
      cases A with
      | nil =>
        refine ⟨[.slice (some ⟨H.length + 2, 0, none⟩) 1 UNK, tSl l.length (evR l), .int .i64 l.length, .int .i64 ((n + 1 : Nat) : Int)], ⟨H ++ [.cells (evc x) t_twainref34_Event true, .cells (evc x) t_world_Event true, .cells (evc x) t_world_Event true], none⟩, (), ?_, ?_, trivial⟩
        · simp only [twainlaw36_Raw.loop3s, twainlaw36_Raw.loop3, rowW, blkW, mach, Nat.reduceAdd, Nat.reduceLeDiff, Int.reduceEq, Int.reduceLT, Int.reduceLE, hn', hix, hld, zg_twainref34_Event, zl_twainref34_Event, za_twainref34_Event, evc_len, evc_cells, evc_refs, putCells_all, htk, push_ev_nil, hw, List.append_nil]
        · exact gc_own [[], [], []] [2] [2] rfl rfl (by simp [evR_refs]) (by simp [blkRefs_cells, evc_refs]) (by simp [rowW, lren, vren, rn_own, findIx, vren_none, evR_refs]) (by simp [blkW, renBlk_cells, lren_none, evc_refs, evR, evs])
      | cons a tl =>
        have hpn := fun (L : List Blk) (e : Option Nat) (R : Type) (F : Value → AS → Option R) (hk : L[0]? = some (.cells (evR (a :: tl)) t_world_Event true)) => push_ev (H := H) hlen (L := L) (e := e) (x := x) (F := F) hk
        simp only [List.length_cons] at hpn
        refine ⟨[.slice (some ⟨H.length + 3, 0, none⟩) (tl.length + 1 + 1) UNK, tSl l.length (evR l), .int .i64 l.length, .int .i64 ((n + 1 : Nat) : Int)], ⟨H ++ [.dead, .cells (evc x) t_twainref34_Event true, .cells (evc x) t_world_Event true, .cells (evR (a :: tl ++ [x])) t_world_Event true], none⟩, (), ?_, ?_, trivial⟩
        · simp only [twainlaw36_Raw.loop3s, twainlaw36_Raw.loop3, rowW, blkW, mach, Nat.reduceAdd, Nat.reduceLeDiff, Int.reduceEq, Int.reduceLT, Int.reduceLE, hn', hix, hld, zg_twainref34_Event, zl_twainref34_Event, za_twainref34_Event, evc_len, evc_cells, evc_refs, putCells_all, htk, hpn, hw, List.append_nil, List.set_cons_zero]
        · exact gc_own [[], [], [], []] [3] [3] rfl rfl (by simp [evR_refs]) (by simp [blkRefs_cells, blkRefs_dead, evc_refs, evR_refs]) (by simp [rowW, lren, vren, rn_own, findIx, vren_none, evR_refs]) (by simp [blkW, renBlk_cells, lren_none, evR_refs]))
    (fun _ _ => ⟨_, by simp only [twainlaw36_Raw.loop3s, twainlaw36_Raw.loop3, mach, Nat.reduceAdd, Nat.reduceLeDiff, Int.reduceEq, Int.reduceLT, Int.reduceLE, hlast, List.take_length], rfl⟩)
    l.length 0 () [.slice none 0 0, tSl l.length (evR l), .int .i64 l.length, .int .i64 0] ⟨H, none⟩ (by omega) trivial (by
      have := gc_nil (H := H) (vs := [.slice none 0 0, tSl l.length (evR l), .int .i64 l.length, .int .i64 0]) (by simp [evR_refs])
      simpa [rowW, blkW] using this)
  subst hr
  rw [acall_eq, twainlaw36_Raw.eq]
  simp only [twainlaw36_Raw.sh, ln_ref, mach, Nat.reduceAdd, Nat.reduceLeDiff, Int.reduceEq, Int.reduceLT, Int.reduceLE, hlp, twainlaw36_Raw.j2]
  cases l with
  | nil =>
    have := fin_nil (P := PP) (H0 := H) (l := []) (e := none) rfl
    simpa [rowW, blkW, evR, evs] using this
  | cons a tl => exact fin_row0 (sz := 8) rfl sz_world_Event (evR_len _) (evR_flat _) (evR_refs _) rfl

end


section
variable {H : List Blk}

theorem ints_same (L : List Int) (hm : L.length < 60000) (H : List Blk) : acall PP TT n_twainref01_Ints [tSl L.length (intsH L), tSl L.length (intsH L)] H = some (.bool true, H, none) := by
  have hlast : ¬ ((L.length : Int) < (L.length : Int)) := Int.lt_irrefl _
  obtain ⟨r, hlp, hr⟩ := loop_r (n0 := H.length) (step := twainref01_Ints.loop4s (acall PP TT) loopG H.length) (len := L.length) (σ := Unit)
    (fun n _ => ([tSl L.length (intsH L), tSl L.length (intsH L), .int .i64 L.length, .int .i64 n], ⟨H, none⟩))
    (fun _ _ => True) (fun r => r = (.exit 0, [unk], ⟨H, none⟩))
    (fun n _ hn _ => by
      obtain ⟨x, hx⟩ : ∃ x, L[n]? = some x := ⟨_, List.getElem?_eq_getElem hn⟩
      have hn' : ((n : Int) < (L.length : Int)) := by omega
      have hix : aIndexAddr PP t_L_int (tSl L.length (intsH L)) (.int .i64 (n : Int)) = some (tPtr n (intsH L).toArray) := by
        have := tsl_index (row := intsH L) (j := .i64) u_L_int sz_int hn
        simpa using this
      have hld : ∀ st, aLoad false 1 st (tPtr n (intsH L).toArray) = some (.int .i64 x) := fun st => by
        show tLoad false 1 n (intsH L).toArray = _
        simp [tLoad, hx]
      have hw := wrap_succ (n := n) (by omega)
      refine .inr ⟨[tSl L.length (intsH L), tSl L.length (intsH L), .int .i64 L.length, .int .i64 ((n + 1 : Nat) : Int)], ⟨H, none⟩, (), ?_, gc_nil (by simp [ints_refs]), trivial⟩
      simp only [twainref01_Ints.loop4s, twainref01_Ints.loop4, mach, Nat.reduceAdd, Nat.reduceLeDiff, Int.reduceEq, Int.reduceLT, Int.reduceLE, hn', hix, hld, hw])
    (fun _ _ => ⟨_, by simp only [twainref01_Ints.loop4s, twainref01_Ints.loop4, mach, Nat.reduceAdd, Nat.reduceLeDiff, Int.reduceEq, Int.reduceLT, Int.reduceLE, hlast], rfl⟩)
    L.length 0 () _ _ (by omega) trivial (gc_nil (H := H) (vs := [tSl L.length (intsH L), tSl L.length (intsH L), .int .i64 L.length, .int .i64 0]) (by simp [ints_refs]))
  subst hr
  have hln : ∀ st, aLen PP t_L_int (tSl L.length (intsH L)) st = some (.int .i64 L.length) := fun st => tsl_len u_L_int
  rw [acall_eq, twainref01_Ints.eq]
  simp only [twainref01_Ints.sh, hln, mach, Nat.reduceAdd, Nat.reduceLeDiff, Int.reduceEq, Int.reduceLT, Int.reduceLE, hlp, twainref01_Ints.j2]
  exact fin_lit0 rfl rfl

end

end Go.Proofs.Ytpklhjeccbjalaa

end
section
namespace Go.Proofs.Ytpklhjeccbjalaa
open Go Go.Am


def askP (w t : Int) (x : Ev) : Bool := decide (x.kind = 0) && decide (x.who = w) && decide (x.ticket = t)
def askO (l : List Ev) (n : Nat) (w t : Int) : Option Nat := (l.take n).findIdx? (askP w t)

theorem askO_succ {l : List Ev} {n : Nat} {x : Ev} (hx : l[n]? = some x) (w t : Int) : askO l (n + 1) w t = match askO l n w t with | some i => some i | none => if askP w t x = true then some n else none := by
  unfold askO
  rw [take_snoc hx, List.findIdx?_append]
  have hlen : (l.take n).length = n := by have := lt_of_get hx; simp; omega
  cases (l.take n).findIdx? (askP w t) with
  | some i => rfl
  | none =>
    cases hp : askP w t x with
    | true => simp [List.findIdx?_cons, hp, hlen]
    | false => simp [List.findIdx?_cons, hp]

theorem askedI_eq {l : List Ev} {n : Nat} {y : Ev} (hy : l[n]? = some y) : askedI l n = match askO l n y.who y.ticket with | some i => (i : Int) | none => -1 := by
  unfold askedI
  rw [hy]
  rfl

theorem askO_lt {l : List Ev} {n : Nat} {w t : Int} {i : Nat} (h : askO l n w t = some i) : i < n := by
  unfold askO at h
  have := (List.findIdx?_eq_some_iff_findIdx_eq.1 h).1
  simp at this
  omega

theorem lookA_snoc (A : List ((Int × Int) × Nat)) (w t : Int) (n : Nat) (w' t' : Int) : lookA (A ++ [((w, t), n)]) w' t' = match lookA A w' t' with | some i => some i | none => if (w, t) = (w', t') then some n else none := by
  unfold lookA
  rw [List.find?_append]
  cases hf : A.find? fun p => decide (p.1 = (w', t')) with
  | some p => simp
  | none =>
    by_cases h : (w, t) = (w', t') <;> simp [h]

theorem lookE_snoc (E : List (Nat × Nat)) (m n i : Nat) : lookE (E ++ [(m, n)]) i = match lookE E i with | some k => some k | none => if m = i then some n else none := by
  unfold lookE
  rw [List.find?_append]
  cases hf : E.find? fun p => decide (p.1 = i) with
  | some p => simp
  | none =>
    by_cases h : m = i <;> simp [h]

/-- what the pairs know, so far -/
structure Knows (l : List Ev) (n : Nat) (s : PS) : Prop where
  a : ∀ w t, lookA s.A w t = askO l n w t
  e : ∀ i, (∀ k, lookE s.E i = some k → k < n ∧ endsB l i k = true ∧ ∀ j, j < k → endsB l i j = false) ∧ (lookE s.E i = none → ∀ j, j < n → endsB l i j = false)
  o : s.odd = anyN (oddB l) n

theorem endedI_first {l : List Ev} {i k : Nat} (hk : k < l.length) (h1 : endsB l i k = true) (h2 : ∀ j, j < k → endsB l i j = false) : endedI l i = (k : Int) := by
  have hik : i < k := by
    unfold endsB at h1
    split at h1
    · rename_i x hx
      simp only [Bool.and_eq_true, decide_eq_true_eq] at h1
      have h3 := h1.2
      rw [askedI_eq hx] at h3
      split at h3
      · rename_i j hj
        have := askO_lt hj
        omega
      · omega
    · simp at h1
  exact firstN_hit _ _ _ (fun j _ hj => h2 j hj) h1 (by omega) (by omega)

theorem endedI_none {l : List Ev} {i : Nat} (h : ∀ j, j < l.length → endsB l i j = false) : endedI l i = -1 :=
  firstN_none _ _ (fun j h1 h2 => by
    by_cases hj : j < l.length
    · exact h j hj
    · unfold endsB
      rw [List.getElem?_eq_none (by omega)])

theorem knows {l : List Ev} : ∀ n, n ≤ l.length → Knows l n (pairS l n)
  | 0, _ => ⟨fun w t => rfl, fun i => ⟨fun k h => by simp [pairS, lookE] at h, fun _ j hj => by omega⟩, rfl⟩
  | n + 1, hn => by
    have ih := knows (l := l) n (by omega)
    obtain ⟨x, hx⟩ : ∃ x, l[n]? = some x := ⟨_, List.getElem?_eq_getElem (by omega)⟩
    have hs : pairS l (n + 1) = pstep (pairS l n) n x := by simp [pairS, hx]
    rw [hs]
    generalize pairS l n = s at ih
    have hak : askedI l n = match lookA s.A x.who x.ticket with | some i => (i : Int) | none => -1 := by rw [askedI_eq hx, ih.a]
    have hob : oddB l n = (if x.kind = 0 then decide (0 ≤ askedI l n) else if x.kind = 1 then decide (askedI l n < 0) || !decide (endedI l (askedI l n).toNat = (n : Int)) else false) := by simp [oddB, hx]
    have hany : anyN (oddB l) (n + 1) = (anyN (oddB l) n || oddB l n) := rfl
    -- what ends with this event
    have hen : ∀ i, endsB l i n = (decide (x.kind = 1) && decide (askedI l n = (i : Int))) := fun i => by simp [endsB, hx]
    have keepE : (∀ i, endsB l i n = false) → ∀ i, (∀ k, lookE s.E i = some k → k < n + 1 ∧ endsB l i k = true ∧ ∀ j, j < k → endsB l i j = false) ∧ (lookE s.E i = none → ∀ j, j < n + 1 → endsB l i j = false) := fun hno i => by
      refine ⟨fun k hk => ?_, fun h j hj => ?_⟩
      · have := (ih.e i).1 k hk
        exact ⟨by omega, this.2⟩
      · by_cases hjn : j = n
        · subst hjn; exact hno i
        · exact (ih.e i).2 h j (by omega)
    have keepA : x.kind ≠ 0 → ∀ w t, lookA s.A w t = askO l (n + 1) w t := fun hk w t => by
      rw [ih.a, askO_succ hx]
      have : askP w t x = false := by simp [askP, hk]
      rw [this]
      cases askO l n w t <;> rfl
    by_cases k0 : x.kind = 0
    · have hno : ∀ i, endsB l i n = false := fun i => by rw [hen]; simp [k0]
      cases hf : lookA s.A x.who x.ticket with
      | some m =>
        have hp : pstep s n x = ⟨s.A, s.E, true⟩ := by simp [pstep, k0, hf]
        rw [hp]
        rw [hf] at hak
        refine ⟨fun w t => ?_, keepE hno, ?_⟩
        · simp only
          rw [ih.a, askO_succ hx]
          cases hq : askO l n w t with
          | some i => rfl
          | none =>
            have : askP w t x = false := by
              cases hh : askP w t x with
              | false => rfl
              | true =>
                simp only [askP, Bool.and_eq_true, decide_eq_true_eq] at hh
                obtain ⟨⟨_, h1⟩, h2⟩ := hh
                subst h1 h2
                rw [← ih.a, hf] at hq; simp at hq
            rw [this]; rfl
        · simp only
          rw [hany, hob, hak]
          simp [k0]
      | none =>
        have hp : pstep s n x = ⟨s.A ++ [((x.who, x.ticket), n)], s.E, s.odd⟩ := by simp [pstep, k0, hf]
        rw [hp]
        rw [hf] at hak
        refine ⟨fun w t => ?_, keepE hno, ?_⟩
        · simp only
          rw [lookA_snoc, ih.a, askO_succ hx]
          cases hq : askO l n w t with
          | some i => rfl
          | none =>
            by_cases hwt : (x.who, x.ticket) = (w, t)
            · simp only [Prod.mk.injEq] at hwt
              simp [hwt.1, hwt.2, askP, k0]
            · have : askP w t x = false := by
                simp only [Prod.mk.injEq] at hwt
                cases hh : askP w t x with
                | false => rfl
                | true =>
                  simp only [askP, Bool.and_eq_true, decide_eq_true_eq] at hh
                  exact absurd ⟨hh.1.2, hh.2⟩ hwt
              rw [this]
              simp only [hwt, if_false, Bool.false_eq_true]
        · simp only
          rw [hany, hob, hak, ih.o]
          simp [k0]
    · by_cases k1 : x.kind = 1
      · cases hf : lookA s.A x.who x.ticket with
        | none =>
          have hp : pstep s n x = ⟨s.A, s.E, true⟩ := by simp [pstep, k0, k1, hf]
          rw [hp]
          rw [hf] at hak
          refine ⟨keepA k0, keepE (fun i => by
            have : ¬ ((-1 : Int) = (i : Int)) := by omega
            rw [hen, hak]; simp [this]), ?_⟩
          simp only
          rw [hany, hob, hak]
          simp [k1]
        | some m =>
          rw [hf] at hak
          have hmn : m < n := by
            have := ih.a x.who x.ticket
            rw [hf] at this
            exact askO_lt this.symm
          have hen' : ∀ i, endsB l i n = decide (m = i) := fun i => by
            rw [hen, hak]; simp [k1]; omega
          have htn : (askedI l n).toNat = m := by rw [hak]; simp
          have hneg : ¬ askedI l n < 0 := by rw [hak]; simp only; omega
          cases hg : lookE s.E m with
          | some q =>
            have hp : pstep s n x = ⟨s.A, s.E, true⟩ := by simp [pstep, k0, k1, hf, hg]
            rw [hp]
            obtain ⟨hq1, hq2, hq3⟩ := (ih.e m).1 q hg
            refine ⟨keepA k0, fun i => ⟨fun k hk => ?_, fun h j hj => ?_⟩, ?_⟩
            · have := (ih.e i).1 k hk
              exact ⟨by omega, this.2⟩
            · simp only at h
              by_cases hjn : j = n
              · subst hjn
                rw [hen']
                by_cases hmi : m = i
                · subst hmi; rw [hg] at h; simp at h
                · simp [hmi]
              · exact (ih.e i).2 h j (by omega)
            · simp only
              rw [hany, hob, htn, endedI_first (by omega) hq2 hq3]
              have h9 : ¬ ((q : Int) = (n : Int)) := by omega
              simp [k1, h9]
          | none =>
            have hp : pstep s n x = ⟨s.A, s.E ++ [(m, n)], s.odd⟩ := by simp [pstep, k0, k1, hf, hg]
            rw [hp]
            have hfirst := (ih.e m).2 hg
            refine ⟨keepA k0, fun i => ⟨fun k hk => ?_, fun h j hj => ?_⟩, ?_⟩
            · simp only at hk
              rw [lookE_snoc] at hk
              cases hq : lookE s.E i with
              | some k' =>
                rw [hq] at hk
                simp at hk; subst hk
                have := (ih.e i).1 k' hq
                exact ⟨by omega, this.2⟩
              | none =>
                rw [hq] at hk
                by_cases hmi : m = i
                · subst hmi
                  simp at hk; subst hk
                  exact ⟨by omega, by rw [hen']; simp, hfirst⟩
                · simp [hmi] at hk
            · simp only at h
              rw [lookE_snoc] at h
              cases hq : lookE s.E i with
              | some k' => rw [hq] at h; simp at h
              | none =>
                rw [hq] at h
                by_cases hmi : m = i
                · simp [hmi] at h
                · by_cases hjn : j = n
                  · subst hjn; rw [hen']; simp [hmi]
                  · exact (ih.e i).2 hq j (by omega)
            · simp only
              rw [hany, hob, htn, endedI_first (by omega) (by rw [hen']; simp) hfirst, ih.o]
              simp [k1, hneg]
      · have hp : pstep s n x = s := by simp [pstep, k0, k1]
        rw [hp]
        refine ⟨keepA k0, keepE (fun i => by rw [hen]; simp [k1]), ?_⟩
        rw [hany, hob, ih.o]
        simp [k0, k1]

theorem toI_ended (l : List Ev) (i : Nat) : toI (pairS l l.length) i = endedI l i := by
  have h := (knows (l := l) l.length (Nat.le_refl _)).e i
  unfold toI
  cases hk : lookE (pairS l l.length).E i with
  | some k =>
    obtain ⟨h1, h2, h3⟩ := h.1 k hk
    rw [endedI_first h1 h2 h3]
  | none => rw [endedI_none (h.2 hk)]

theorem odd_eq (l : List Ev) : (pairS l l.length).odd = anyN (oddB l) l.length := (knows (l := l) l.length (Nat.le_refl _)).o


end Go.Proofs.Ytpklhjeccbjalaa

end
section
namespace Go.Proofs.Ytpklhjeccbjalaa
open Go Go.Am

theorem u8_min : IntKind.u8.min = 0 := by kernel_rfl
theorem u8_max : IntKind.u8.max = 255 := by kernel_rfl


theorem eql_true (ox oy : Operand) : aBin PP .eql t_bool ox oy (.bool true) (.bool true) = some (.bool true) := by kernel_rfl
theorem eql_false (ox oy : Operand) : aBin PP .eql t_bool ox oy (.bool false) (.bool false) = some (.bool true) := by kernel_rfl
theorem eql_bool (b : Bool) (ox oy : Operand) : aBin PP .eql t_bool ox oy (.bool b) (.bool b) = some (.bool true) := by
  cases b
  · exact eql_false ox oy
  · exact eql_true ox oy

/-- an event of the right kinds -/
structure EvT (x : Ev) : Prop where
  kind : isI x.kind
  who : isI x.who
  ticket : isI x.ticket
  rk : isI x.rk
  off : isI x.off
  len : isI x.len
  rd : ∀ b ∈ x.rd, 0 ≤ b ∧ b < 256
  d : ∀ b ∈ x.d, 0 ≤ b ∧ b < 256
def EvTs (l : List Ev) : Prop := ∀ x ∈ l, EvT x

theorem few_ok2 {l : List Ev} (hl : EvTs l) (hf : fewB l = true) : OkEvs l := fun x hx => by
  have h := hl x hx
  simp only [fewB, Bool.and_eq_true, decide_eq_true_eq, List.all_eq_true] at hf
  have h2 := hf.2 x hx
  exact ⟨h.kind, h.who, h.ticket, h.rk, h.off, h.len, ⟨by omega, h.rd⟩, ⟨by omega, h.d⟩⟩

theorem tokInt_inv {r : List Value} (h : TOk PP t_int r) : ∃ n, isI n ∧ r = [.int .i64 n] := by
  obtain ⟨n, rfl, hn⟩ := h.int_inv u_int
  rw [i64_min, i64_max] at hn
  exact ⟨n, by unfold isI; omega, rfl⟩

theorem bytes_of {r : List Value} (h : TOk PP t_L_uint8 r) : ∃ b : List Int, (∀ x ∈ b, 0 ≤ x ∧ x < 256) ∧ r = [tSl b.length (byt b)] := by
  obtain ⟨rows, rfl, _, hr⟩ := h.slice_inv u_L_uint8
  have key : ∀ rows : List (List Value), (∀ r ∈ rows, TOk PP t_uint8 r) → ∃ b : List Int, (∀ x ∈ b, 0 ≤ x ∧ x < 256) ∧ rows.length = b.length ∧ rows.flatten = byt b := by
    intro rows
    induction rows with
    | nil => intro _; exact ⟨[], fun x hx => by simp at hx, rfl, rfl⟩
    | cons r rs ih =>
      intro hr
      obtain ⟨b, h1, h2, h3⟩ := ih (fun x hx => hr x (by simp [hx]))
      obtain ⟨n, rfl, hn⟩ := (hr r (by simp)).int_inv u_uint8
      rw [u8_min, u8_max] at hn
      refine ⟨n :: b, fun x hx => ?_, by simp [h2], by simp [h3, byt]⟩
      rcases List.mem_cons.1 hx with rfl | hx
      · omega
      · exact h1 x hx
  obtain ⟨b, h1, h2, h3⟩ := key rows hr
  exact ⟨b, h1, by rw [h2, h3]⟩

theorem ev_of {r : List Value} (h : TOk PP t_twainref34_Event r) : ∃ x, EvT x ∧ r = evc x := by
  obtain ⟨ps, rfl, hp⟩ := h.struct_inv us_twainref34_Event
  rw [ty_twainref34_Event] at hp
  match ps, hp with
  | [a, b, c, d, e], ⟨ha, hb, hc, hd, he, _⟩ =>
    obtain ⟨kind, k1, rfl⟩ := tokInt_inv ha
    obtain ⟨who, k2, rfl⟩ := tokInt_inv hb
    obtain ⟨ticket, k3, rfl⟩ := tokInt_inv hc
    obtain ⟨qs, rfl, hq⟩ := hd.struct_inv us_api_Request
    rw [ty_api_Request] at hq
    obtain ⟨dd, k8, rfl⟩ := bytes_of he
    match qs, hq with
    | [f, g, i], ⟨hf, hg, hi, _⟩ =>
      obtain ⟨rk, k4, rfl⟩ := tokInt_inv hf
      obtain ⟨rd, k7, rfl⟩ := bytes_of hi
      obtain ⟨ss, rfl, hs⟩ := hg.struct_inv us_api_Span
      rw [ty_api_Span] at hs
      match ss, hs with
      | [u, v], ⟨hu, hv, _⟩ =>
        obtain ⟨off, k5, rfl⟩ := tokInt_inv hu
        obtain ⟨len, k6, rfl⟩ := tokInt_inv hv
        exact ⟨⟨kind, who, ticket, rk, off, len, rd, dd⟩, ⟨k1, k2, k3, k4, k5, k6, k7, k8⟩, rfl⟩

theorem evs_of : ∀ (rows : List (List Value)), (∀ r ∈ rows, TOk PP t_twainref34_Event r) → ∃ l, EvTs l ∧ rows = evs l
  | [], _ => ⟨[], fun x hx => by simp at hx, rfl⟩
  | r :: rs, h => by
    obtain ⟨l, h1, h2⟩ := evs_of rs (fun x hx => h x (by simp [hx]))
    obtain ⟨x, h3, rfl⟩ := ev_of (h r (by simp))
    refine ⟨x :: l, fun y hy => ?_, by rw [h2]; rfl⟩
    rcases List.mem_cons.1 hy with rfl | hy
    · exact h3
    · exact h1 y hy

theorem maxLen_lt : maxLen < 9223372036854775808 := by decide

theorem evs_arg {w : List Value} (h : TOk PP t_L_twainref34_Event w) : ∃ l, EvTs l ∧ l.length < 9223372036854775808 ∧ argV PP t_L_twainref34_Event w = tSl l.length (evR l) := by
  obtain ⟨rows, rfl, hm, hr⟩ := h.slice_inv u_L_twainref34_Event
  obtain ⟨l, h1, rfl⟩ := evs_of rows hr
  refine ⟨l, h1, ?_, ?_⟩
  · rw [evs_len] at hm
    exact Nat.lt_of_le_of_lt hm maxLen_lt
  · unfold argV
    rw [u_L_twainref34_Event, evs_len]
    rfl

section
variable {l : List Ev}

theorem few_len (h : fewB l = true) : l.length ≤ 100 := by
  simp only [fewB, Bool.and_eq_true, decide_eq_true_eq] at h
  exact h.1

end

end Go.Proofs.Ytpklhjeccbjalaa

end
section
namespace Go.Proofs.Ytpklhjeccbjalaa
open Go Go.Am
set_option linter.unusedVariables false

section
variable {l : List Ev} {H : List Blk}
abbrev wFr (n0 : Nat) (l : List Ev) (n : Nat) : List Value := [.map (some n0), .map (some (n0 + 1)), tSl l.length (evR l), .int .i64 l.length, .int .i64 n]
theorem w_gc (s : PS) (n : Nat) (X : List Blk) (hX : ∀ x ∈ X, blkRefs x = []) : gc H.length (wFr H.length l n) ⟨H ++ (mapA s :: mapE s :: X), none⟩ = (wFr H.length l n, ⟨H ++ [mapA s, mapE s], none⟩) := by
  refine gc_flats [0, 1] ?_ rfl ?_ (by simp [wFr, evR_refs]) ?_ ?_
  · intro b hb
    rcases List.mem_cons.1 hb with rfl | hb
    · exact mapA_refs s
    rcases List.mem_cons.1 hb with rfl | hb
    · exact mapE_refs s
    exact hX b hb
  · simp [wFr, evR_refs, news_own, news]
  · simp [wFr, lren, vren, rn_own, rn_own0, findIx, vren_none, evR_refs, once]
  · simp [once]
theorem lk0 {s : PS} {L : List Blk} {e : Option Nat} {n : Nat} (h : OkPS n s) {w t : Int} (hw : isI w) (ht : isI t) (hb : L[0]? = some (mapA s)) :
    aLookup PP t_M_stats_key_int (.map (some H.length)) (keyV w t) true ⟨H ++ L, e⟩ = some (.tuple #[.int .i64 (((lookA s.A w t).getD 0 : Nat) : Int), .bool (lookA s.A w t).isSome]) := lk_at (k := 0) h hw ht hb
theorem up0 {s : PS} {L : List Blk} {e : Option Nat} {n : Nat} (h : OkPS n s) {w t : Int} {i : Nat} (hw : isI w) (ht : isI t) (hnew : lookA s.A w t = none) (hb : L[0]? = some (mapA s)) :
    aMapUpdate PP t_M_stats_key_int (.map (some H.length)) (keyV w t) (.int .i64 i) ⟨H ++ L, e⟩ = some ⟨H ++ L.set 0 (mapA ⟨s.A ++ [((w, t), i)], s.E, s.odd⟩), e⟩ := by
  have := up_at (H0 := H) (k := 0) (i := i) (e := e) h hw ht hb hnew
  rw [Nat.add_zero] at this
  rw [this]
  simp [mapA]
theorem lk1 {s : PS} {L : List Blk} {e : Option Nat} {n m : Nat} (h : OkPS n s) (hn : n < 1000000) (hm : m < 1000000) (hb : L[1]? = some (mapE s)) :
    aLookup PP t_M_int_int (.map (some (H.length + 1))) (.int .i64 m) true ⟨H ++ L, e⟩ = some (.tuple #[.int .i64 (((lookE s.E m).getD 0 : Nat) : Int), .bool (lookE s.E m).isSome]) := lk_en h hm hn hb
theorem up1 {s : PS} {L : List Blk} {e : Option Nat} {n m i : Nat} (h : OkPS n s) (hn : n < 1000000) (hm : m < 1000000) (hnew : lookE s.E m = none) (hb : L[1]? = some (mapE s)) :
    aMapUpdate PP t_M_int_int (.map (some (H.length + 1))) (.int .i64 m) (.int .i64 i) ⟨H ++ L, e⟩ = some ⟨H ++ L.set 1 (mapE ⟨s.A, s.E ++ [(m, i)], s.odd⟩), e⟩ := by
  rw [up_en h hm hn hb hnew]
  simp [mapE]
abbrev kyB (x : Ev) : Blk := .cells [.int .i64 x.who, .int .i64 x.ticket] t_stats_key true
abbrev evB (x : Ev) : Blk := .cells (evc x) t_world_Event true
theorem evB_refs (x : Ev) : blkRefs (evB x) = [] := by rw [blkRefs_cells]; exact evc_refs x
theorem pst_gc (s : PS) (x : Ev) (n : Nat) : gc H.length (wFr H.length l n) ⟨H ++ [mapA s, mapE s, evB x, kyB x], none⟩ = (wFr H.length l n, ⟨H ++ [mapA s, mapE s], none⟩) :=
  w_gc s n [evB x, kyB x] (fun y hy => by
    rcases List.mem_cons.1 hy with rfl | hy
    · exact evB_refs x
    · simp at hy; subst hy; rfl)
theorem mapA_odd (A : List ((Int × Int) × Nat)) (E E' : List (Nat × Nat)) (o o' : Bool) : mapA ⟨A, E, o⟩ = mapA ⟨A, E', o'⟩ := rfl
theorem mapE_odd (A A' : List ((Int × Int) × Nat)) (E : List (Nat × Nat)) (o o' : Bool) : mapE ⟨A, E, o⟩ = mapE ⟨A', E, o'⟩ := rfl

theorem spair_step (hl : OkEvs l) (hm : l.length < 1000000) {n : Nat} (hn : n < l.length) {x : Ev} (hx : l[n]? = some x) :
    stats_pairs.loop4s (acall PP TT) loopG H.length (wFr H.length l n, ⟨H ++ [mapA (pairS l n), mapE (pairS l n)], none⟩) = some (.inl (wFr H.length l (n + 1), ⟨H ++ [mapA (pairS l (n + 1)), mapE (pairS l (n + 1)), evB x, kyB x], none⟩)) := by
  have hxo := hl x (List.mem_of_getElem? hx)
  have hok := pairS_ok hl n (by omega)
  have hs1 : pairS l (n + 1) = pstep (pairS l n) n x := by simp [pairS, hx]
  rw [hs1]
  generalize pairS l n = s at hok
  obtain ⟨A, E, odd⟩ := s
  have hn' : ((n : Int) < (l.length : Int)) := by omega
  have hix := ix_wld hn
  have hld := fun st => ev_load hx st
  have hw := wrap_succ (n := n) (by omega)
  have hk0 : (evc x)[0]? = some (.int .i64 x.kind) := by simp [evc]
  have hk1 : (evc x)[1]? = some (.int .i64 x.who) := by simp [evc]
  have hk2 : (evc x)[2]? = some (.int .i64 x.ticket) := by simp [evc]
  have hbk := fun x y => bd_key x y
  have hla := fun (L : List Blk) (e : Option Nat) (hb : L[0]? = some (mapA ⟨A, E, odd⟩)) => lk0 (H := H) (e := e) hok hxo.who hxo.ticket hb
  by_cases k0 : x.kind = 0
  · cases hf : lookA A x.who x.ticket with
    | some m =>
      have hp : pstep ⟨A, E, odd⟩ n x = ⟨A, E, true⟩ := by simp [pstep, k0, hf]
      rw [hp, mapA_odd A E E true odd, mapE_odd A A E true odd]
      simp only [hf, Option.getD_some, Option.isSome_some] at hla
      simp only [stats_pairs.loop4s, stats_pairs.loop4, stats_pairs.j1, stats_pairs.j2, stats_pairs.j3, wFr, mach, Nat.reduceAdd, Nat.reduceLeDiff, Int.reduceEq, Int.reduceLT, Int.reduceLE, hn', hix, hld, zg_world_Event, zl_world_Event, za_world_Event, zg_stats_key, zl_stats_key, za_stats_key, evc_len, evc_cells, evc_refs, putCells_all, hk0, hk1, hk2, hbk, fa_world_Event_0, fa_world_Event_1, fa_world_Event_2, hla, k0, hw, List.append_nil]
      try rfl
    | none =>
      have hp : pstep ⟨A, E, odd⟩ n x = ⟨A ++ [((x.who, x.ticket), n)], E, odd⟩ := by simp [pstep, k0, hf]
      rw [hp]
      simp only [hf, Option.getD_none, Option.isSome_none] at hla
      have hup := fun (L : List Blk) (e : Option Nat) (hb : L[0]? = some (mapA ⟨A, E, odd⟩)) => up0 (H := H) (e := e) (i := n) hok hxo.who hxo.ticket hf hb
      simp only [stats_pairs.loop4s, stats_pairs.loop4, stats_pairs.j1, stats_pairs.j2, stats_pairs.j3, wFr, mach, Nat.reduceAdd, Nat.reduceLeDiff, Int.reduceEq, Int.reduceLT, Int.reduceLE, hn', hix, hld, zg_world_Event, zl_world_Event, za_world_Event, zg_stats_key, zl_stats_key, za_stats_key, evc_len, evc_cells, evc_refs, putCells_all, hk0, hk1, hk2, hbk, fa_world_Event_0, fa_world_Event_1, fa_world_Event_2, hla, hup, k0, hw, List.append_nil]
      try rfl
  · by_cases k1 : x.kind = 1
    · cases hf : lookA A x.who x.ticket with
      | none =>
        have hp : pstep ⟨A, E, odd⟩ n x = ⟨A, E, true⟩ := by simp [pstep, k0, k1, hf]
        rw [hp, mapA_odd A E E true odd, mapE_odd A A E true odd]
        simp only [hf, Option.getD_none, Option.isSome_none] at hla
        simp only [stats_pairs.loop4s, stats_pairs.loop4, stats_pairs.j1, stats_pairs.j2, stats_pairs.j3, wFr, mach, Nat.reduceAdd, Nat.reduceLeDiff, Int.reduceEq, Int.reduceLT, Int.reduceLE, hn', hix, hld, zg_world_Event, zl_world_Event, za_world_Event, zg_stats_key, zl_stats_key, za_stats_key, evc_len, evc_cells, evc_refs, putCells_all, hk0, hk1, hk2, hbk, fa_world_Event_0, fa_world_Event_1, fa_world_Event_2, hla, k1, hw, List.append_nil]
        try rfl
      | some m =>
        simp only [hf, Option.getD_some, Option.isSome_some] at hla
        have hmn : m < n := (hok.a _ (lookA_mem hf)).2.2
        have hle := fun (L : List Blk) (e : Option Nat) (hb : L[1]? = some (mapE ⟨A, E, odd⟩)) => lk1 (H := H) (e := e) hok (by omega) (m := m) (by omega) hb
        cases hg : lookE E m with
        | some q =>
          have hp : pstep ⟨A, E, odd⟩ n x = ⟨A, E, true⟩ := by simp [pstep, k0, k1, hf, hg]
          rw [hp, mapA_odd A E E true odd, mapE_odd A A E true odd]
          simp only [hg, Option.getD_some, Option.isSome_some] at hle
          simp only [stats_pairs.loop4s, stats_pairs.loop4, stats_pairs.j1, stats_pairs.j2, stats_pairs.j3, wFr, mach, Nat.reduceAdd, Nat.reduceLeDiff, Int.reduceEq, Int.reduceLT, Int.reduceLE, hn', hix, hld, zg_world_Event, zl_world_Event, za_world_Event, zg_stats_key, zl_stats_key, za_stats_key, evc_len, evc_cells, evc_refs, putCells_all, hk0, hk1, hk2, hbk, fa_world_Event_0, fa_world_Event_1, fa_world_Event_2, hla, hle, k1, hw, List.append_nil]
          try rfl
        | none =>
          have hp : pstep ⟨A, E, odd⟩ n x = ⟨A, E ++ [(m, n)], odd⟩ := by simp [pstep, k0, k1, hf, hg]
          rw [hp]
          simp only [hg, Option.getD_none, Option.isSome_none] at hle
          have hup := fun (L : List Blk) (e : Option Nat) (hb : L[1]? = some (mapE ⟨A, E, odd⟩)) => up1 (H := H) (e := e) (i := n) hok (by omega) (m := m) (by omega) hg hb
          simp only [stats_pairs.loop4s, stats_pairs.loop4, stats_pairs.j1, stats_pairs.j2, stats_pairs.j3, wFr, mach, Nat.reduceAdd, Nat.reduceLeDiff, Int.reduceEq, Int.reduceLT, Int.reduceLE, hn', hix, hld, zg_world_Event, zl_world_Event, za_world_Event, zg_stats_key, zl_stats_key, za_stats_key, evc_len, evc_cells, evc_refs, putCells_all, hk0, hk1, hk2, hbk, fa_world_Event_0, fa_world_Event_1, fa_world_Event_2, hla, hle, hup, k1, hw, List.append_nil]
          try rfl
    · have hp : pstep ⟨A, E, odd⟩ n x = ⟨A, E, odd⟩ := by simp [pstep, k0, k1]
      rw [hp]
      simp only [stats_pairs.loop4s, stats_pairs.loop4, stats_pairs.j1, stats_pairs.j2, stats_pairs.j3, wFr, mach, Nat.reduceAdd, Nat.reduceLeDiff, Int.reduceEq, Int.reduceLT, Int.reduceLE, hn', hix, hld, zg_world_Event, zl_world_Event, za_world_Event, zg_stats_key, zl_stats_key, za_stats_key, evc_len, evc_cells, evc_refs, putCells_all, hk0, hk1, hk2, hbk, fa_world_Event_0, fa_world_Event_1, fa_world_Event_2, hla, k0, k1, hw, List.append_nil]
theorem clear_key {R : Type} {st : AS} {km : Nat} {es : List MapEntry} {c : Nat} (hk : st.H[km]? = some (.map es c)) (k : Value → AS → Option R) : eBuiltin PP .clear #[t_M_stats_key_int] [.map (some km)] st k = k (.tuple #[]) ⟨st.H.set km (.map [] c), st.esc⟩ := by
  simp [eBuiltin, aClear, u_M_stats_key_int, hk]
theorem spairs_ok (hl : OkEvs l) (hm : l.length < 1000000) (H : List Blk) : acall PP TT n_stats_pairs [tSl l.length (evR l)] H = some (.map (some H.length), H ++ [mapE (pairS l l.length)], none) := by
  have hlast : ¬ ((l.length : Int) < (l.length : Int)) := Int.lt_irrefl _
  have hloop : loopG H.length (stats_pairs.loop4s (acall PP TT) loopG H.length) (wFr H.length l 0, ⟨H ++ [mapA (pairS l 0), mapE (pairS l 0)], none⟩) = some (.exit 0, [.map (some H.length), .map (some (H.length + 1))], ⟨H ++ [mapA (pairS l l.length), mapE (pairS l l.length)], none⟩) := by
    have := loop_upto (n0 := H.length) (len := l.length) (fun n (_ : Unit) => (wFr H.length l n, ⟨H ++ [mapA (pairS l n), mapE (pairS l n)], none⟩)) (fun _ s => s) (fun _ _ => True) (fun _ => (.exit 0, [.map (some H.length), .map (some (H.length + 1))], ⟨H ++ [mapA (pairS l l.length), mapE (pairS l l.length)], none⟩))
      (fun n _ hn _ => by
        obtain ⟨x, hx⟩ : ∃ x, l[n]? = some x := ⟨_, List.getElem?_eq_getElem hn⟩
        exact ⟨_, _, spair_step hl hm hn hx, pst_gc _ _ _, trivial⟩)
      (fun _ _ => by simp only [stats_pairs.loop4s, stats_pairs.loop4, wFr, mach, Nat.reduceAdd, Nat.reduceLeDiff, Int.reduceEq, Int.reduceLT, Int.reduceLE, Int.lt_irrefl]) () (wFr H.length l 0) ⟨H ++ [mapA (pairS l 0), mapE (pairS l 0)], none⟩ trivial (w_gc (pairS l 0) 0 [] (by simp))
    exact this
  have h0 : mapA (pairS l 0) = .map [] 0 := rfl
  have h1 : mapE (pairS l 0) = .map [] 0 := rfl
  rw [h0, h1] at hloop
  simp only [wFr, Int.natCast_zero] at hloop
  have hcl : ∀ (R : Type) (k : Value → AS → Option R), eBuiltin PP .clear #[t_M_stats_key_int] [.map (some H.length)] ⟨H ++ [mapA (pairS l l.length), mapE (pairS l l.length)], none⟩ k = k (.tuple #[]) ⟨H ++ [.map [] (pairS l l.length).A.length, mapE (pairS l l.length)], none⟩ := by
    intro R k
    rw [clear_key (es := entries KA VA 0 (pairS l l.length).A) (c := (pairS l l.length).A.length) (by simp [mapA])]
    simp
  rw [acall_eq, stats_pairs.eq]
  have hb2 : newBlk (newBlk (⟨H, none⟩ : AS) (.map [] 0)) (.map [] 0) = ⟨H ++ [.map [] 0, .map [] 0], none⟩ := by simp [newBlk]
  have hb1 : (newBlk (⟨H, none⟩ : AS) (.map [] 0)).H.length = H.length + 1 := by simp [newBlk]
  simp only [stats_pairs.sh, stats_pairs.j5, mach, Nat.reduceAdd, Nat.reduceLeDiff, Int.reduceEq, Int.reduceLT, Int.reduceLE, ln_wld, hb2, hb1, hloop, hcl]
  have hg : gc H.length [.map (some (H.length + 1))] ⟨H ++ [.map [] (pairS l l.length).A.length, mapE (pairS l l.length)], none⟩ = ([.map (some H.length)], ⟨H ++ [mapE (pairS l l.length)], none⟩) :=
    gc_flats [1] (by intro b hb; rcases List.mem_cons.1 hb with rfl | hb; · rfl
                     simp at hb; subst hb; exact mapE_refs _) rfl (by simp [news_own, news]) (by simp) (by simp [lren, vren, rn_own, rn_own0, findIx, once]) (by simp [once])
  exact fin_keep rfl hg

/-! ### How long each took -/
/-- how long each of the first took -/
def waitL (l : List Ev) : Nat → List Int
  | 0 => []
  | n + 1 => if 0 ≤ endedI l n then waitL l n ++ [endedI l n - n] else waitL l n
theorem waitL_len (l : List Ev) : ∀ n, (waitL l n).length ≤ n
  | 0 => by simp [waitL]
  | n + 1 => by
    have := waitL_len l n
    simp only [waitL]
    split
    · simp; omega
    · omega
theorem lookE_ended (l : List Ev) (n : Nat) : (0 ≤ endedI l n ∧ lookE (pairS l l.length).E n = some (endedI l n).toNat) ∨ (¬ 0 ≤ endedI l n ∧ lookE (pairS l l.length).E n = none) := by
  have := toI_ended l n
  unfold toI at this
  cases h : lookE (pairS l l.length).E n with
  | none => rw [h] at this; right; simp only at this; exact ⟨by omega, rfl⟩
  | some k => rw [h] at this; left; simp only at this; exact ⟨by omega, by rw [← this]; rfl⟩

theorem sw_gc (A : List Int) (s : PS) (n : Nat) : gc H.length [.map (some H.length), rowO (H.length + 1) A, .int .i64 l.length, .int .i64 n] ⟨H ++ (mapE s :: blkO A), none⟩ = ([.map (some H.length), rowO (H.length + 1) A, .int .i64 l.length, .int .i64 n], ⟨H ++ (mapE s :: blkO A), none⟩) := by
  cases A with
  | nil => exact gc_flats [0] (by simp [blkO, mapE_refs]) rfl (by simp [news_own, news, rowO]) (by simp [rowO]) (by simp [lren, vren, rn_own, rn_own0, findIx, once, rowO]) (by simp [once, blkO])
  | cons a tl => exact gc_flats [0, 1] (by simp [blkO, mapE_refs, blkRefs_cells, ints_refs]) rfl (by simp [news_own, news, rowO]) (by simp [rowO]) (by simp [lren, vren, rn_own, rn_own0, findIx, once, rowO]) (by simp [once, blkO])
theorem sw_gc2 (A : List Int) (s : PS) (n : Nat) (v : Int) : gc H.length [.map (some H.length), .slice (some ⟨H.length + ((mapE s :: blkO A).length + 1), 0, none⟩) (A.length + 1) UNK, .int .i64 l.length, .int .i64 n] ⟨H ++ (mapE s :: ((match A with | [] => [] | _ :: _ => [Blk.dead]) ++ [.cells [.int .i64 v] t_int true, .cells (intsH (A ++ [v])) t_int true])), none⟩ = ([.map (some H.length), rowO (H.length + 1) (A ++ [v]), .int .i64 l.length, .int .i64 n], ⟨H ++ (mapE s :: blkO (A ++ [v])), none⟩) := by
  cases A with
  | nil => exact gc_flats [0, 2] (by simp [mapE_refs, blkRefs_cells]) rfl (by simp [news_own, news, blkO]) (by simp) (by simp [lren, vren, rn_own, rn_own0, findIx, once, rowO, blkO]) (by simp [once, blkO])
  | cons a tl => exact gc_flats [0, 3] (by simp [mapE_refs, blkRefs_cells, blkRefs_dead, ints_refs]) rfl (by simp [news_own, news, blkO]) (by simp) (by simp [lren, vren, rn_own, rn_own0, findIx, once, rowO, blkO]) (by simp [once, blkO])
end
end Go.Proofs.Ytpklhjeccbjalaa

end
section
namespace Go.Proofs.Ytpklhjeccbjalaa
open Go Go.Am
set_option linter.unusedVariables false

section
variable {l : List Ev} {H : List Blk}
theorem push_int1 {A : List Int} (hm : A.length ≤ 65535) {L : List Blk} {e : Option Nat} {v : Int} {R : Type} {F : Value → AS → Option R} (hk : L[1]? = some (.cells (intsH A) t_int true)) :
    ((bsl PP t_L_int 1 [0] [.int .i64 v] ⟨H ++ L, e⟩).bind fun q => eBuiltin PP .append #[t_L_int, t_L_int] [.slice (some ⟨H.length + 1, 0, none⟩) A.length UNK, q.1] q.2 F) = F (.slice (some ⟨H.length + (L.length + 1), 0, none⟩) (A.length + 1) UNK) ⟨H ++ (L.set 1 .dead ++ [.cells [.int .i64 v] t_int true, .cells (intsH A ++ [.int .i64 v]) t_int true]), e⟩ :=
  push_more (k := 1) el_L_int rfl (bsl_int v) hk (by simp) hm
theorem fin_rowO1 (A : List Int) (B : Blk) (e : Option Nat) (he : escOk H.length e = true) : fin PP false H.length [rowO (H.length + 1) A] ⟨H ++ (B :: blkO A), e⟩ = some (tSl A.length (intsH A), H, none) := by
  cases A with
  | nil => exact fin_nil he
  | cons a tl => exact fin_row (k := 1) (sz := 1) rfl sz_int (by simp) (ints_flat _) (ints_refs _) he
theorem swaits_ok (hl : OkEvs l) (hm : l.length < 60000) (H : List Blk) : acall PP TT n_stats_Waits [tSl l.length (evR l)] H = some (tSl (waitL l l.length).length (intsH (waitL l l.length)), H, none) := by
  have hs := pairS_ok hl l.length (Nat.le_refl _)
  have hloop := loop_upto (n0 := H.length) (step := stats_Waits.loop4s (acall PP TT) loopG H.length) (len := l.length)
    (fun n (_ : Unit) => ([.map (some H.length), rowO (H.length + 1) (waitL l n), .int .i64 l.length, .int .i64 n], ⟨H ++ (mapE (pairS l l.length) :: blkO (waitL l n)), none⟩)) (fun _ s => s) (fun _ _ => True) (fun _ => (.exit 0, [rowO (H.length + 1) (waitL l l.length)], ⟨H ++ (mapE (pairS l l.length) :: blkO (waitL l l.length)), none⟩))
    (fun n _ hn _ => by
      have hn' : ((n : Int) < (l.length : Int)) := by omega
      have hw := wrap_succ (n := n) (by omega)
      have hlk : ∀ (L : List Blk) (e : Option Nat), L[0]? = some (mapE (pairS l l.length)) → aLookup PP t_M_int_int (.map (some H.length)) (.int .i64 n) true ⟨H ++ L, e⟩ = some (.tuple #[.int .i64 (((lookE (pairS l l.length).E n).getD 0 : Nat) : Int), .bool (lookE (pairS l l.length).E n).isSome]) := fun L e hb => lk_en (k := 0) hs (by omega) (by omega) hb
      have hlen := waitL_len l n
      have hw2 : waitL l (n + 1) = if 0 ≤ endedI l n then waitL l n ++ [endedI l n - n] else waitL l n := rfl
      have hI := endedI_isI (l := l) (by omega) n
      rw [hw2]
      generalize waitL l n = A at hlen
      rcases lookE_ended l n with ⟨h1, h2⟩ | ⟨h1, h2⟩
      · simp only [h1, if_true]
        rw [h2] at hlk
        have he : ((endedI l n).toNat : Int) = endedI l n := by omega
        simp only [Option.getD_some, Option.isSome_some, he] at hlk
        have hws : IntKind.i64.wrap (endedI l n - (n : Int)) = endedI l n - n := wrap_in ⟨by omega, by omega⟩
        refine ⟨_, _, ?_, sw_gc2 A (pairS l l.length) (n + 1) _, trivial⟩
        generalize mapE (pairS l l.length) = B at hlk
        cases A with
        | nil => simp only [stats_Waits.loop4s, stats_Waits.loop4, stats_Waits.j1, rowO, blkO, mach, Nat.reduceAdd, Nat.reduceLeDiff, Int.reduceEq, Int.reduceLT, Int.reduceLE, hn', hlk, hws, push_int_nil, hw, List.append_nil, List.map_cons, List.map_nil]
        | cons a tl =>
          have hpi := fun (L : List Blk) (e : Option Nat) (v : Int) (R : Type) (F : Value → AS → Option R) (hk : L[1]? = some (.cells (intsH (a :: tl)) t_int true)) => push_int1 (H := H) (A := a :: tl) (by omega) (e := e) (v := v) (F := F) hk
          simp only [List.length_cons, List.map_cons] at hpi
          simp only [stats_Waits.loop4s, stats_Waits.loop4, stats_Waits.j1, rowO, blkO, mach, Nat.reduceAdd, Nat.reduceLeDiff, Int.reduceEq, Int.reduceLT, Int.reduceLE, hn', hlk, hws, hpi, hw, List.append_nil, List.map_append, List.map_cons, List.map_nil, List.set_cons_succ, List.set_cons_zero]
      · simp only [h1, if_false]
        rw [h2] at hlk
        simp only [Option.getD_none, Option.isSome_none] at hlk
        refine ⟨_, _, ?_, sw_gc A (pairS l l.length) (n + 1), trivial⟩
        simp only [stats_Waits.loop4s, stats_Waits.loop4, stats_Waits.j1, mach, Nat.reduceAdd, Nat.reduceLeDiff, Int.reduceEq, Int.reduceLT, Int.reduceLE, hn', hlk, hw])
    (fun _ _ => by simp only [stats_Waits.loop4s, stats_Waits.loop4, mach, Nat.reduceAdd, Nat.reduceLeDiff, Int.reduceEq, Int.reduceLT, Int.reduceLE, Int.lt_irrefl]) () [.map (some H.length), .slice none 0 0, .int .i64 l.length, .int .i64 0] ⟨H ++ [mapE (pairS l l.length)], none⟩ trivial (sw_gc [] (pairS l l.length) 0)
  rw [acall_eq, stats_Waits.eq]
  simp only [stats_Waits.sh, stats_Waits.j3, mach, Nat.reduceAdd, Nat.reduceLeDiff, Int.reduceEq, Int.reduceLT, Int.reduceLE, spairs_ok hl (by omega : l.length < 1000000) H, ln_wld, hloop]
  exact fin_rowO1 _ _ _ rfl

/-! ### The document's -/
theorem ld_int {A : List Int} {k : Nat} {x : Int} (hk : A[k]? = some x) (st : AS) : aLoad false 1 st (tPtr k (intsH A).toArray) = some (.int .i64 x) := by
  simp [aLoad, tPtr, tLoad, hk]
theorem ix_int {A : List Int} {k : Nat} (hk : k < A.length) : aIndexAddr PP t_L_int (tSl A.length (intsH A)) (.int .i64 (k : Int)) = some (tPtr k (intsH A).toArray) := by
  have := tsl_index (P := PP) (sz := 1) (row := intsH A) (j := .i64) u_L_int sz_int hk
  rwa [Nat.mul_one] at this
theorem ln_int (A : List Int) (st : AS) : aLen PP t_L_int (tSl A.length (intsH A)) st = some (.int .i64 A.length) := tsl_len u_L_int
theorem in_ok (A : List Int) (hm : A.length < 1000000) (v : Int) (H : List Blk) : acall PP TT n_twainref47_in [tSl A.length (intsH A), .int .i64 v] H = some (.bool (decide (v ∈ A)), H, none) := by
  have hr : vrefs (tSl A.length (intsH A)) = [] := by simp [ints_refs]
  obtain ⟨r, hlp, hq⟩ := loop_r (n0 := H.length) (step := twainref47_in.loop2s (acall PP TT) loopG H.length) (len := A.length) (σ := Unit)
    (fun n _ => ([.int .i64 v, tSl A.length (intsH A), .int .i64 A.length, .int .i64 n], ⟨H, none⟩))
    (fun n _ => v ∉ A.take n) (fun r => (r = (.ret, [.bool true], ⟨H, none⟩) ∧ v ∈ A) ∨ (r = (.exit 0, [unk], ⟨H, none⟩) ∧ v ∉ A))
    (fun n _ hn ho => by
      have hn' : ((n : Int) < (A.length : Int)) := by omega
      have hw := wrap_succ (n := n) (by omega)
      obtain ⟨x, hx⟩ : ∃ x, A[n]? = some x := ⟨_, List.getElem?_eq_getElem hn⟩
      by_cases he : x = v
      · left
        refine ⟨_, ?_, .inl ⟨rfl, by rw [← he]; exact List.mem_of_getElem? hx⟩⟩
        simp only [twainref47_in.loop2s, twainref47_in.loop2, mach, Nat.reduceAdd, Nat.reduceLeDiff, Int.reduceEq, Int.reduceLT, Int.reduceLE, hn', ix_int hn, ld_int hx, he]
      · right
        refine ⟨[.int .i64 v, tSl A.length (intsH A), .int .i64 A.length, .int .i64 ((n + 1 : Nat) : Int)], ⟨H, none⟩, (), ?_, ?_, ?_⟩
        · simp only [twainref47_in.loop2s, twainref47_in.loop2, mach, Nat.reduceAdd, Nat.reduceLeDiff, Int.reduceEq, Int.reduceLT, Int.reduceLE, hn', ix_int hn, ld_int hx, he, hw]
        · have := gc_clean (H0 := H) (l := []) (e := none) (vs := [.int .i64 v, tSl A.length (intsH A), .int .i64 A.length, .int .i64 ((n + 1 : Nat) : Int)]) (by simp [ints_refs]) rfl
          rwa [List.append_nil] at this
        · rw [take_snoc hx]
          simp only [List.mem_append, List.mem_singleton, not_or]
          exact ⟨ho, fun h => he h.symm⟩)
    (fun _ ho => ⟨_, by simp only [twainref47_in.loop2s, twainref47_in.loop2, mach, Nat.reduceAdd, Nat.reduceLeDiff, Int.reduceEq, Int.reduceLT, Int.reduceLE, Int.lt_irrefl], .inr ⟨rfl, by rwa [List.take_length] at ho⟩⟩)
    A.length 0 () [.int .i64 v, tSl A.length (intsH A), .int .i64 A.length, .int .i64 0] ⟨H, none⟩ (by omega) (by simp) (by
      have := gc_clean (H0 := H) (l := []) (e := none) (vs := [.int .i64 v, tSl A.length (intsH A), .int .i64 A.length, .int .i64 0]) (by simp [ints_refs]) rfl
      rwa [List.append_nil] at this)
  rw [acall_eq, twainref47_in.eq]
  rcases hq with ⟨rfl, hq⟩ | ⟨rfl, hq⟩
  · simp only [twainref47_in.sh, twainref47_in.j2, mach, Nat.reduceAdd, Nat.reduceLeDiff, Int.reduceEq, Int.reduceLT, Int.reduceLE, ln_int, hlp, hq]
    exact fin_lit0 rfl rfl
  · simp only [twainref47_in.sh, twainref47_in.j2, mach, Nat.reduceAdd, Nat.reduceLeDiff, Int.reduceEq, Int.reduceLT, Int.reduceLE, ln_int, hlp, hq]
    exact fin_lit0 rfl rfl
end
end Go.Proofs.Ytpklhjeccbjalaa

end
section
namespace Go.Proofs.Ytpklhjeccbjalaa
open Go Go.Am
set_option linter.unusedVariables false

section
variable {l : List Ev} {H : List Blk}
def sameB (l : List Ev) (i k : Nat) : Bool := match l[k]?, l[i]? with
  | some y, some x => decide (y.kind = 1) && decide (y.who = x.who) && decide (y.ticket = x.ticket)
  | _, _ => false
theorem mem_openL (p : Nat → Bool) (i : Nat) : ∀ n, (i : Int) ∈ openL p n ↔ i < n ∧ p i = true
  | 0 => by simp [openL]
  | n + 1 => by
    have ih := mem_openL p i n
    simp only [openL]
    by_cases hp : p n = true
    · simp only [hp, if_true, List.mem_append, List.mem_singleton, ih]
      constructor
      · rintro (h | h)
        · exact ⟨by omega, h.2⟩
        · have : i = n := by omega
          subst this; exact ⟨by omega, hp⟩
      · rintro ⟨h1, h2⟩
        by_cases he : i = n
        · right; omega
        · left; exact ⟨by omega, h2⟩
    · simp only [hp, Bool.false_eq_true, if_false, ih]
      constructor
      · exact fun h => ⟨by omega, h.2⟩
      · rintro ⟨h1, h2⟩
        refine ⟨?_, h2⟩
        have : i ≠ n := fun e => hp (e ▸ h2)
        omega
theorem askO_some {n i : Nat} {w t : Int} (h : askO l n w t = some i) : i < n ∧ (∃ x, l[i]? = some x ∧ askP w t x = true) ∧ ∀ j x, j < i → l[j]? = some x → askP w t x = false := by
  unfold askO at h
  obtain ⟨h1, h2, h3⟩ := List.findIdx?_eq_some_iff_getElem.1 h
  have hl : i < n ∧ i < l.length := by simp at h1; omega
  refine ⟨hl.1, ⟨l[i], List.getElem?_eq_getElem hl.2, by simpa using h2⟩, fun j x hj hx => ?_⟩
  have := h3 j hj
  rw [List.getElem_take] at this
  have hxj : l[j]'(by omega) = x := by rw [List.getElem?_eq_getElem (by omega)] at hx; exact Option.some.inj hx
  rw [hxj] at this
  simpa using this
theorem askO_same {n j i : Nat} {w t : Int} (h : askO l n w t = some i) (hj : i < j) : askO l j w t = some i := by
  obtain ⟨h1, ⟨x, hx, h2⟩, h3⟩ := askO_some h
  unfold askO
  exact findIdx_take _ l j i h3 (fun y hy => by rw [hx] at hy; cases hy; exact h2) hj (lt_of_get hx)
theorem ended_spec {i : Nat} (h : 0 ≤ endedI l i) : ∃ (m : Nat) (x y : Ev), endedI l i = (m : Int) ∧ i < m ∧ l[i]? = some x ∧ l[m]? = some y ∧ x.kind = 0 ∧ y.kind = 1 ∧ y.who = x.who ∧ y.ticket = x.ticket ∧ askO l m y.who y.ticket = some i ∧ ∀ j, i < j → j < m → endsB l i j = false := by
  unfold endedI at h ⊢
  rcases firstN_spec (p := endsB l i) (l.length - (i + 1)) (i + 1) with ⟨h1, _⟩ | ⟨m, h1, h2, h3, h4, h5⟩
  · omega
  have hm := h4
  unfold endsB at h4
  split at h4
  · rename_i y hy
    simp only [Bool.and_eq_true, decide_eq_true_eq] at h4
    obtain ⟨k1, k2⟩ := h4
    rw [askedI_eq hy] at k2
    split at k2
    · rename_i q hq
      have : q = i := by omega
      subst this
      obtain ⟨_, ⟨x, hx, hp⟩, _⟩ := askO_some hq
      simp only [askP, Bool.and_eq_true, decide_eq_true_eq] at hp
      exact ⟨m, x, y, h1, by omega, hx, hy, hp.1.1, k1, hp.1.2.symm, hp.2.symm, hq, fun j a b => h5 j (by omega) b⟩
    · omega
  · simp at h4
theorem end_eq {i : Nat} (h : 0 ≤ endedI l i) : firstN (sameB l i) (i + 1) (l.length - (i + 1)) = endedI l i := by
  obtain ⟨m, x, y, h1, h2, hx, hy, kx, ky, hw, ht, hq, hn⟩ := ended_spec h
  rw [h1]
  have := lt_of_get hy
  refine firstN_hit _ _ m (fun j a b => ?_) (by simp [sameB, hx, hy, ky, hw, ht]) (by omega) (by omega)
  cases hs : sameB l i j with
  | false => rfl
  | true =>
    have hno := hn j (by omega) b
    unfold sameB at hs
    split at hs
    · rename_i z x' hz hx'
      rw [hx] at hx'; cases hx'
      simp only [Bool.and_eq_true, decide_eq_true_eq] at hs
      have hq2 := askO_same hq (show i < j by omega)
      rw [hw, ht, ← hs.1.2, ← hs.2] at hq2
      have : endsB l i j = true := by
        unfold endsB
        rw [hz]
        simp only [Bool.and_eq_true, decide_eq_true_eq]
        refine ⟨hs.1.1, ?_⟩
        rw [askedI_eq hz, hq2]
      rw [hno] at this; cases this
    · simp at hs
theorem kind_of_ended {i : Nat} {x : Ev} (hx : l[i]? = some x) (h : 0 ≤ endedI l i) : x.kind = 0 := by
  obtain ⟨m, x', y, _, _, hx', _, kx, _⟩ := ended_spec h
  rw [hx] at hx'; cases hx'; exact kx

theorem clean0 {vs : List Value} (hr : lrefs vs = []) : gc H.length vs ⟨H, none⟩ = (vs, ⟨H, none⟩) := by
  have := gc_clean (H0 := H) (l := []) (e := none) hr rfl
  rwa [List.append_nil] at this
theorem evV_refs (l : List Ev) : vrefs (tSl l.length (evR l)) = [] := by simp [evR_refs]
theorem fa8 (off : Nat) (row : Array Value) (k : Nat) : True := trivial
theorem rend_ok (hl : OkEvs l) (hm : l.length < 60000) {i : Nat} {x : Ev} (hx : l[i]? = some x) (k0 : x.kind = 0) (H : List Blk) : acall PP TT n_twainref47_end [tSl l.length (evR l), .int .i64 i] H = some (.int .i64 (endedI l i), H, none) := by
  have hi := lt_of_get hx
  have hop := ropen_ok hl hm H
  have hin := in_ok (openL (rOpenB l) l.length) (by have := openL_len (rOpenB l) l.length; omega) i H
  have hI := endedI_isI (l := l) (by omega) i
  have hrb : rOpenB l i = decide (endedI l i < 0) := by simp [rOpenB, hx, k0]
  have hmem : ((i : Int) ∈ openL (rOpenB l) l.length) ↔ endedI l i < 0 := by
    rw [mem_openL, hrb, decide_eq_true_eq]
    exact ⟨fun h => h.2, fun h => ⟨hi, h⟩⟩
  rw [acall_eq, twainref47_end.eq]
  by_cases hneg : endedI l i < 0
  · have he : endedI l i = -1 := by omega
    have hd : decide ((i : Int) ∈ openL (rOpenB l) l.length) = true := by rw [decide_eq_true_eq, hmem]; exact hneg
    rw [hd] at hin
    simp only [twainref47_end.sh, mach, Nat.reduceAdd, Nat.reduceLeDiff, Int.reduceEq, Int.reduceLT, Int.reduceLE, hop, hin, he]
    exact fin_lit0 rfl rfl
  · have hd : decide ((i : Int) ∈ openL (rOpenB l) l.length) = false := by rw [decide_eq_false_iff_not, hmem]; exact hneg
    rw [hd] at hin
    have hix := ix_ref hi
    have hx1 := ev_who hx
    have hx2 := ev_ticket hx
    have hwi := wrap_succ (n := i) (by omega)
    obtain ⟨m, x', y, h1, h2, hx', hy, kx, ky, hw, ht, hq, hn⟩ := ended_spec (l := l) (i := i) (by omega)
    rw [hx] at hx'; cases hx'
    have hml := lt_of_get hy
    have hfst := end_eq (l := l) (i := i) (by omega)
    obtain ⟨r, hlp, hqq⟩ := loop_r (n0 := H.length) (step := twainref47_end.loop4s (acall PP TT) loopG H.length) (len := l.length - (i + 1)) (σ := Unit)
      (fun n _ => ([tSl l.length (evR l), .int .i64 i, .int .i64 ((i + 1 + n : Nat) : Int)], ⟨H, none⟩))
      (fun n _ => ∀ j, i < j → j < i + 1 + n → sameB l i j = false) (fun r => r = (.ret, [.int .i64 (m : Int)], ⟨H, none⟩))
      (fun n _ hn ho => by
        have hlt : i + 1 + n < l.length := by omega
        have hn' : (((i + 1 + n : Nat) : Int) < (l.length : Int)) := by omega
        obtain ⟨z, hz⟩ : ∃ z, l[i + 1 + n]? = some z := ⟨_, List.getElem?_eq_getElem hlt⟩
        have hw' := wrap_succ (n := i + 1 + n) (by omega)
        have hiz := ix_ref hlt
        have hz0 := ev_kind hz
        have hz1 := ev_who hz
        have hz2 := ev_ticket hz
        have hsb : sameB l i (i + 1 + n) = (decide (z.kind = 1) && decide (z.who = x.who) && decide (z.ticket = x.ticket)) := by simp [sameB, hz, hx]
        cases hs : sameB l i (i + 1 + n) with
        | true =>
          left
          have hmn : i + 1 + n = m := by
            have hf := firstN_hit (p := sameB l i) (l.length - (i + 1)) (i + 1) (i + 1 + n) (fun j a b => ho j (by omega) b) hs (by omega) (by omega)
            omega
          rw [hsb, Bool.and_eq_true, Bool.and_eq_true, decide_eq_true_eq, decide_eq_true_eq, decide_eq_true_eq] at hs
          refine ⟨_, ?_, rfl⟩
          rw [← hmn]
          generalize i + 1 + n = q at hn' hw' hiz hz0 hz1 hz2
          simp only [twainref47_end.loop4s, twainref47_end.loop4, twainref47_end.j1, mach, Nat.reduceAdd, Nat.reduceLeDiff, Int.reduceEq, Int.reduceLT, Int.reduceLE, ln_ref, hn', hiz, hix, ft_twainref34_Event_0, ft_twainref34_Event_1, ft_twainref34_Event_2, hz0, hz1, hz2, hx1, hx2, hs.1.1, hs.1.2, hs.2]
        | false =>
          right
          rw [hsb, Bool.and_eq_false_iff, Bool.and_eq_false_iff, decide_eq_false_iff_not, decide_eq_false_iff_not, decide_eq_false_iff_not] at hs
          refine ⟨[tSl l.length (evR l), .int .i64 i, .int .i64 ((i + 1 + (n + 1) : Nat) : Int)], ⟨H, none⟩, (), ?_, clean0 (by simp [evR_refs]), fun j a b => ?_⟩
          · rw [show i + 1 + (n + 1) = i + 1 + n + 1 by omega]
            generalize i + 1 + n = q at hn' hw' hiz hz0 hz1 hz2
            by_cases c1 : z.kind = 1
            · by_cases c2 : z.who = x.who
              · have c3 : ¬ z.ticket = x.ticket := by rcases hs with (h | h) | h <;> simp_all
                simp only [twainref47_end.loop4s, twainref47_end.loop4, twainref47_end.j1, twainref47_end.j2, mach, Nat.reduceAdd, Nat.reduceLeDiff, Int.reduceEq, Int.reduceLT, Int.reduceLE, ln_ref, hn', hiz, hix, ft_twainref34_Event_0, ft_twainref34_Event_1, ft_twainref34_Event_2, hz0, hz1, hz2, hx1, hx2, c1, c2, c3, hw']
              · simp only [twainref47_end.loop4s, twainref47_end.loop4, twainref47_end.j1, twainref47_end.j2, mach, Nat.reduceAdd, Nat.reduceLeDiff, Int.reduceEq, Int.reduceLT, Int.reduceLE, ln_ref, hn', hiz, hix, ft_twainref34_Event_0, ft_twainref34_Event_1, ft_twainref34_Event_2, hz0, hz1, hz2, hx1, hx2, c1, c2, hw']
            · simp only [twainref47_end.loop4s, twainref47_end.loop4, twainref47_end.j1, twainref47_end.j2, mach, Nat.reduceAdd, Nat.reduceLeDiff, Int.reduceEq, Int.reduceLT, Int.reduceLE, ln_ref, hn', hiz, hix, ft_twainref34_Event_0, ft_twainref34_Event_1, ft_twainref34_Event_2, hz0, hz1, hz2, hx1, hx2, c1, hw']
          · by_cases he : j = i + 1 + n
            · subst he
              rw [hsb, Bool.and_eq_false_iff, Bool.and_eq_false_iff, decide_eq_false_iff_not, decide_eq_false_iff_not, decide_eq_false_iff_not]
              exact hs
            · exact ho j a (by omega))
      (fun _ ho => by
        exfalso
        have := ho m h2 (by omega)
        simp [sameB, hx, hy, ky, hw, ht] at this)
      (l.length - (i + 1)) 0 () [tSl l.length (evR l), .int .i64 i, .int .i64 ((i + 1 : Nat) : Int)] ⟨H, none⟩ (by omega) (fun j a b => by omega) (clean0 (by simp [evR_refs]))
    subst hqq
    rw [h1]
    simp only [twainref47_end.sh, mach, Nat.reduceAdd, Nat.reduceLeDiff, Int.reduceEq, Int.reduceLT, Int.reduceLE, hop, hin, hwi, hlp]
    exact fin_lit0 rfl rfl
end
end Go.Proofs.Ytpklhjeccbjalaa

end
section
namespace Go.Proofs.Ytpklhjeccbjalaa
open Go Go.Am
set_option linter.unusedVariables false

section
variable {l : List Ev} {H : List Blk}
theorem rwaits_ok (hl : OkEvs l) (hm : l.length < 60000) (H : List Blk) : acall PP TT n_twainref47_Waits [tSl l.length (evR l)] H = some (tSl (waitL l l.length).length (intsH (waitL l l.length)), H, none) := by
  have hloop := loop_upto (n0 := H.length) (step := twainref47_Waits.loop3s (acall PP TT) loopG H.length) (len := l.length)
    (fun n (_ : Unit) => ([tSl l.length (evR l), rowO H.length (waitL l n), tSl l.length (evR l), .int .i64 l.length, .int .i64 n], ⟨H ++ blkO (waitL l n), none⟩)) (fun _ s => s) (fun _ _ => True) (fun _ => (.exit 0, [rowO H.length (waitL l l.length)], ⟨H ++ blkO (waitL l l.length), none⟩))
    (fun n _ hn _ => by
      obtain ⟨x, hx⟩ : ∃ x, l[n]? = some x := ⟨_, List.getElem?_eq_getElem hn⟩
      have hn' : ((n : Int) < (l.length : Int)) := by omega
      have hix := ix_ref hn
      have hld := fun st => ev_load hx st
      have hw := wrap_succ (n := n) (by omega)
      have hk0 : (evc x)[0]? = some (.int .i64 x.kind) := by simp [evc]
      have hlen := waitL_len l n
      have hw2 : waitL l (n + 1) = if 0 ≤ endedI l n then waitL l n ++ [endedI l n - n] else waitL l n := rfl
      have hI := endedI_isI (l := l) (by omega) n
      have hws : IntKind.i64.wrap (endedI l n - (n : Int)) = endedI l n - n := wrap_in ⟨by omega, by omega⟩
      rw [hw2]
      generalize waitL l n = A at hlen
      by_cases h1 : 0 ≤ endedI l n
      · have k0 := kind_of_ended hx h1
        have hed := fun H => rend_ok hl hm hx k0 H
        simp only [h1, if_true]
        refine ⟨_, _, ?_, ropen_gc2 A (n + 1) x _, trivial⟩
        cases A with
        | nil => simp only [twainref47_Waits.loop3s, twainref47_Waits.loop3, twainref47_Waits.j1, rowO, blkO, mach, Nat.reduceAdd, Nat.reduceLeDiff, Int.reduceEq, Int.reduceLT, Int.reduceLE, hn', hix, hld, zg_twainref34_Event, zl_twainref34_Event, za_twainref34_Event, evc_len, evc_cells, evc_refs, putCells_all, hk0, fa_twainref34_Event_0, hed, k0, h1, hws, push_int_nil, hw, List.append_nil, List.map_cons, List.map_nil]
        | cons a tl =>
          have hpi := fun (L : List Blk) (e : Option Nat) (v : Int) (R : Type) (F : Value → AS → Option R) (hk : L[0]? = some (.cells (intsH (a :: tl)) t_int true)) => push_int (H := H) (A := a :: tl) (by omega) (e := e) (v := v) (F := F) hk
          simp only [List.length_cons, List.map_cons] at hpi
          simp only [twainref47_Waits.loop3s, twainref47_Waits.loop3, twainref47_Waits.j1, rowO, blkO, mach, Nat.reduceAdd, Nat.reduceLeDiff, Int.reduceEq, Int.reduceLT, Int.reduceLE, hn', hix, hld, zg_twainref34_Event, zl_twainref34_Event, za_twainref34_Event, evc_len, evc_cells, evc_refs, putCells_all, hk0, fa_twainref34_Event_0, hed, k0, h1, hws, hpi, hw, List.append_nil, List.set_cons_zero, List.map_append, List.map_cons, List.map_nil]
      · simp only [h1, if_false]
        refine ⟨_, _, ?_, ropen_gc A (n + 1) x, trivial⟩
        by_cases k0 : x.kind = 0
        · have hed := fun H => rend_ok hl hm hx k0 H
          cases A <;> simp only [rowO, blkO, twainref47_Waits.loop3s, twainref47_Waits.loop3, twainref47_Waits.j1, mach, Nat.reduceAdd, Nat.reduceLeDiff, Int.reduceEq, Int.reduceLT, Int.reduceLE, hn', hix, hld, zg_twainref34_Event, zl_twainref34_Event, za_twainref34_Event, evc_len, evc_cells, evc_refs, putCells_all, hk0, fa_twainref34_Event_0, hed, k0, h1, hw]
        · cases A <;> simp only [rowO, blkO, twainref47_Waits.loop3s, twainref47_Waits.loop3, twainref47_Waits.j1, mach, Nat.reduceAdd, Nat.reduceLeDiff, Int.reduceEq, Int.reduceLT, Int.reduceLE, hn', hix, hld, zg_twainref34_Event, zl_twainref34_Event, za_twainref34_Event, evc_len, evc_cells, evc_refs, putCells_all, hk0, fa_twainref34_Event_0, k0, hw])
    (fun _ _ => by simp only [twainref47_Waits.loop3s, twainref47_Waits.loop3, mach, Nat.reduceAdd, Nat.reduceLeDiff, Int.reduceEq, Int.reduceLT, Int.reduceLE, Int.lt_irrefl]) () [tSl l.length (evR l), .slice none 0 0, tSl l.length (evR l), .int .i64 l.length, .int .i64 0] ⟨H, none⟩ trivial (by simpa [waitL, rowO, blkO] using clean0 (H := H) (vs := [tSl l.length (evR l), .slice none 0 0, tSl l.length (evR l), .int .i64 l.length, .int .i64 0]) (by simp [evR_refs]))
  rw [acall_eq, twainref47_Waits.eq]
  simp only [twainref47_Waits.sh, twainref47_Waits.j3, mach, Nat.reduceAdd, Nat.reduceLeDiff, Int.reduceEq, Int.reduceLT, Int.reduceLE, ln_ref, hloop]
  have := fin_rowO (H := H) (waitL l l.length) [] none rfl
  rwa [List.append_nil] at this

/-! ### What is open at a time -/
/-- does event k shut what was asked at i? -/
def shutB (l : List Ev) (i k : Nat) : Bool := match l[k]?, l[i]? with
  | some y, some x => (decide (y.kind = 2) && decide (y.who = x.who)) || decide ((k : Int) = endedI l i)
  | _, _ => false
def kind0 (l : List Ev) (i : Nat) : Bool := match l[i]? with | some x => decide (x.kind = 0) | none => false
/-- is what was asked at i open behind so many events? -/
def openAt (l : List Ev) (i m : Nat) : Bool := kind0 l i && (List.range m).all fun k => decide (k ≤ i) || !shutB l i k
theorem openAt_succ (i m : Nat) : openAt l i (m + 1) = (openAt l i m && (decide (m ≤ i) || !shutB l i m)) := by
  simp [openAt, List.range_succ, List.all_append, Bool.and_assoc]
theorem openAt_same (m : Nat) : openAt l m (m + 1) = kind0 l m := by
  unfold openAt
  have : ((List.range (m + 1)).all fun k => decide (k ≤ m) || !shutB l m k) = true := by
    rw [List.all_eq_true]
    intro k hk
    have := List.mem_range.1 hk
    have : k ≤ m := by omega
    simp [this]
  rw [this, Bool.and_true]
/-- those of some that are open -/
def opens (l : List Ev) (q : Nat → Bool) (m : Nat) : List Nat := (List.range m).filter fun i => openAt l i m && q i
def whoB (l : List Ev) (w : Int) (i : Nat) : Bool := match l[i]? with | some x => decide (x.who = w) | none => false
theorem opens_step (q : Nat → Bool) (m : Nat) : opens l q (m + 1) = ((opens l q m).filter fun i => !shutB l i m) ++ (if kind0 l m = true ∧ q m = true then [m] else []) := by
  unfold opens
  rw [List.range_succ, List.filter_append, List.filter_filter]
  congr 1
  · refine List.filter_congr fun i hi => ?_
    have hi := List.mem_range.1 hi
    rw [openAt_succ]
    have : ¬ m ≤ i := by omega
    simp only [this, decide_false, Bool.false_or]
    cases openAt l i m <;> cases shutB l i m <;> cases q i <;> rfl
  · simp only [List.filter_cons, List.filter_nil, openAt_same]
    cases kind0 l m <;> cases q m <;> simp
theorem mem_opens {q : Nat → Bool} {m i : Nat} : i ∈ opens l q m ↔ i < m ∧ openAt l i m = true ∧ q i = true := by
  simp [opens, List.mem_filter]
theorem opens_split (q : Nat → Bool) (m : Nat) : (opens l (fun _ => true) m).length = (opens l q m).length + (opens l (fun i => !q i) m).length := by
  unfold opens
  generalize List.range m = L
  induction L with
  | nil => rfl
  | cons a L ih =>
    simp only [List.filter_cons, Bool.and_true] at ih ⊢
    cases openAt l a m <;> cases q a <;> simp [ih] <;> omega
theorem nodup_opens (q : Nat → Bool) (m : Nat) : (opens l q m).Nodup := List.Pairwise.filter _ List.nodup_range
theorem opens_len (q : Nat → Bool) (m : Nat) : (opens l q m).length ≤ m := by
  have := List.length_filter_le (fun i => openAt l i m && q i) (List.range m)
  rw [List.length_range] at this
  exact this
def bestN (l : List Ev) : Nat → Nat
  | 0 => 0
  | m + 1 => max (bestN l m) (opens l (fun _ => true) (m + 1)).length
theorem bestN_le : ∀ m, bestN l m ≤ m
  | 0 => Nat.le_refl _
  | m + 1 => by
    have := bestN_le m
    have h2 := opens_len (l := l) (fun _ => true) (m + 1)
    simp only [bestN]
    omega
/-- of another's nothing is shut, nor asked -/
theorem opens_other {m : Nat} {x : Ev} (hx : l[m]? = some x) {q : Nat → Bool} (hq : ∀ i y, l[i]? = some y → q i = true → y.who ≠ x.who) : opens l q (m + 1) = opens l q m := by
  rw [opens_step]
  have h1 : ¬ (kind0 l m = true ∧ q m = true) := fun h => hq m x hx h.2 rfl
  rw [if_neg h1, List.append_nil, List.filter_eq_self]
  intro i hi
  obtain ⟨h2, h3, h4⟩ := mem_opens.1 hi
  obtain ⟨y, hy⟩ : ∃ y, l[i]? = some y := ⟨_, List.getElem?_eq_getElem (by have := lt_of_get hx; omega)⟩
  have hne := hq i y hy h4
  have : shutB l i m = false := by
    simp only [shutB, hx, hy]
    have c1 : ¬ x.who = y.who := fun e => hne e.symm
    have c2 : ¬ (m : Int) = endedI l i := by
      intro e
      obtain ⟨m', x', y', g1, g2, gx, gy, _, _, gw, _⟩ := ended_spec (l := l) (i := i) (by omega)
      have : m' = m := by omega
      subst this
      rw [hx] at gy; rw [hy] at gx
      cases gx; cases gy
      exact c1 gw
    simp [c1, c2]
  simp [this]
theorem total_step {m : Nat} {x : Ev} (hx : l[m]? = some x) : (opens l (fun _ => true) (m + 1)).length + (opens l (whoB l x.who) m).length = (opens l (fun _ => true) m).length + (opens l (whoB l x.who) (m + 1)).length := by
  have h1 := opens_split (l := l) (whoB l x.who) (m + 1)
  have h2 := opens_split (l := l) (whoB l x.who) m
  have h3 := opens_other (q := fun i => !whoB l x.who i) hx (fun i y hy hq => by
    simp only [whoB, hy, Bool.not_eq_true', decide_eq_false_iff_not] at hq
    exact hq)
  rw [h3] at h1
  omega
end
end Go.Proofs.Ytpklhjeccbjalaa

end
section
namespace Go.Proofs.Ytpklhjeccbjalaa
open Go Go.Am
set_option linter.unusedVariables false

section
variable {l : List Ev} {H : List Blk}
theorem openAt_mono {i m m' : Nat} (h : openAt l i m = false) (hm : m ≤ m') : openAt l i m' = false := by
  obtain ⟨k, rfl⟩ : ∃ k, m' = m + k := ⟨m' - m, by omega⟩
  clear hm
  induction k with
  | zero => exact h
  | succ k ih => rw [← Nat.add_assoc, openAt_succ, ih]; rfl
theorem openAt_kind {i m : Nat} (h : openAt l i m = true) : kind0 l i = true := by
  unfold openAt at h
  rw [Bool.and_eq_true] at h
  exact h.1
abbrev f11 (l : List Ev) (best n : Int) (i a : Nat) (b : Bool) (k : Nat) : List Value := [tSl l.length (evR l), .int .i64 best, .int .i64 a, .int .i64 n, .int .i64 i, .bool b, .int .i64 k, .int .i64 l.length, .int .i64 a]
theorem loop11_ok (hl : OkEvs l) (hm : l.length < 60000) {i a : Nat} (hi : i ≤ a) (ha : a < l.length) (best n : Int) (H : List Blk) :
    loopG H.length (twainref47_Most.loop11s (acall PP TT) loopG H.length) (f11 l best n i a (kind0 l i) (i + 1), ⟨H, none⟩) = some (.exit 4, [tSl l.length (evR l), .int .i64 best, .int .i64 a, .int .i64 n, .int .i64 i, .bool (openAt l i (a + 1)), .int .i64 l.length, .int .i64 a], ⟨H, none⟩) := by
  obtain ⟨r, hlp, hq⟩ := loop_r (n0 := H.length) (step := twainref47_Most.loop11s (acall PP TT) loopG H.length) (len := a - i) (σ := Bool)
    (fun q b => (f11 l best n i a b (i + 1 + q), ⟨H, none⟩)) (fun q b => b = openAt l i (i + 1 + q))
    (fun r => r = (.exit 4, [tSl l.length (evR l), .int .i64 best, .int .i64 a, .int .i64 n, .int .i64 i, .bool (openAt l i (a + 1)), .int .i64 l.length, .int .i64 a], ⟨H, none⟩))
    (fun q b hq ho => by
      have hlt : i + 1 + q < l.length := by omega
      have hle : ((i + 1 + q : Nat) : Int) ≤ (a : Int) := by omega
      have hil : i < l.length := by omega
      obtain ⟨x, hx⟩ : ∃ x, l[i]? = some x := ⟨_, List.getElem?_eq_getElem hil⟩
      obtain ⟨z, hz⟩ : ∃ z, l[i + 1 + q]? = some z := ⟨_, List.getElem?_eq_getElem hlt⟩
      cases b with
      | false =>
        left
        have := openAt_mono ho.symm (show i + 1 + q ≤ a + 1 by omega)
        refine ⟨_, ?_, rfl⟩
        rw [this]
        generalize i + 1 + q = k at hle
        simp only [twainref47_Most.loop11s, twainref47_Most.loop11, twainref47_Most.j3, mach, Nat.reduceAdd, Nat.reduceLeDiff, Int.reduceEq, Int.reduceLT, Int.reduceLE, hle]
      | true =>
        right
        have k0 : x.kind = 0 := by
          have := openAt_kind ho.symm
          simpa [kind0, hx] using this
        have hed := fun H => rend_ok hl hm hx k0 H
        have hsh : shutB l i (i + 1 + q) = ((decide (z.kind = 2) && decide (z.who = x.who)) || decide (((i + 1 + q : Nat) : Int) = endedI l i)) := by simp only [shutB, hz, hx]
        refine ⟨f11 l best n i a (!shutB l i (i + 1 + q)) (i + 1 + (q + 1)), ⟨H, none⟩, !shutB l i (i + 1 + q), ?_, clean0 (by simp [evR_refs]), ?_⟩
        · rw [hsh, show i + 1 + (q + 1) = i + 1 + q + 1 by omega]
          have hw := wrap_succ (n := i + 1 + q) (by omega)
          have hix := ix_ref hil
          have hiz := ix_ref hlt
          have hx1 := ev_who hx
          have hz0 := ev_kind hz
          have hz1 := ev_who hz
          generalize i + 1 + q = k at hle hw hiz hz0 hz1
          by_cases c2 : (k : Int) = endedI l i
          · by_cases c0 : z.kind = 2
            · by_cases c1 : z.who = x.who
              · simp only [twainref47_Most.loop11s, twainref47_Most.loop11, twainref47_Most.j3, twainref47_Most.j4, twainref47_Most.j5, twainref47_Most.j6, mach, Nat.reduceAdd, Nat.reduceLeDiff, Int.reduceEq, Int.reduceLT, Int.reduceLE, hle, hix, hiz, ft_twainref34_Event_0, ft_twainref34_Event_1, hx1, hz0, hz1, c0, c1, hed, ← c2, hw, decide_true, Bool.true_and, Bool.true_or, Bool.not_true, Bool.and_true]
              · simp only [twainref47_Most.loop11s, twainref47_Most.loop11, twainref47_Most.j3, twainref47_Most.j4, twainref47_Most.j5, twainref47_Most.j6, mach, Nat.reduceAdd, Nat.reduceLeDiff, Int.reduceEq, Int.reduceLT, Int.reduceLE, hle, hix, hiz, ft_twainref34_Event_0, ft_twainref34_Event_1, hx1, hz0, hz1, c0, c1, hed, ← c2, hw, decide_true, decide_false, Bool.and_false, Bool.false_or, Bool.or_true, Bool.not_true]
            · simp only [twainref47_Most.loop11s, twainref47_Most.loop11, twainref47_Most.j3, twainref47_Most.j4, twainref47_Most.j5, twainref47_Most.j6, mach, Nat.reduceAdd, Nat.reduceLeDiff, Int.reduceEq, Int.reduceLT, Int.reduceLE, hle, hix, hiz, ft_twainref34_Event_0, ft_twainref34_Event_1, hx1, hz0, hz1, c0, hed, ← c2, hw, decide_true, decide_false, Bool.false_and, Bool.false_or, Bool.or_true, Bool.not_true]
          · by_cases c0 : z.kind = 2
            · by_cases c1 : z.who = x.who
              · simp only [twainref47_Most.loop11s, twainref47_Most.loop11, twainref47_Most.j3, twainref47_Most.j4, twainref47_Most.j5, twainref47_Most.j6, mach, Nat.reduceAdd, Nat.reduceLeDiff, Int.reduceEq, Int.reduceLT, Int.reduceLE, hle, hix, hiz, ft_twainref34_Event_0, ft_twainref34_Event_1, hx1, hz0, hz1, c0, c1, hw, decide_true, Bool.true_and, Bool.true_or, Bool.not_true, Bool.and_true]
              · simp only [twainref47_Most.loop11s, twainref47_Most.loop11, twainref47_Most.j3, twainref47_Most.j4, twainref47_Most.j5, twainref47_Most.j6, mach, Nat.reduceAdd, Nat.reduceLeDiff, Int.reduceEq, Int.reduceLT, Int.reduceLE, hle, hix, hiz, ft_twainref34_Event_0, ft_twainref34_Event_1, hx1, hz0, hz1, c0, c1, hed, c2, hw, decide_true, decide_false, Bool.and_false, Bool.false_or, Bool.not_false]
            · simp only [twainref47_Most.loop11s, twainref47_Most.loop11, twainref47_Most.j3, twainref47_Most.j4, twainref47_Most.j5, twainref47_Most.j6, mach, Nat.reduceAdd, Nat.reduceLeDiff, Int.reduceEq, Int.reduceLT, Int.reduceLE, hle, hix, hiz, ft_twainref34_Event_0, ft_twainref34_Event_1, hx1, hz0, hz1, c0, hed, c2, hw, decide_true, decide_false, Bool.false_and, Bool.false_or, Bool.not_false]
        · rw [show i + 1 + (q + 1) = i + 1 + q + 1 by omega, openAt_succ, ← ho]
          have hno : ¬ (i + 1 + q ≤ i) := by omega
          simp [hno])
    (fun b ho => by
      refine ⟨_, ?_, rfl⟩
      have he : i + 1 + (a - i) = a + 1 := by omega
      have hn : ¬ (((a + 1 : Nat) : Int) ≤ (a : Int)) := by omega
      simp only [he]
      rw [he] at ho
      subst ho
      simp only [twainref47_Most.loop11s, twainref47_Most.loop11, twainref47_Most.j3, mach, Nat.reduceAdd, Nat.reduceLeDiff, Int.reduceEq, Int.reduceLT, Int.reduceLE, hn])
    (a - i) 0 (kind0 l i) (f11 l best n i a (kind0 l i) (i + 1)) ⟨H, none⟩ (by omega) (openAt_same i).symm (clean0 (by simp [evR_refs]))
  rw [hlp, hq]

def cntN (l : List Ev) (m i : Nat) : Nat := ((List.range i).filter fun j => openAt l j m && true).length
theorem cntN_succ (m i : Nat) : cntN l m (i + 1) = if openAt l i m = true then cntN l m i + 1 else cntN l m i := by
  unfold cntN
  rw [List.range_succ, List.filter_append]
  cases h : openAt l i m <;> simp [h]
theorem cntN_le (m i : Nat) : cntN l m i ≤ i := by
  have := List.length_filter_le (fun j => openAt l j m && true) (List.range i)
  rw [List.length_range] at this
  exact this
abbrev f7 (l : List Ev) (best n : Nat) (i a : Nat) : List Value := [tSl l.length (evR l), .int .i64 best, .int .i64 a, .int .i64 n, .int .i64 i, .int .i64 l.length, .int .i64 a]
theorem loop7_ok (hl : OkEvs l) (hm : l.length < 60000) {a : Nat} (ha : a < l.length) (best : Nat) (H : List Blk) :
    loopG H.length (twainref47_Most.loop7s (acall PP TT) loopG H.length) (f7 l best 0 0 a, ⟨H, none⟩) = some (.exit 2, [tSl l.length (evR l), .int .i64 best, .int .i64 (cntN l (a + 1) (a + 1)), .int .i64 l.length, .int .i64 a], ⟨H, none⟩) := by
  have := loop_upto (n0 := H.length) (step := twainref47_Most.loop7s (acall PP TT) loopG H.length) (len := a + 1)
    (fun i (_ : Unit) => (f7 l best (cntN l (a + 1) i) i a, ⟨H, none⟩)) (fun _ s => s) (fun _ _ => True) (fun _ => (.exit 2, [tSl l.length (evR l), .int .i64 best, .int .i64 (cntN l (a + 1) (a + 1)), .int .i64 l.length, .int .i64 a], ⟨H, none⟩))
    (fun i _ hi _ => by
      have hil : i < l.length := by omega
      have hle : (i : Int) ≤ (a : Int) := by omega
      obtain ⟨x, hx⟩ : ∃ x, l[i]? = some x := ⟨_, List.getElem?_eq_getElem hil⟩
      have hw := wrap_succ (n := i) (by omega)
      have hk : kind0 l i = decide (x.kind = 0) := by simp [kind0, hx]
      have h11 := loop11_ok hl hm (show i ≤ a by omega) ha best (cntN l (a + 1) i) H
      rw [hk] at h11
      have hw2 := wrap_succ (n := cntN l (a + 1) i) (by have := cntN_le (l := l) (a + 1) i; omega)
      have hix := ix_ref hil
      have hx0 := ev_kind hx
      refine ⟨f7 l best (cntN l (a + 1) (i + 1)) (i + 1) a, ⟨H, none⟩, ?_, clean0 (by simp [evR_refs]), trivial⟩
      rw [cntN_succ]
      cases hb : openAt l i (a + 1) with
      | true =>
        rw [hb] at h11
        simp only [if_true, twainref47_Most.loop7s, twainref47_Most.loop7, twainref47_Most.j8, twainref47_Most.j9, mach, Nat.reduceAdd, Nat.reduceLeDiff, Int.reduceEq, Int.reduceLT, Int.reduceLE, hle, hix, ft_twainref34_Event_0, hx0, hw, h11, hw2]
      | false =>
        rw [hb] at h11
        simp only [Bool.false_eq_true, if_false, twainref47_Most.loop7s, twainref47_Most.loop7, twainref47_Most.j8, twainref47_Most.j9, mach, Nat.reduceAdd, Nat.reduceLeDiff, Int.reduceEq, Int.reduceLT, Int.reduceLE, hle, hix, ft_twainref34_Event_0, hx0, hw, h11])
    (fun _ _ => by
      have hn : ¬ (((a + 1 : Nat) : Int) ≤ (a : Int)) := by omega
      simp only [twainref47_Most.loop7s, twainref47_Most.loop7, mach, Nat.reduceAdd, Nat.reduceLeDiff, Int.reduceEq, Int.reduceLT, Int.reduceLE, hn]) () (f7 l best 0 0 a) ⟨H, none⟩ trivial (clean0 (by simp [evR_refs]))
  exact this
theorem rmost_ok (hl : OkEvs l) (hm : l.length < 60000) (H : List Blk) : acall PP TT n_twainref47_Most [tSl l.length (evR l)] H = some (.int .i64 (bestN l l.length), H, none) := by
  have hloop := loop_upto (n0 := H.length) (step := twainref47_Most.loop3s (acall PP TT) loopG H.length) (len := l.length)
    (fun i (_ : Unit) => ([tSl l.length (evR l), .int .i64 (bestN l i), .int .i64 l.length, .int .i64 i], ⟨H, none⟩)) (fun _ s => s) (fun _ _ => True) (fun _ => (.exit 0, [.int .i64 (bestN l l.length)], ⟨H, none⟩))
    (fun i _ hi _ => by
      have hlt : (i : Int) < (l.length : Int) := by omega
      have hw := wrap_succ (n := i) (by omega)
      have h7 := loop7_ok hl hm hi (bestN l i) H
      simp only [f7, Int.natCast_zero] at h7
      have hc : bestN l (i + 1) = max (bestN l i) (cntN l (i + 1) (i + 1)) := rfl
      refine ⟨[tSl l.length (evR l), .int .i64 (bestN l (i + 1)), .int .i64 l.length, .int .i64 ((i + 1 : Nat) : Int)], ⟨H, none⟩, ?_, clean0 (by simp [evR_refs]), trivial⟩
      rw [hc]
      by_cases hg : bestN l i < cntN l (i + 1) (i + 1)
      · have hg' : ((bestN l i : Nat) : Int) < ((cntN l (i + 1) (i + 1) : Nat) : Int) := by omega
        rw [Nat.max_eq_right (by omega)]
        simp only [twainref47_Most.loop3s, twainref47_Most.loop3, twainref47_Most.j11, twainref47_Most.j12, mach, Nat.reduceAdd, Nat.reduceLeDiff, Int.reduceEq, Int.reduceLT, Int.reduceLE, hlt, h7, hg', hw]
      · have hg' : ¬ ((bestN l i : Nat) : Int) < ((cntN l (i + 1) (i + 1) : Nat) : Int) := by omega
        rw [Nat.max_eq_left (by omega)]
        simp only [twainref47_Most.loop3s, twainref47_Most.loop3, twainref47_Most.j11, twainref47_Most.j12, mach, Nat.reduceAdd, Nat.reduceLeDiff, Int.reduceEq, Int.reduceLT, Int.reduceLE, hlt, h7, hg', hw])
    (fun _ _ => by simp only [twainref47_Most.loop3s, twainref47_Most.loop3, mach, Nat.reduceAdd, Nat.reduceLeDiff, Int.reduceEq, Int.reduceLT, Int.reduceLE, Int.lt_irrefl]) () [tSl l.length (evR l), .int .i64 0, .int .i64 l.length, .int .i64 0] ⟨H, none⟩ trivial (clean0 (by simp [evR_refs]))
  rw [acall_eq, twainref47_Most.eq]
  simp only [twainref47_Most.sh, twainref47_Most.j14, mach, Nat.reduceAdd, Nat.reduceLeDiff, Int.reduceEq, Int.reduceLT, Int.reduceLE, ln_ref, hloop]
  exact fin_lit0 rfl rfl
end
end Go.Proofs.Ytpklhjeccbjalaa

end
section
namespace Go.Proofs.Ytpklhjeccbjalaa
open Go Go.Am
set_option linter.unusedVariables false

def KW (x : Int × Nat) : Value := .int .i64 x.1
def VW (x : Int × Nat) : Value := .map (some x.2)
def KN (i : Nat) : Value := .int .i64 i
def VT (_ : Nat) : Value := .bool true
abbrev pr (n : Nat) : Value := .pointer (some ⟨n, 0, none⟩)
theorem finK {vs : List Value} {H : List Blk} {n : Nat} {e : Option Nat} : fin PP true n vs ⟨H, e⟩ = some (oneOf vs, H, escBelow n e) := by
  simp only [fin, endFrz, if_true]

abbrev allW (a0 a1 : Nat) (L : List (Int × Nat)) : List (Int × Nat) := (0, a0) :: (1, a1) :: L
structure Mo (H : List Blk) (k p q o a0 a1 : Nat) (F : PS) (L : List (Int × Nat)) (S : Int → List Nat) : Prop where
  hk : H[k]? = some (mapE F)
  hp : H[p]? = some (.cells [.map (some a0), .map (some a1)] t_A2_M_int_bool true)
  hq : H[q]? = some (.cells [.map (some o)] t_M_int_M_int_bool true)
  ho : ∃ es c, H[o]? = some (.map es c) ∧ MapIs KW VW L es c
  sets : ∀ x ∈ allW a0 a1 L, ∃ es c, H[x.2]? = some (.map es c) ∧ MapIs KN VT (S x.1) es c
  rest : ∀ w, (∀ x ∈ allW a0 a1 L, x.1 ≠ w) → S w = []
  keys : ((allW a0 a1 L).map Prod.fst).Nodup
  blks : (k :: o :: (allW a0 a1 L).map Prod.snd).Nodup
  ints : ∀ x ∈ L, isI x.1

section
variable {H : List Blk} {k p q o a0 a1 : Nat} {F : PS} {L : List (Int × Nat)} {S : Int → List Nat}
theorem Mo.app (h : Mo H k p q o a0 a1 F L S) (X : List Blk) : Mo (H ++ X) k p q o a0 a1 F L S := by
  obtain ⟨es, c, h1, h2⟩ := h.ho
  refine ⟨get_left h.hk X, get_left h.hp X, get_left h.hq X, ⟨es, c, get_left h1 X, h2⟩, fun x hx => ?_, h.rest, h.keys, h.blks, h.ints⟩
  obtain ⟨es, c, g1, g2⟩ := h.sets x hx
  exact ⟨es, c, get_left g1 X, g2⟩
theorem Mo.bne {w : Int} {b : Nat} (h : Mo H k p q o a0 a1 F L S) (hx : (w, b) ∈ allW a0 a1 L) : b ≠ k ∧ b ≠ o := by
  have h1 := h.blks
  rw [List.nodup_cons, List.nodup_cons] at h1
  have hb : b ∈ (allW a0 a1 L).map Prod.snd := List.mem_map.2 ⟨(w, b), hx, rfl⟩
  refine ⟨fun e => h1.1 (e ▸ List.mem_cons_of_mem _ hb), fun e => h1.2.1 (e ▸ hb)⟩
theorem nodup_snd {α β : Type} {L : List (α × β)} (h : (L.map Prod.snd).Nodup) {x y : α × β} (hx : x ∈ L) (hy : y ∈ L) (he : x.2 = y.2) : x = y := by
  induction L with
  | nil => simp at hx
  | cons z L ih =>
    rw [List.map_cons, List.nodup_cons] at h
    rcases List.mem_cons.1 hx with rfl | hx' <;> rcases List.mem_cons.1 hy with rfl | hy'
    · rfl
    · exact absurd (List.mem_map.2 ⟨y, hy', he.symm⟩) h.1
    · exact absurd (List.mem_map.2 ⟨x, hx', he⟩) h.1
    · exact ih h.2 hx' hy'
theorem nodup_fst {α β : Type} {L : List (α × β)} (h : (L.map Prod.fst).Nodup) {x y : α × β} (hx : x ∈ L) (hy : y ∈ L) (he : x.1 = y.1) : x = y := by
  induction L with
  | nil => simp at hx
  | cons z L ih =>
    rw [List.map_cons, List.nodup_cons] at h
    rcases List.mem_cons.1 hx with rfl | hx' <;> rcases List.mem_cons.1 hy with rfl | hy'
    · rfl
    · exact absurd (List.mem_map.2 ⟨y, hy', he.symm⟩) h.1
    · exact absurd (List.mem_map.2 ⟨x, hx', he⟩) h.1
    · exact ih h.2 hx' hy'
/-- one set is written -/
theorem Mo.set (h : Mo H k p q o a0 a1 F L S) {w : Int} {b : Nat} (hx : (w, b) ∈ allW a0 a1 L) {es : List MapEntry} {c : Nat} {xs : List Nat} (hm : MapIs KN VT xs es c) {S' : Int → List Nat} (hS : S' w = xs) (hS' : ∀ w', w' ≠ w → S' w' = S w') : Mo (H.set b (.map es c)) k p q o a0 a1 F L S' := by
  obtain ⟨n1, n2⟩ := h.bne hx
  obtain ⟨eo, co, o1, o2⟩ := h.ho
  obtain ⟨eb, cb, b1, b2⟩ := h.sets _ hx
  have hp : b ≠ p := fun e => by rw [e, h.hp] at b1; simp at b1
  have hq : b ≠ q := fun e => by rw [e, h.hq] at b1; simp at b1
  refine ⟨by rw [get_set_ne n1]; exact h.hk, by rw [get_set_ne hp]; exact h.hp, by rw [get_set_ne hq]; exact h.hq, ⟨eo, co, by rw [get_set_ne n2]; exact o1, o2⟩, fun y hy => ?_, fun w' hw' => ?_, h.keys, h.blks, h.ints⟩
  · by_cases he : y.2 = b
    · have hb := h.blks
      rw [List.nodup_cons, List.nodup_cons] at hb
      have := nodup_snd hb.2.2 hy hx he
      subst this
      exact ⟨es, c, get_set_eq b1, by rw [hS]; exact hm⟩
    · obtain ⟨e1, c1, g1, g2⟩ := h.sets y hy
      refine ⟨e1, c1, by rw [get_set_ne (fun e => he e.symm)]; exact g1, ?_⟩
      have hne : y.1 ≠ w := fun e => he (by rw [nodup_fst h.keys hy hx e])
      rw [hS' _ hne]
      exact g2
  · have hne : w' ≠ w := fun e => hw' _ hx e.symm
    rw [hS' _ hne]
    exact h.rest w' hw'

/-! ### Whose map -/
theorem tok_w {w : Int} (h : isI w) : TOk PP t_int [.int .i64 w] := tokInt h
theorem eql_map0 (ox oy : Operand) : aBin PP .eql t_M_int_bool ox oy (.map none) (.map none) = some (.bool true) := by kernel_rfl
theorem eql_map1 (n : Nat) (ox oy : Operand) : aBin PP .eql t_M_int_bool ox oy (.map (some n)) (.map none) = some (.bool false) := by kernel_rfl
theorem ix_a2 {n : Nat} (hn : n < 2) : aIndexAddr PP t_A2_M_int_bool (pr p) (.int .i64 (n : Int)) = some (.pointer (some ⟨p, n, none⟩)) := by
  have := ix_arr (P := PP) (j := .i64) (b := p) (o := 0) u_A2_M_int_bool sz_M_int_bool hn
  rw [this]
  simp
theorem look_w (hL : ∀ x ∈ L, isI x.1) {st : AS} {es : List MapEntry} {c : Nat} (ho : st.H[o]? = some (.map es c)) (hm : MapIs KW VW L es c) {w : Int} (hw : isI w) : aLookup PP t_M_int_M_int_bool (.map (some o)) (.int .i64 w) false st = some (match L.find? fun x => decide (x.1 = w) with | some x => .map (some x.2) | none => .map none) := by
  have := look_is (P := PP) (K := KW) (V := VW) (kc := fun x => [.int .i64 x.1]) (q := [.int .i64 w]) (p := fun x => decide (x.1 = w)) u_M_int_M_int_bool zv_M_int_bool rfl flatInt ho hm (fun x _ => (argInt _).symm) (fun x hx => tok_w (hL x hx)) (tok_w hw) (fun x _ => by simp) false
  rw [argInt] at this
  rw [this]
  cases L.find? fun x => decide (x.1 = w) <;> rfl
theorem of_ok (h : Mo H k p q o a0 a1 F L S) {w : Int} (hw : isI w) : ∃ H' e b L', acall PP TT n_stats_Most_1 [.int .i64 w, pr p, pr q] H = some (.map (some b), H', e) ∧ Mo H' k p q o a0 a1 F L' S ∧ (w, b) ∈ allW a0 a1 L' ∧ ∀ j, j < H.length → j ≠ o → H'[j]? = H[j]? := by
  rw [acall_eq, stats_Most_1.eq]
  by_cases h0 : w = 0
  · subst h0
    have hix := ix_a2 (p := p) (n := 0) (by omega)
    simp only [Int.natCast_zero] at hix
    refine ⟨H, none, a0, L, ?_, h, by simp, fun _ _ _ => rfl⟩
    simp only [stats_Most_1.sh, stats_Most_1.j0, mach, Nat.reduceAdd, Nat.reduceLeDiff, Int.reduceEq, Int.reduceLT, Int.reduceLE, hix, cellAt_eq h.hp, finK]
    rfl
  by_cases h1 : w = 1
  · subst h1
    have hix := ix_a2 (p := p) (n := 1) (by omega)
    refine ⟨H, none, a1, L, ?_, h, by simp, fun _ _ _ => rfl⟩
    rw [show ((1 : Nat) : Int) = 1 from rfl] at hix
    simp only [stats_Most_1.sh, stats_Most_1.j0, mach, Nat.reduceAdd, Nat.reduceLeDiff, Int.reduceEq, Int.reduceLT, Int.reduceLE, hix, cellAt_eq h.hp, finK]
    rfl
  obtain ⟨es, c, o1, o2⟩ := h.ho
  cases hf : L.find? fun x => decide (x.1 = w) with
  | some x =>
    have hlk := fun e => look_w (st := ⟨H, e⟩) h.ints o1 o2 hw
    rw [hf] at hlk
    simp only at hlk
    have hx1 := List.find?_some hf
    simp only [decide_eq_true_eq] at hx1
    have hx2 := List.mem_of_find?_eq_some hf
    refine ⟨H, none, x.2, L, ?_, h, ?_, fun _ _ _ => rfl⟩
    · simp only [stats_Most_1.sh, stats_Most_1.j0, stats_Most_1.j1, stats_Most_1.j2, mach, Nat.reduceAdd, Nat.reduceLeDiff, Int.reduceEq, Int.reduceLT, Int.reduceLE, h0, h1, cellAt_eq h.hq, hlk, eql_map1, finK]
      rfl
    · subst hx1
      exact List.mem_cons_of_mem _ (List.mem_cons_of_mem _ hx2)
  | none =>
    have hlk := fun e => look_w (st := ⟨H, e⟩) h.ints o1 o2 hw
    rw [hf] at hlk
    simp only at hlk
    have hnw : ∀ x ∈ L, x.1 ≠ w := by
      rw [List.find?_eq_none] at hf
      exact fun x hx => by simpa using hf x hx
    have ho2 : (H ++ [Blk.map [] 0])[o]? = some (.map es c) := get_left o1 _
    have hup := upd_new (P := PP) (K := KW) (V := VW) (kc := fun x => [.int .i64 x.1]) (q := [.int .i64 w]) (st := ⟨H ++ [Blk.map [] 0], none⟩) u_M_int_M_int_bool flatInt ho2 o2 (fun x _ => (argInt _).symm) (fun x hx => tok_w (h.ints x hx)) (tok_w hw) (x := (w, H.length)) (argInt _).symm (fun y hy he => hnw y hy (by simpa using he))
    rw [argInt] at hup
    have hm2 := o2.snoc (w, H.length)
    rw [show VW (w, H.length) = .map (some H.length) from rfl] at hup hm2
    generalize es ++ [{ key := KW (w, H.length), val := Value.map (some H.length), born := c }] = es' at hup hm2
    simp only at hup
    have hints : ∀ x ∈ L ++ [(w, H.length)], isI x.1 := fun x hx => by
      rcases List.mem_append.1 hx with hx | hx
      · exact h.ints x hx
      · simp at hx; subst hx; exact hw
    have ho3 : ((H ++ [Blk.map [] 0]).set o (.map es' (c + 1)))[o]? = some (.map es' (c + 1)) := get_set_eq ho2
    have hlk2 := fun e => look_w (st := ⟨(H ++ [Blk.map [] 0]).set o (.map es' (c + 1)), e⟩) hints ho3 hm2 hw
    have hf2 : (L ++ [(w, H.length)]).find? (fun x => decide (x.1 = w)) = some (w, H.length) := by rw [List.find?_append, hf]; simp
    rw [hf2] at hlk2
    simp only at hlk2
    have hqo : q ≠ o := fun e => by have := h.hq; rw [e, o1] at this; simp at this
    have hq3 : ((H ++ [Blk.map [] 0]).set o (.map es' (c + 1)))[q]? = some (.cells [.map (some o)] t_M_int_M_int_bool true) := by
      rw [get_set_ne hqo.symm]; exact get_left h.hq _
    have hnb : newBlk (⟨H, none⟩ : AS) (.map [] 0) = ⟨H ++ [.map [] 0], none⟩ := rfl
    refine ⟨(H ++ [Blk.map [] 0]).set o (.map es' (c + 1)), escBelow H.length (escOf none o (vrefs (Value.map (some H.length)))), H.length, L ++ [(w, H.length)], ?_, ?_, by simp, ?_⟩
    · simp only [stats_Most_1.sh, stats_Most_1.j0, stats_Most_1.j1, stats_Most_1.j2, mach, Nat.reduceAdd, Nat.reduceLeDiff, Int.reduceEq, Int.reduceLT, Int.reduceLE, h0, h1, cellAt_eq h.hq, hlk, eql_map0, hnb, hup, cellAt_eq hq3, hlk2, finK]
    · have hA := h.app [Blk.map [] 0]
      have hb := h.blks
      rw [List.nodup_cons, List.nodup_cons] at hb
      have hpo : o ≠ p := fun e => by have := h.hp; rw [← e, o1] at this; simp at this
      have hko : o ≠ k := fun e => hb.1 (by rw [← e]; simp)
      have lt_of : ∀ x ∈ allW a0 a1 L, x.2 < H.length := fun x hx => by obtain ⟨_, _, g, _⟩ := h.sets x hx; exact blk_lt g
      have hmem : ∀ x, x ∈ allW a0 a1 (L ++ [(w, H.length)]) ↔ x ∈ allW a0 a1 L ∨ x = (w, H.length) := fun x => by simp [or_assoc]
      refine ⟨by rw [get_set_ne hko]; exact hA.hk, by rw [get_set_ne hpo]; exact hA.hp, hq3, ⟨_, _, ho3, hm2⟩, fun x hx => ?_, fun w' hw' => ?_, ?_, ?_, hints⟩
      · rcases (hmem x).1 hx with hx | rfl
        · obtain ⟨e1, c1, g1, g2⟩ := h.sets x hx
          have hne : o ≠ x.2 := fun e => hb.2.1 (List.mem_map.2 ⟨x, hx, e.symm⟩)
          exact ⟨e1, c1, by rw [get_set_ne hne]; exact get_left g1 _, g2⟩
        · have hne : o ≠ H.length := Nat.ne_of_lt (blk_lt o1)
          refine ⟨[], 0, by rw [get_set_ne hne]; simp, ?_⟩
          have : S w = [] := h.rest w (fun x hx => by
            rcases List.mem_cons.1 hx with rfl | hx
            · exact fun e => h0 e.symm
            rcases List.mem_cons.1 hx with rfl | hx
            · exact fun e => h1 e.symm
            exact hnw x hx)
          simp only [this]
          exact MapIs.nil 0
      · exact h.rest w' (fun x hx => hw' x ((hmem x).2 (.inl hx)))
      · have : (allW a0 a1 (L ++ [(w, H.length)])).map Prod.fst = (allW a0 a1 L).map Prod.fst ++ [w] := by simp
        rw [this, List.nodup_append]
        refine ⟨h.keys, by simp, fun y hy z hz => ?_⟩
        simp at hz
        subst hz
        obtain ⟨x, hx, rfl⟩ := List.mem_map.1 hy
        rcases List.mem_cons.1 hx with rfl | hx
        · exact fun e => h0 e.symm
        rcases List.mem_cons.1 hx with rfl | hx
        · exact fun e => h1 e.symm
        exact hnw x hx
      · have : k :: o :: (allW a0 a1 (L ++ [(w, H.length)])).map Prod.snd = (k :: o :: (allW a0 a1 L).map Prod.snd) ++ [H.length] := by simp
        rw [this, List.nodup_append]
        refine ⟨h.blks, by simp, fun y hy z hz => ?_⟩
        simp at hz
        subst hz
        rcases List.mem_cons.1 hy with rfl | hy
        · exact Nat.ne_of_lt (blk_lt h.hk)
        rcases List.mem_cons.1 hy with rfl | hy
        · exact Nat.ne_of_lt (blk_lt o1)
        obtain ⟨x, hx, rfl⟩ := List.mem_map.1 hy
        exact Nat.ne_of_lt (lt_of x hx)
    · intro j hj hjo
      rw [get_set_ne (fun e => hjo e.symm), List.getElem?_append_left hj]
end
end Go.Proofs.Ytpklhjeccbjalaa

end
section
namespace Go.Proofs.Ytpklhjeccbjalaa
open Go Go.Am
set_option linter.unusedVariables false
theorem nodup_map_on {α β : Type} {f : α → β} : ∀ {l : List α}, l.Nodup → (∀ x ∈ l, ∀ y ∈ l, f x = f y → x = y) → (l.map f).Nodup
  | [], _, _ => List.nodup_nil
  | a :: l, h, hi => by
    rw [List.nodup_cons] at h
    rw [List.map_cons, List.nodup_cons]
    refine ⟨fun hm => ?_, nodup_map_on h.2 (fun x hx y hy => hi x (by simp [hx]) y (by simp [hy]))⟩
    obtain ⟨y, hy, he⟩ := List.mem_map.1 hm
    exact h.1 (hi y (by simp [hy]) a (by simp) he ▸ hy)
section
variable {H : List Blk} {k p q o a0 a1 : Nat} {F : PS} {L : List (Int × Nat)} {S : Int → List Nat}
theorem MapIs.ren_flat {α : Type} {K V : α → Value} (hK : ∀ x, vrefs (K x) = []) (hV : ∀ x, vrefs (V x) = []) {σ : Nat → Nat} {xs : List α} {es : List MapEntry} {c : Nat} (h : MapIs K V xs es c) : renBlk σ (.map es c) = .map es c := by
  simp only [renBlk]
  congr 1
  rw [show es = es.map id by simp, List.map_map]
  refine List.map_congr_left fun e he => ?_
  obtain ⟨j, hj⟩ := List.getElem?_of_mem (show e ∈ es by simpa using he)
  obtain ⟨x, _, h1, h2⟩ := h.get hj
  have e1 : vren σ e.key = e.key := by rw [h1]; exact vren_none (hK x)
  have e2 : vren σ e.val = e.val := by rw [h2]; exact vren_none (hV x)
  simp only [Function.comp, id, e1, e2]
theorem MapIs.ren_w {σ : Nat → Nat} {es : List MapEntry} {c : Nat} (h : MapIs KW VW L es c) : ∃ es', renBlk σ (.map es c) = .map es' c ∧ MapIs KW VW (L.map fun x => (x.1, σ x.2)) es' c := by
  refine ⟨_, rfl, ?_, ?_, ?_⟩
  · have := congrArg (List.map fun x : Value × Value => (vren σ x.1, vren σ x.2)) h.kv
    rw [List.map_map, List.map_map] at this
    rw [List.map_map, List.map_map]
    exact this
  · intro e he
    obtain ⟨e', he', rfl⟩ := List.mem_map.1 he
    exact h.old e' he'
  · rw [List.map_map]
    exact h.nd
theorem Mo.gc {vs : List Value} {st : AS} (h : Mo st.H k p q o a0 a1 F L S) (h1 : k ∈ lrefs vs) (h2 : p ∈ lrefs vs) (h3 : q ∈ lrefs vs) : ∃ σ, (Am.gc 0 vs st).1 = lren σ vs ∧ Mo (Am.gc 0 vs st).2.H (σ k) (σ p) (σ q) (σ o) (σ a0) (σ a1) F (L.map fun x => (x.1, σ x.2)) S := by
  obtain ⟨σ, g1, g2, g3⟩ := gc0_spec vs st
  obtain ⟨es, c, o1, o2⟩ := h.ho
  have rk : Rch st.H (lrefs vs) k := .here h1
  have rp : Rch st.H (lrefs vs) p := .here h2
  have rq : Rch st.H (lrefs vs) q := .here h3
  have ro : Rch st.H (lrefs vs) o := .step rq h.hq (by simp [blkRefs])
  have r0 : Rch st.H (lrefs vs) a0 := .step rp h.hp (by simp [blkRefs])
  have r1 : Rch st.H (lrefs vs) a1 := .step rp h.hp (by simp [blkRefs])
  have rl : ∀ x ∈ L, Rch st.H (lrefs vs) x.2 := fun x hx => by
    obtain ⟨j, hj⟩ := List.getElem?_of_mem hx
    obtain ⟨e, he, e1, e2⟩ := o2.get' hj
    refine .step ro o1 ?_
    simp only [blkRefs]
    rw [List.mem_flatMap]
    exact ⟨e, List.mem_of_getElem? he, by rw [e2]; simp [VW]⟩
  have ra : ∀ x ∈ allW a0 a1 L, Rch st.H (lrefs vs) x.2 := fun x hx => by
    rcases List.mem_cons.1 hx with rfl | hx
    · exact r0
    rcases List.mem_cons.1 hx with rfl | hx
    · exact r1
    exact rl x hx
  have hall : allW (σ a0) (σ a1) (L.map fun x => (x.1, σ x.2)) = (allW a0 a1 L).map fun x => (x.1, σ x.2) := rfl
  refine ⟨σ, g1, ?_, ?_, ?_, ?_, ?_, ?_, ?_, ?_, ?_⟩
  · have := g2 k rk _ h.hk
    rwa [mapE_ren] at this
  · have := g2 p rp _ h.hp
    simpa [renBlk, lren, vren] using this
  · have := g2 q rq _ h.hq
    simpa [renBlk, lren, vren] using this
  · obtain ⟨es', e1, e2⟩ := MapIs.ren_w (σ := σ) o2
    have := g2 o ro _ o1
    rw [e1] at this
    exact ⟨es', c, this, e2⟩
  · rw [hall]
    intro y hy
    obtain ⟨x, hx, rfl⟩ := List.mem_map.1 hy
    obtain ⟨e1, c1, x1, x2⟩ := h.sets x hx
    have := g2 x.2 (ra x hx) _ x1
    rw [MapIs.ren_flat (fun _ => rfl) (fun _ => rfl) x2] at this
    exact ⟨e1, c1, this, x2⟩
  · rw [hall]
    intro w hw
    exact h.rest w (fun x hx => hw (x.1, σ x.2) (List.mem_map.2 ⟨x, hx, rfl⟩))
  · rw [hall, List.map_map]
    exact h.keys
  · rw [hall, List.map_map]
    have : σ k :: σ o :: (allW a0 a1 L).map (Prod.snd ∘ fun x => (x.1, σ x.2)) = (k :: o :: (allW a0 a1 L).map Prod.snd).map σ := by
      simp only [List.map_cons, List.map_map]
      rfl
    rw [this]
    have rall : ∀ x ∈ k :: o :: (allW a0 a1 L).map Prod.snd, Rch st.H (lrefs vs) x := fun x hx => by
      rcases List.mem_cons.1 hx with rfl | hx
      · exact rk
      rcases List.mem_cons.1 hx with rfl | hx
      · exact ro
      obtain ⟨y, hy, rfl⟩ := List.mem_map.1 hx
      exact ra y hy
    exact nodup_map_on h.blks (fun x hx y hy he => g3 x y (rall x hx) (rall y hy) he)
  · intro y hy
    obtain ⟨x, hx, rfl⟩ := List.mem_map.1 hy
    exact h.ints x hx

/-! ### What is done to a set -/
theorem set_same {α : Type} {H : List α} {b : Nat} {x : α} (h : H[b]? = some x) : H.set b x = H := by
  obtain ⟨h1, rfl⟩ := List.getElem?_eq_some_iff.1 h
  exact List.set_getElem_self h1
theorem len_map {r c : Nat} {es : List MapEntry} {xs : List Nat} {st : AS} (hr : st.H[r]? = some (.map es c)) (hm : MapIs KN VT xs es c) : aLen PP t_M_int_bool (.map (some r)) st = some (.int .i64 xs.length) := by
  simp [aLen, u_M_int_bool, hr, hm.len]
theorem tok_n {n : Nat} (h : n < 1000000) : TOk PP t_int [.int .i64 (n : Int)] := tokInt (by unfold isI; omega)
theorem set_add {r c n : Nat} {es : List MapEntry} {xs : List Nat} {H : List Blk} {e : Option Nat} (hr : H[r]? = some (.map es c)) (hm : MapIs KN VT xs es c) (hx : ∀ x ∈ xs, x < n) (hn : n < 1000000) :
    ∃ es' c', aMapUpdate PP t_M_int_bool (.map (some r)) (.int .i64 (n : Int)) (.bool true) ⟨H, e⟩ = some ⟨H.set r (.map es' c'), e⟩ ∧ MapIs KN VT (xs ++ [n]) es' c' := by
  have := upd_new (P := PP) (K := KN) (V := VT) (kc := fun x => [.int .i64 (x : Int)]) (q := [.int .i64 (n : Int)]) (st := ⟨H, e⟩) u_M_int_bool flatInt hr hm (fun x _ => (argInt _).symm) (fun x hx' => tok_n (by have := hx x hx'; omega)) (tok_n hn) (x := n) (argInt _).symm (fun y hy he => by
    have := hx y hy
    simp at he
    omega)
  rw [argInt] at this
  exact ⟨_, _, this, hm.snoc n⟩
theorem erase_filter {a : Nat} : ∀ {xs : List Nat}, xs.Nodup → (match xs.findIdx? fun x => decide (x = a) with | some j => xs.eraseIdx j | none => xs) = xs.filter fun i => !decide (i = a)
  | [], _ => rfl
  | b :: xs, h => by
    rw [List.nodup_cons] at h
    have ih := erase_filter (a := a) h.2
    rw [List.findIdx?_cons]
    by_cases he : b = a
    · subst he
      simp only [decide_true, if_true, List.eraseIdx_cons_zero, List.filter_cons, Bool.not_true, Bool.false_eq_true, if_false]
      symm
      rw [List.filter_eq_self]
      intro y hy
      have : y ≠ b := fun e => h.1 (e ▸ hy)
      simp [this]
    · simp only [he, decide_false, Bool.false_eq_true, if_false, List.filter_cons, Bool.not_false, if_true]
      rw [← ih]
      cases xs.findIdx? fun x => decide (x = a) <;> simp
theorem set_del {r c n : Nat} {es : List MapEntry} {xs : List Nat} {H : List Blk} {e : Option Nat} (hr : H[r]? = some (.map es c)) (hm : MapIs KN VT xs es c) (hx : ∀ x ∈ xs, x < 1000000) (hd : xs.Nodup) (hn : n < 1000000) {R : Type} :
    ∃ es' c', (∀ (kk : Value → AS → Option R), eBuiltin PP .delete #[t_M_int_bool, t_int] [.map (some r), .int .i64 (n : Int)] ⟨H, e⟩ kk = kk (.tuple #[]) ⟨H.set r (.map es' c'), e⟩) ∧ MapIs KN VT (xs.filter fun i => !decide (i = n)) es' c' := by
  have := del_is (P := PP) (K := KN) (V := VT) (kc := fun x => [.int .i64 (x : Int)]) (q := [.int .i64 (n : Int)]) (p := fun x => decide (x = n)) (st := ⟨H, e⟩) (ats := #[t_M_int_bool, t_int]) rfl u_M_int_bool flatInt hr hm (fun x _ => (argInt _).symm) (fun x hx' => tok_n (hx x hx')) (tok_n hn) (fun x _ => by simp; omega)
  rw [argInt] at this
  have hf := erase_filter (a := n) hd
  cases hi : xs.findIdx? fun x => decide (x = n) with
  | some j =>
    rw [hi] at this hf
    simp only at this hf
    refine ⟨_, _, fun kk => ?_, by rw [← hf]; exact hm.erase j⟩
    simp only [eBuiltin, this, Option.bind_some]
  | none =>
    rw [hi] at this hf
    simp only at this hf
    refine ⟨es, c, fun kk => ?_, by rw [← hf]; exact hm⟩
    simp only [eBuiltin, this, Option.bind_some]
    rw [set_same hr]
theorem set_clear {r c : Nat} {es : List MapEntry} {H : List Blk} {e : Option Nat} (hr : H[r]? = some (.map es c)) {R : Type} (kk : Value → AS → Option R) : eBuiltin PP .clear #[t_M_int_bool] [.map (some r)] ⟨H, e⟩ kk = kk (.tuple #[]) ⟨H.set r (.map [] c), e⟩ := by
  simp [eBuiltin, aClear, u_M_int_bool, hr]
end
end Go.Proofs.Ytpklhjeccbjalaa

end
section
namespace Go.Proofs.Ytpklhjeccbjalaa
open Go Go.Am
set_option linter.unusedVariables false
section
variable {l : List Ev}
/-! ### From an end to what was asked -/
def fromL (l : List Ev) : Nat → List (Nat × Nat)
  | 0 => []
  | n + 1 => if 0 ≤ endedI l n then fromL l n ++ [((endedI l n).toNat, n)] else fromL l n
theorem mem_fromL {m i : Nat} : ∀ {n}, (m, i) ∈ fromL l n ↔ i < n ∧ endedI l i = (m : Int)
  | 0 => by simp [fromL]
  | n + 1 => by
    have ih := mem_fromL (m := m) (i := i) (n := n)
    simp only [fromL]
    split
    · rename_i h
      rw [List.mem_append, ih]
      constructor
      · rintro (h1 | h1)
        · exact ⟨by omega, h1.2⟩
        · simp at h1
          obtain ⟨rfl, rfl⟩ := h1
          exact ⟨by omega, by omega⟩
      · rintro ⟨h1, h2⟩
        by_cases he : i = n
        · right; subst he; simp [h2]
        · left; exact ⟨by omega, h2⟩
    · rename_i h
      rw [ih]
      constructor
      · exact fun h1 => ⟨by omega, h1.2⟩
      · rintro ⟨h1, h2⟩
        refine ⟨?_, h2⟩
        have : i ≠ n := fun e => by subst e; omega
        omega
theorem ended_inj {i j : Nat} (h : 0 ≤ endedI l i) (he : endedI l i = endedI l j) : i = j := by
  obtain ⟨m, x, y, h1, _, _, hy, _, _, _, _, hq, _⟩ := ended_spec h
  obtain ⟨m', x', y', h1', _, _, hy', _, _, _, _, hq', _⟩ := ended_spec (l := l) (i := j) (by omega)
  have : m' = m := by omega
  subst this
  rw [hy] at hy'; cases hy'
  rw [hq] at hq'
  exact Option.some.inj hq'
theorem lookE_mem {E : List (Nat × Nat)} {m i : Nat} (h : lookE E m = some i) : (m, i) ∈ E := by
  unfold lookE at h
  cases hf : E.find? fun p => decide (p.1 = m) with
  | none => rw [hf] at h; simp at h
  | some p =>
    rw [hf] at h
    simp at h
    have h1 := List.find?_some hf
    have h2 := List.mem_of_find?_eq_some hf
    simp only [decide_eq_true_eq] at h1
    obtain ⟨a, b⟩ := p
    simp only at h h1
    subst h h1
    exact h2
theorem lookE_none {E : List (Nat × Nat)} {m : Nat} (h : lookE E m = none) (i : Nat) : (m, i) ∉ E := by
  unfold lookE at h
  rw [Option.map_eq_none_iff, List.find?_eq_none] at h
  intro hm
  have := h _ hm
  simp at this
theorem fromL_new {n : Nat} (h : 0 ≤ endedI l n) : lookE (fromL l n) (endedI l n).toNat = none := by
  cases hq : lookE (fromL l n) (endedI l n).toNat with
  | none => rfl
  | some i =>
    obtain ⟨h1, h2⟩ := mem_fromL.1 (lookE_mem hq)
    have := ended_inj h (show endedI l n = endedI l i by omega)
    omega
abbrev fromS (l : List Ev) (n : Nat) : PS := ⟨[], fromL l n, false⟩
theorem fromS_ok (hm : l.length < 60000) (n : Nat) (hn : n ≤ l.length) : OkPS l.length (fromS l n) :=
  ⟨fun p hp => by simp at hp, fun p hp => by
    obtain ⟨m, i⟩ := p
    obtain ⟨h1, h2⟩ := mem_fromL.1 hp
    have := endedI_isI (l := l) (by omega) i
    exact ⟨by simp only; omega, by simp only; omega⟩⟩
/-- an end's asking -/
theorem from_some {m i : Nat} (h : lookE (fromL l l.length) m = some i) : i < l.length ∧ endedI l i = (m : Int) := mem_fromL.1 (lookE_mem h)
theorem from_none {m i : Nat} (h : lookE (fromL l l.length) m = none) (hi : i < l.length) : endedI l i ≠ (m : Int) := fun he => lookE_none h i (mem_fromL.2 ⟨hi, he⟩)

/-! ### One event -/
section
variable {n : Nat} {x : Ev} (hx : l[n]? = some x)
include hx
theorem shut_of {i : Nat} {y : Ev} (hy : l[i]? = some y) : shutB l i n = ((decide (x.kind = 2) && decide (x.who = y.who)) || decide ((n : Int) = endedI l i)) := by simp only [shutB, hx, hy]
theorem kind_end {i : Nat} (h : (n : Int) = endedI l i) : x.kind = 1 := by
  obtain ⟨m, x', y, h1, _, _, hy, _, ky, _⟩ := ended_spec (l := l) (i := i) (by omega)
  have : m = n := by omega
  subst this
  rw [hx] at hy; cases hy; exact ky
theorem mem_who {w : Int} {i : Nat} (h : i ∈ opens l (whoB l w) n) : ∃ y, l[i]? = some y ∧ y.who = w ∧ i < n := by
  obtain ⟨h1, _, h3⟩ := mem_opens.1 h
  have := lt_of_get hx
  have hy : l[i]? = some l[i] := List.getElem?_eq_getElem (by omega)
  refine ⟨l[i], hy, ?_, h1⟩
  simpa [whoB, hy] using h3
theorem whoB_self : whoB l x.who n = true := by simp [whoB, hx]
theorem step_asked (k0 : x.kind = 0) : opens l (whoB l x.who) (n + 1) = opens l (whoB l x.who) n ++ [n] := by
  rw [opens_step, if_pos ⟨by simp [kind0, hx, k0], whoB_self hx⟩]
  congr 1
  rw [List.filter_eq_self]
  intro i hi
  obtain ⟨y, hy, _, _⟩ := mem_who hx hi
  rw [shut_of hx hy]
  have c1 : ¬ (n : Int) = endedI l i := fun e => by have := kind_end hx e; omega
  simp [k0, c1]
theorem not_asked (k0 : x.kind ≠ 0) (q : Nat → Bool) : opens l q (n + 1) = (opens l q n).filter fun i => !shutB l i n := by
  rw [opens_step, if_neg (by simp [kind0, hx, k0]), List.append_nil]
theorem step_ended (k1 : x.kind = 1) {at_ : Nat} (hf : lookE (fromL l l.length) n = some at_) : opens l (whoB l x.who) (n + 1) = (opens l (whoB l x.who) n).filter fun i => !decide (i = at_) := by
  rw [not_asked hx (by omega)]
  refine List.filter_congr fun i hi => ?_
  obtain ⟨y, hy, _, _⟩ := mem_who hx hi
  obtain ⟨h1, h2⟩ := from_some hf
  rw [shut_of hx hy]
  have c2 : ¬ x.kind = 2 := by omega
  by_cases he : i = at_
  · subst he; simp [h2]
  · have : ¬ (n : Int) = endedI l i := fun e => he (ended_inj (l := l) (by omega) (by omega))
    simp [c2, he, this]
theorem step_none (k0 : x.kind ≠ 0) (k2 : x.kind ≠ 2) (hf : x.kind = 1 → lookE (fromL l l.length) n = none) : opens l (whoB l x.who) (n + 1) = opens l (whoB l x.who) n := by
  rw [not_asked hx k0, List.filter_eq_self]
  intro i hi
  obtain ⟨y, hy, _, hin⟩ := mem_who hx hi
  rw [shut_of hx hy]
  have c1 : ¬ (n : Int) = endedI l i := fun e => from_none (hf (kind_end hx e)) (by have := lt_of_get hx; omega) e.symm
  simp [k2, c1]
theorem step_fell (k2 : x.kind = 2) : opens l (whoB l x.who) (n + 1) = [] := by
  rw [not_asked hx (by omega), List.filter_eq_nil_iff]
  intro i hi
  obtain ⟨y, hy, hw, _⟩ := mem_who hx hi
  rw [shut_of hx hy]
  simp [k2, hw]
theorem step_other {w : Int} (hw : w ≠ x.who) : opens l (whoB l w) (n + 1) = opens l (whoB l w) n :=
  opens_other hx (fun i y hy hq => by
    simp only [whoB, hy, decide_eq_true_eq] at hq
    rw [hq]; exact hw)
end

/-! ### The loops -/
abbrev clo (p q : Nat) : Value := .func (.func n_stats_Most_1) (#[]) (#[pr p, pr q])
theorem fn_of (w : Value) (p q : Nat) : aFn PP (clo p q) [w] = some (n_stats_Most_1, [w, pr p, pr q]) := by kernel_rfl
abbrev vs15 (l : List Ev) (k p q : Nat) (n : Nat) : List Value := [.map (some k), clo p q, .int .i64 (bestN l n : Nat), .int .i64 ((opens l (fun _ => true) n).length : Nat), tSl l.length (evR l), .int .i64 l.length, .int .i64 (n : Int)]
abbrev So (l : List Ev) (n : Nat) : Int → List Nat := fun w => opens l (whoB l w) n
def I15 (l : List Ev) (n : Nat) (X : List Value × AS) : Prop := ∃ k p q o a0 a1 L st, X = (vs15 l k p q n, st) ∧ Mo st.H k p q o a0 a1 (fromS l l.length) L (So l n)
theorem I15_gc (n : Nat) (X : List Value × AS) (h : I15 l n X) : I15 l n (gc 0 X.1 X.2) := by
  obtain ⟨k, p, q, o, a0, a1, L, st, rfl, h1⟩ := h
  obtain ⟨σ, g1, g2⟩ := h1.gc (vs := vs15 l k p q n) (by simp) (by simp [vrefs, arefs]) (by simp [vrefs, arefs])
  refine ⟨σ k, σ p, σ q, σ o, σ a0, σ a1, _, _, Prod.ext ?_ rfl, g2⟩
  rw [g1]
  simp [lren, vren, aren, vren_none (evV_refs l)]
theorem look_from (hm : l.length < 60000) {H : List Blk} {k : Nat} (hk : H[k]? = some (mapE (fromS l l.length))) (e : Option Nat) {n : Nat} (hn : n < l.length) : aLookup PP t_M_int_int (.map (some k)) (.int .i64 (n : Int)) true ⟨H, e⟩ = some (.tuple #[.int .i64 (((lookE (fromL l l.length) n).getD 0 : Nat) : Int), .bool (lookE (fromL l l.length) n).isSome]) := by
  have := lk_en (H0 := []) (l := H) (k := k) (e := e) (m := n) (c := (fromL l l.length).length) (fromS_ok hm l.length (Nat.le_refl _)) (by omega) (by omega) hk
  simpa using this
theorem loop15_ok (hl : OkEvs l) (hm : l.length < 60000) {k p q o a0 a1 : Nat} {L : List (Int × Nat)} {st : AS} (hf : Mo st.H k p q o a0 a1 (fromS l l.length) L (So l 0)) :
    ∃ r, loopG 0 (stats_Most.loop15s (acall PP TT) loopG 0) (vs15 l k p q 0, st) = some r ∧ ∃ st', r = (.exit 2, [.int .i64 (bestN l l.length : Nat)], st') := by
  refine loop_inv (len := l.length) (I15 l) _ I15_gc ?_ ?_ l.length 0 _ (by omega) ⟨k, p, q, o, a0, a1, L, st, rfl, hf⟩
  · rintro n X hn ⟨k, p, q, o, a0, a1, L, ⟨H, e⟩, rfl, h1⟩
    right
    obtain ⟨x, hx⟩ : ∃ x, l[n]? = some x := ⟨_, List.getElem?_eq_getElem hn⟩
    have hxo := hl x (List.mem_of_getElem? hx)
    have hlt : (n : Int) < (l.length : Int) := by omega
    have hix := ix_wld hn
    have hld := fun st => ev_load hx st
    have hw := wrap_succ (n := n) (by omega)
    have hk0 : (evc x)[0]? = some (.int .i64 x.kind) := by simp [evc]
    have hk1 : (evc x)[1]? = some (.int .i64 x.who) := by simp [evc]
    have h2 := h1.app [evB x]
    obtain ⟨H', e', b, L', c1, c2, c3, c4⟩ := of_ok h2 hxo.who
    obtain ⟨eo, co, o1, _⟩ := h1.ho
    have hbx : H'[H.length]? = some (evB x) := by
      rw [c4 H.length (by simp) (Nat.ne_of_gt (blk_lt o1))]
      simp
    obtain ⟨es, c, g1, g2⟩ := c2.sets _ c3
    simp only at g1 g2
    have hwas := opens_len (l := l) (whoB l x.who) n
    have hnow := opens_len (l := l) (whoB l x.who) (n + 1)
    have hcnt := opens_len (l := l) (fun _ => true) n
    have htot := total_step hx
    have hbl := bestN_le (l := l) n
    have hln := fun e => len_map (st := ⟨H', e⟩) g1 g2
    -- what is done behind the switch
    have hs1 : ∀ a : Nat, a = (opens l (whoB l x.who) (n + 1)).length → IntKind.i64.wrap ((a : Int) - ((opens l (whoB l x.who) n).length : Nat)) = (a : Int) - ((opens l (whoB l x.who) n).length : Nat) := fun a ha => wrap_in ⟨by omega, by omega⟩
    have hs2 : IntKind.i64.wrap (((opens l (fun _ => true) n).length : Nat) + (((opens l (whoB l x.who) (n + 1)).length : Nat) - ((opens l (whoB l x.who) n).length : Nat) : Int)) = ((opens l (fun _ => true) (n + 1)).length : Nat) := by
      rw [wrap_in ⟨by omega, by omega⟩]; omega
    have hmx : (if (((opens l (fun _ => true) (n + 1)).length : Nat) : Int) > (bestN l n : Nat) then (((opens l (fun _ => true) (n + 1)).length : Nat) : Int) else (bestN l n : Nat)) = ((bestN l (n + 1) : Nat) : Int) := by
      simp only [bestN]
      split <;> omega
    have key : ∀ (H2 : List Blk) (es2 : List MapEntry) (cc : Nat), H2[b]? = some (.map es2 cc) → MapIs KN VT (opens l (whoB l x.who) (n + 1)) es2 cc → ∀ e2, stats_Most.j5 (acall PP TT) loopG 0 (.map (some k)) (clo p q) (.int .i64 (bestN l n : Nat)) (.int .i64 ((opens l (fun _ => true) n).length : Nat)) (.map (some b)) (.int .i64 ((opens l (whoB l x.who) n).length : Nat)) (tSl l.length (evR l)) (.int .i64 l.length) (.int .i64 (n : Int)) ⟨H2, e2⟩ = some (.normal, [.map (some k), clo p q, .int .i64 (bestN l (n + 1) : Nat), .int .i64 ((opens l (fun _ => true) (n + 1)).length : Nat), tSl l.length (evR l), .int .i64 l.length, .int .i64 (n : Int)], ⟨H2, e2⟩) := by
      intro H2 es2 cc q1 q2 e2
      have hln2 := len_map (st := ⟨H2, e2⟩) q1 q2
      simp only [stats_Most.j5, mach, Nat.reduceAdd, Nat.reduceLeDiff, Int.reduceEq, Int.reduceLT, Int.reduceLE, hln2, hs1 _ rfl, hs2, hmx]
    by_cases k0 : x.kind = 0
    · have hso := step_asked hx k0
      obtain ⟨es', c', u1, u2⟩ := set_add (n := n) (e := joinEsc e e') g1 g2 (fun i hi => (mem_opens.1 hi).1) (by omega)
      have hset : Mo (H'.set b (.map es' c')) k p q o a0 a1 (fromS l l.length) L' (So l (n + 1)) := c2.set c3 u2 hso (fun w hw => step_other hx hw)
      have hkey := key _ es' c' (get_set_eq g1) (by rw [hso]; exact u2) (joinEsc e e')
      refine ⟨(vs15 l k p q (n + 1), ⟨H'.set b (.map es' c'), joinEsc e e'⟩), ?_, k, p, q, o, a0, a1, L', _, rfl, hset⟩
      simp only [stats_Most.loop15s, stats_Most.loop15, stats_Most.j6, mach, Nat.reduceAdd, Nat.reduceLeDiff, Int.reduceEq, Int.reduceLT, Int.reduceLE, hlt, hix, hld, zg_world_Event, zl_world_Event, za_world_Event, evc_len, evc_cells, evc_refs, putCells_all, hk0, hk1, fa_world_Event_0, fa_world_Event_1, fn_of, c1, hln, cellAt_eq hbx, k0, u1, hkey, hw]
    by_cases k1 : x.kind = 1
    · have hlf := fun e => look_from hm c2.hk e hn
      cases hq : lookE (fromL l l.length) n with
      | some at_ =>
        rw [hq] at hlf
        simp only [Option.getD_some, Option.isSome_some] at hlf
        have hso := step_ended hx k1 hq
        have hat := (from_some hq).1
        obtain ⟨es', c', u1, u2⟩ := set_del (n := at_) (e := joinEsc e e') g1 g2 (fun i hi => by have := (mem_opens.1 hi).1; omega) (nodup_opens _ _) (by omega) (R := AEx × List Value × AS)
        have hset : Mo (H'.set b (.map es' c')) k p q o a0 a1 (fromS l l.length) L' (So l (n + 1)) := c2.set c3 u2 hso (fun w hw => step_other hx hw)
        have hkey := key _ es' c' (get_set_eq g1) (by rw [hso]; exact u2) (joinEsc e e')
        refine ⟨(vs15 l k p q (n + 1), ⟨H'.set b (.map es' c'), joinEsc e e'⟩), ?_, k, p, q, o, a0, a1, L', _, rfl, hset⟩
        simp only [stats_Most.loop15s, stats_Most.loop15, stats_Most.j6, mach, Nat.reduceAdd, Nat.reduceLeDiff, Int.reduceEq, Int.reduceLT, Int.reduceLE, hlt, hix, hld, zg_world_Event, zl_world_Event, za_world_Event, evc_len, evc_cells, evc_refs, putCells_all, hk0, hk1, fa_world_Event_0, fa_world_Event_1, fn_of, c1, hln, cellAt_eq hbx, k1, hlf, u1, hkey, hw]
      | none =>
        rw [hq] at hlf
        simp only [Option.getD_none, Option.isSome_none] at hlf
        have hso := step_none hx k0 (by omega) (fun _ => hq)
        have hset : Mo H' k p q o a0 a1 (fromS l l.length) L' (So l (n + 1)) := by
          have := c2.set c3 g2 (S' := So l (n + 1)) hso (fun w hw => step_other hx hw)
          rwa [set_same g1] at this
        have hkey := key _ es c g1 (by rw [hso]; exact g2) (joinEsc e e')
        refine ⟨(vs15 l k p q (n + 1), ⟨H', joinEsc e e'⟩), ?_, k, p, q, o, a0, a1, L', _, rfl, hset⟩
        simp only [stats_Most.loop15s, stats_Most.loop15, stats_Most.j6, mach, Nat.reduceAdd, Nat.reduceLeDiff, Int.reduceEq, Int.reduceLT, Int.reduceLE, hlt, hix, hld, zg_world_Event, zl_world_Event, za_world_Event, evc_len, evc_cells, evc_refs, putCells_all, hk0, hk1, fa_world_Event_0, fa_world_Event_1, fn_of, c1, hln, cellAt_eq hbx, k1, hlf, hkey, hw]
    by_cases k2 : x.kind = 2
    · have hso := step_fell hx k2
      have hcl := fun (kk : Value → AS → Option (AEx × List Value × AS)) => set_clear (e := joinEsc e e') g1 kk
      have hset : Mo (H'.set b (.map [] c)) k p q o a0 a1 (fromS l l.length) L' (So l (n + 1)) := c2.set c3 (MapIs.nil c) hso (fun w hw => step_other hx hw)
      have hkey := key _ [] c (get_set_eq g1) (by rw [hso]; exact MapIs.nil c) (joinEsc e e')
      refine ⟨(vs15 l k p q (n + 1), ⟨H'.set b (.map [] c), joinEsc e e'⟩), ?_, k, p, q, o, a0, a1, L', _, rfl, hset⟩
      simp only [stats_Most.loop15s, stats_Most.loop15, stats_Most.j6, mach, Nat.reduceAdd, Nat.reduceLeDiff, Int.reduceEq, Int.reduceLT, Int.reduceLE, hlt, hix, hld, zg_world_Event, zl_world_Event, za_world_Event, evc_len, evc_cells, evc_refs, putCells_all, hk0, hk1, fa_world_Event_0, fa_world_Event_1, fn_of, c1, hln, cellAt_eq hbx, k2, hcl, hkey, hw]
    · have hso := step_none hx k0 k2 (fun h => absurd h k1)
      have hset : Mo H' k p q o a0 a1 (fromS l l.length) L' (So l (n + 1)) := by
        have := c2.set c3 g2 (S' := So l (n + 1)) hso (fun w hw => step_other hx hw)
        rwa [set_same g1] at this
      have hkey := key _ es c g1 (by rw [hso]; exact g2) (joinEsc e e')
      refine ⟨(vs15 l k p q (n + 1), ⟨H', joinEsc e e'⟩), ?_, k, p, q, o, a0, a1, L', _, rfl, hset⟩
      simp only [stats_Most.loop15s, stats_Most.loop15, stats_Most.j6, mach, Nat.reduceAdd, Nat.reduceLeDiff, Int.reduceEq, Int.reduceLT, Int.reduceLE, hlt, hix, hld, zg_world_Event, zl_world_Event, za_world_Event, evc_len, evc_cells, evc_refs, putCells_all, hk0, hk1, fa_world_Event_0, fa_world_Event_1, fn_of, c1, hln, cellAt_eq hbx, k0, k1, k2, hkey, hw]
  · rintro X ⟨k, p, q, o, a0, a1, L, st, rfl, h1⟩
    refine ⟨_, ?_, st, rfl⟩
    simp only [stats_Most.loop15s, stats_Most.loop15, mach, Nat.reduceAdd, Nat.reduceLeDiff, Int.reduceEq, Int.reduceLT, Int.reduceLE, Int.lt_irrefl]
end
end Go.Proofs.Ytpklhjeccbjalaa

end
section
namespace Go.Proofs.Ytpklhjeccbjalaa
open Go Go.Am
set_option linter.unusedVariables false
section
variable {l : List Ev}
theorem fr_gc (s : PS) (n m : Nat) : gc 0 [tSl l.length (evR l), .map (some 0), .map (some 1), .int .i64 l.length, .int .i64 (n : Int)] ⟨[mapE s, mapE (fromS l m)], none⟩ = ([tSl l.length (evR l), .map (some 0), .map (some 1), .int .i64 l.length, .int .i64 (n : Int)], ⟨[mapE s, mapE (fromS l m)], none⟩) := by
  have := gc_flats (H0 := []) (l := [mapE s, mapE (fromS l m)]) (e := none) (vs := [tSl l.length (evR l), .map (some 0), .map (some 1), .int .i64 l.length, .int .i64 (n : Int)]) [0, 1] (by simp [mapE_refs]) rfl (by simp [evR_refs, news]) (by simp [evR_refs]) rfl rfl
  simpa [lren, vren, once, vren_none, evR_refs, rn, renum, findIx] using this
theorem loop4_ok (hl : OkEvs l) (hm : l.length < 60000) : loopG 0 (stats_Most.loop4s (acall PP TT) loopG 0) ([tSl l.length (evR l), .map (some 0), .map (some 1), .int .i64 l.length, .int .i64 0], ⟨[mapE (pairS l l.length), .map [] 0], none⟩) = some (.exit 0, [tSl l.length (evR l), .map (some 1)], ⟨[mapE (pairS l l.length), mapE (fromS l l.length)], none⟩) := by
  have hs := pairS_ok hl l.length (Nat.le_refl _)
  have := loop_upto (n0 := 0) (step := stats_Most.loop4s (acall PP TT) loopG 0) (len := l.length)
    (fun n (_ : Unit) => ([tSl l.length (evR l), .map (some 0), .map (some 1), .int .i64 l.length, .int .i64 (n : Int)], ⟨[mapE (pairS l l.length), mapE (fromS l n)], none⟩)) (fun _ s => s) (fun _ _ => True) (fun _ => (.exit 0, [tSl l.length (evR l), .map (some 1)], ⟨[mapE (pairS l l.length), mapE (fromS l l.length)], none⟩))
    (fun n _ hn _ => by
      have hn' : ((n : Int) < (l.length : Int)) := by omega
      have hw := wrap_succ (n := n) (by omega)
      have hlk := fun (L : List Blk) (hb : L[0]? = some (mapE (pairS l l.length))) => lk_en (H0 := []) (l := L) (k := 0) (e := none) (m := n) (c := (pairS l l.length).E.length) hs (by omega) (by omega) hb
      have hI := endedI_isI (l := l) (by omega) n
      have hw2 : fromL l (n + 1) = if 0 ≤ endedI l n then fromL l n ++ [((endedI l n).toNat, n)] else fromL l n := rfl
      simp only [List.length_nil, Nat.zero_add, List.nil_append] at hlk
      rcases lookE_ended l n with ⟨h1, h2⟩ | ⟨h1, h2⟩
      · rw [h2] at hlk
        have he : ((endedI l n).toNat : Int) = endedI l n := by omega
        simp only [Option.getD_some, Option.isSome_some, he] at hlk
        have hup := up_en (H0 := []) (l := [mapE (pairS l l.length), mapE (fromS l n)]) (k := 1) (e := none) (m := (endedI l n).toNat) (i := n) (fromS_ok hm n (by omega)) (by omega) (by omega) rfl (fromL_new h1)
        simp only [List.length_nil, Nat.zero_add, List.nil_append, he, List.set_cons_succ, List.set_cons_zero] at hup
        have hE : Blk.map (entries KE VE 0 (fromL l n ++ [((endedI l n).toNat, n)])) ((fromL l n).length + 1) = mapE (fromS l (n + 1)) := by
          simp only [mapE, hw2, if_pos h1, List.length_append, List.length_cons, List.length_nil]
        rw [hE] at hup
        refine ⟨[tSl l.length (evR l), .map (some 0), .map (some 1), .int .i64 l.length, .int .i64 ((n + 1 : Nat) : Int)], ⟨[mapE (pairS l l.length), mapE (fromS l (n + 1))], none⟩, ?_, fr_gc _ _ _, trivial⟩
        have hlk' := hlk [mapE (pairS l l.length), mapE (fromS l n)] rfl
        simp only [stats_Most.loop4s, stats_Most.loop4, stats_Most.j1, mach, Nat.reduceAdd, Nat.reduceLeDiff, Int.reduceEq, Int.reduceLT, Int.reduceLE, hn', hlk', hup, hw]
      · rw [h2] at hlk
        simp only [Option.getD_none, Option.isSome_none] at hlk
        have hE : fromS l (n + 1) = fromS l n := by simp only [fromS, hw2, if_neg h1]
        refine ⟨[tSl l.length (evR l), .map (some 0), .map (some 1), .int .i64 l.length, .int .i64 ((n + 1 : Nat) : Int)], ⟨[mapE (pairS l l.length), mapE (fromS l (n + 1))], none⟩, ?_, fr_gc _ _ _, trivial⟩
        have hlk' := hlk [mapE (pairS l l.length), mapE (fromS l n)] rfl
        rw [hE]
        simp only [stats_Most.loop4s, stats_Most.loop4, stats_Most.j1, mach, Nat.reduceAdd, Nat.reduceLeDiff, Int.reduceEq, Int.reduceLT, Int.reduceLE, hn', hlk', hw])
    (fun _ _ => by simp only [stats_Most.loop4s, stats_Most.loop4, mach, Nat.reduceAdd, Nat.reduceLeDiff, Int.reduceEq, Int.reduceLT, Int.reduceLE, Int.lt_irrefl]) () [tSl l.length (evR l), .map (some 0), .map (some 1), .int .i64 l.length, .int .i64 0] ⟨[mapE (pairS l l.length), .map [] 0], none⟩ trivial (fr_gc (pairS l l.length) 0 0)
  exact this
theorem bd_a2 (a b : Nat) : aBuild PP t_A2_M_int_bool [(0, .map (some a)), (1, .map (some b))] = some (.agg [Value.map (some a), Value.map (some b)].toArray) := by kernel_rfl
theorem fin0 (j : IntKind) (n : Int) (st : AS) : fin PP false 0 [.int j n] st = some (.int j n, [], none) := by
  have := fin_lit (P := PP) (H0 := []) (l := st.H) (e := st.esc) (vs := [.int j n]) rfl rfl (by cases st.esc <;> simp [escOk])
  rw [List.nil_append] at this
  exact this
theorem smost_ok (hl : OkEvs l) (hm : l.length < 60000) : acall PP TT n_stats_Most [tSl l.length (evR l)] [] = some (.int .i64 (bestN l l.length : Nat), [], none) := by
  have h1 := spairs_ok hl (by omega : l.length < 1000000) []
  simp only [List.nil_append, List.length_nil] at h1
  have h4 := loop4_ok hl hm
  have hS0 : ∀ w, So l 0 w = [] := fun w => rfl
  have hMo : Mo [mapE (pairS l l.length), mapE (fromS l l.length), .map [] 0, .map [] 0, .cells [.map (some 2), .map (some 3)] t_A2_M_int_bool true, .map [] 0, .cells [.map (some 5)] t_M_int_M_int_bool true] 1 4 6 5 2 3 (fromS l l.length) [] (So l 0) := by
    refine ⟨rfl, rfl, rfl, ⟨[], 0, rfl, MapIs.nil 0⟩, fun x hx => ?_, fun w _ => hS0 w, by decide, by decide, fun x hx => by simp at hx⟩
    rcases List.mem_cons.1 hx with rfl | hx
    · exact ⟨[], 0, rfl, by rw [hS0]; exact MapIs.nil 0⟩
    rcases List.mem_cons.1 hx with rfl | hx
    · exact ⟨[], 0, rfl, by rw [hS0]; exact MapIs.nil 0⟩
    · simp at hx
  obtain ⟨r, h15, st', rfl⟩ := loop15_ok hl hm (st := ⟨_, escOf (escOf none 4 [2, 3]) 6 [5]⟩) hMo
  have hc0 : (opens l (fun _ => true) 0).length = 0 := rfl
  have hb0 : bestN l 0 = 0 := rfl
  simp only [vs15, clo, pr, hc0, hb0, Int.natCast_zero] at h15
  have hpc : putCells z_A2_M_int_bool 0 [Value.map (some 2), Value.map (some 3)] = [Value.map (some 2), Value.map (some 3)] := by kernel_rfl
  rw [acall_eq, stats_Most.eq]
  simp only [stats_Most.sh, stats_Most.j3, stats_Most.j8, mach, Nat.reduceAdd, Nat.reduceLeDiff, Int.reduceEq, Int.reduceLT, Int.reduceLE, ln_wld, h1, newBlk, h4, bd_a2, zg_A2_M_int_bool, zl_A2_M_int_bool, za_A2_M_int_bool, zg_M_int_M_int_bool, hpc, h15]
  exact fin0 _ _ _

theorem waitL_ok : ∀ n, (waitL l n).length ≤ n := waitL_len l
theorem waits_law (hlT : EvTs l) (hm : l.length < 9223372036854775808) : saysTrue (acall PP TT n_twainlaw47_StatsWaits [tSl l.length (evR l)] []) = true := by
  have hfew := few_ok l hm []
  rw [acall_eq, twainlaw47_StatsWaits.eq]
  cases hb : fewB l with
  | false =>
    rw [hb] at hfew
    simp only [twainlaw47_StatsWaits.sh, twainlaw47_StatsWaits.j0, mach, Nat.reduceAdd, Nat.reduceLeDiff, Int.reduceEq, Int.reduceLT, Int.reduceLE, hfew, twainlaw47_lives.eq]
    exact says_fin0
  | true =>
    rw [hb] at hfew
    have hlen := few_len hb
    have hl := few_ok2 hlT hb
    by_cases hc : (30 : Int) < (l.length : Int)
    · simp only [twainlaw47_StatsWaits.sh, twainlaw47_StatsWaits.j0, mach, Nat.reduceAdd, Nat.reduceLeDiff, Int.reduceEq, Int.reduceLT, Int.reduceLE, hfew, ln_ref, hc, twainlaw47_lives.eq]
      exact says_fin0
    · have r1 := raw_ok (l := l) (by omega) []
      have r2 := swaits_ok hl (by omega) []
      have r3 := rwaits_ok hl (by omega) []
      have r4 := ints_same (waitL l l.length) (by have := waitL_len l l.length; omega) []
      have r5 := smost_ok hl (by omega)
      have r6 := rmost_ok hl (by omega) []
      simp only [twainlaw47_StatsWaits.sh, twainlaw47_StatsWaits.j0, twainlaw47_StatsWaits.j1, mach, Nat.reduceAdd, Nat.reduceLeDiff, Int.reduceEq, Int.reduceLT, Int.reduceLE, hfew, ln_ref, hc, r1, r2, r3, r4, r5, r6, twainlaw47_lives.eq]
      exact says_fin0
end
end Go.Proofs.Ytpklhjeccbjalaa

end
