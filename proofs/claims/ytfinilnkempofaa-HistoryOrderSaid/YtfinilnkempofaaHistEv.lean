/- Events as cells. -/
import Derived.Test.YtfinilnkempofaaRgOps
set_option linter.all false
set_option linter.unusedVariables false
set_option linter.unusedSimpArgs false
set_option linter.unnecessarySimpa false
namespace Go.Proofs.Ytfinilnkempofaa
open Go Go.Am

/-- an event -/
structure Ev where
  kind : Int
  who : Int
  ticket : Int
  rk : Int
  off : Int
  len : Int
  rd : List Int
  d : List Int

def byt (l : List Int) : List Value := l.map (Value.int .u8)
def evc (x : Ev) : List Value := [.int .i64 x.kind, .int .i64 x.who, .int .i64 x.ticket, .int .i64 x.rk, .int .i64 x.off, .int .i64 x.len, tSl x.rd.length (byt x.rd), tSl x.d.length (byt x.d)]
def evs (l : List Ev) : List (List Value) := l.map evc
/-- the events' row -/
def evR (l : List Ev) : List Value := (evs l).flatten

def isI (n : Int) : Prop := -9223372036854775808 ≤ n ∧ n < 9223372036854775808
def OkB (l : List Int) : Prop := l.length < 1000000 ∧ ∀ b ∈ l, 0 ≤ b ∧ b < 256
structure OkEv (x : Ev) : Prop where
  kind : isI x.kind
  who : isI x.who
  ticket : isI x.ticket
  rk : isI x.rk
  off : isI x.off
  len : isI x.len
  rd : OkB x.rd
  d : OkB x.d
def OkEvs (l : List Ev) : Prop := ∀ x ∈ l, OkEv x

theorem byt_refs (l : List Int) : lrefs (byt l) = [] := by
  induction l with
  | nil => rfl
  | cons x xs ih => simpa [byt] using ih
theorem byt_len (l : List Int) : (byt l).length = l.length := by simp [byt]
theorem evc_refs (x : Ev) : lrefs (evc x) = [] := by simp [evc, byt_refs]
theorem evc_len (x : Ev) : (evc x).length = 8 := by simp [evc]
theorem evc_cells (x : Ev) : allCells (evc x) = true := by simp [evc]
theorem evc_flat (x : Ev) : (evc x).all noSl = true := by simp [evc, noSl, tSl]
theorem evs_rows (l : List Ev) : RowsOf 8 (evs l) := by
  have key : ∀ r ∈ evs l, ∃ x, r = evc x := fun r hr => by
    obtain ⟨x, _, rfl⟩ := List.mem_map.1 hr
    exact ⟨x, rfl⟩
  refine ⟨fun r hr => ?_, fun r hr => ?_, fun r hr => ?_, fun r hr => ?_⟩ <;> obtain ⟨x, rfl⟩ := key r hr
  · rfl
  · exact evc_refs x
  · rfl
  · rfl
theorem evR_refs (l : List Ev) : lrefs (evR l) = [] := (evs_rows l).frefs
theorem evs_get {l : List Ev} {k : Nat} {x : Ev} (h : l[k]? = some x) : (evs l)[k]? = some (evc x) := by simp [evs, h]
theorem evs_len (l : List Ev) : (evs l).length = l.length := by simp [evs]

/-- the names of both worlds' events -/
theorem ix_ref {l : List Ev} {k : Nat} (hk : k < l.length) : aIndexAddr PP t_L_twainref34_Event (tSl l.length (evR l)) (.int .i64 (k : Int)) = some (tPtr (k * 8) (evR l).toArray) := tsl_index u_L_twainref34_Event sz_twainref34_Event hk
theorem ix_wld {l : List Ev} {k : Nat} (hk : k < l.length) : aIndexAddr PP t_L_world_Event (tSl l.length (evR l)) (.int .i64 (k : Int)) = some (tPtr (k * 8) (evR l).toArray) := tsl_index u_L_world_Event sz_world_Event hk
theorem ln_ref (l : List Ev) (st : AS) : aLen PP t_L_twainref34_Event (tSl l.length (evR l)) st = some (.int .i64 l.length) := tsl_len u_L_twainref34_Event
theorem ln_wld (l : List Ev) (st : AS) : aLen PP t_L_world_Event (tSl l.length (evR l)) st = some (.int .i64 l.length) := tsl_len u_L_world_Event
section
variable {l : List Ev} {k : Nat} {x : Ev} (h : l[k]? = some x) (st : AS)
include h
theorem ev_load : aLoad true 8 st (tPtr (k * 8) (evR l).toArray) = some (.agg (evc x).toArray) := tptr_load (evs_rows l) (evs_get h)
theorem ev_kind : aLoad false 1 st (tPtr (k * 8) (evR l).toArray) = some (.int .i64 x.kind) := tptr_get (off := 0) (evs_rows l) (evs_get h) rfl
theorem ev_who : aLoad false 1 st (tPtr (k * 8 + 1) (evR l).toArray) = some (.int .i64 x.who) := tptr_get (evs_rows l) (evs_get h) rfl
theorem ev_ticket : aLoad false 1 st (tPtr (k * 8 + 2) (evR l).toArray) = some (.int .i64 x.ticket) := tptr_get (evs_rows l) (evs_get h) rfl
theorem ev_d : aLoad false 1 st (tPtr (k * 8 + 7) (evR l).toArray) = some (tSl x.d.length (byt x.d)) := tptr_get (evs_rows l) (evs_get h) rfl
end

theorem wrap_in {n : Int} (h : isI n) : IntKind.i64.wrap n = n := by
  unfold isI at h; rw [IntKind.wrap_i64]; omega
theorem wrap_nat {n : Nat} (h : n < 9223372036854775808) : IntKind.i64.wrap (n : Int) = (n : Int) := wrap_in ⟨by omega, by omega⟩
theorem wrap_succ {n : Nat} (h : n < 4611686018427387904) : IntKind.i64.wrap ((n : Int) + 1) = ((n + 1 : Nat) : Int) := by
  rw [wrap_in ⟨by omega, by omega⟩]; omega

end Go.Proofs.Ytfinilnkempofaa
