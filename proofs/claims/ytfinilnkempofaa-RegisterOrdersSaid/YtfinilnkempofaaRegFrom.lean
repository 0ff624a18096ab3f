/- A part of the proof: RegFrom. Its conditions: none. -/
import Derived.Test.YtfinilnkempofaaRegFind
set_option linter.all false
set_option linter.unusedVariables false
set_option linter.unusedSimpArgs false
set_option linter.unnecessarySimpa false
namespace Go.Proofs.Ytfinilnkempofaa
open Go Go.Am Go.Reg

attribute [local simp] box_agg load_one load_agg store_agg cellAt_app cellAt_app0 cellsAt_app cellsAt_app0 storeL_app storeL_app0 newBlk_app newBlk_bare newPtr_def un_not bcase_if
  bin_add bin_sub bin_mul bin_eql bin_neq bin_lss bin_leq bin_gtr bin_geq pick_bool fin_flat fin_flat' flatV noSl oneOf_one joinEsc_none escOf_nil
  qfa_twainref36_Op_0 qfa_twainref36_Op_1 qfa_twainref36_Op_2 qfa_twainref36_Op_3 qfa_history_Op_0 qfa_history_Op_1 qfa_history_Op_2 qfa_history_Op_3 qfa_register_hunt_0 qfa_register_hunt_1 qfa_register_hunt_2 qfa_register_hunt_3 qfa_register_state_0 qfa_register_state_1 qzg_twainref36_Op qzg_history_Op qzg_api_Sector qza_twainref36_Op qza_history_Op qza_api_Sector qzl_twainref36_Op qzl_history_Op qzl_api_Sector

/-- what holds ahead of each round over the writes -/
structure Rn (p : Pl) (l : List (Rw (List Value))) (H2 : List Blk) (d : Nat) (u : List Value) (row : List Nat) (T : List (Nat × List Value)) (i : Nat) (st : AS) (T' : List (Nat × List Value)) : Prop where
  fx : Fx p st.H row T'
  keep : Keep H2 st.H p.rc
  t : ∀ e ∈ T', e ∈ T ∨ Dead l e.1.testBit e.2
  esc : (st.esc = none ∧ st.H = H2) ∨ ∃ m, st.esc = some m ∧ m ≤ p.rc
  dead : ∀ (n : Nat) (x : Rw (List Value)), n < i → l[n]? = some x → x.w = true → canNext l d.testBit n → Dead l (ins d.testBit n) x.v

theorem from_ok {p : Pl} {l : List (Rw (List Value))} (c : Cx p l) : ∀ (k : Nat) (H : List Blk) (d : Nat) (u : List Value) (row : List Nat) (T : List (Nat × List Value)), Fx p H row T → d < 2 ^ 64 → TOk PP t_api_Sector u →
    row.length ≤ cnt l.length d.testBit → l.length < cnt l.length d.testBit + k → Inv l T (cnt l.length d.testBit) →
    ∃ (b : Bool) (H' : List Blk) (e : Option Nat) (row' : List Nat) (T' : List (Nat × List Value)), acall PP TT n_P_register_hunt_find_1 [.agg (stc d u).toArray, .pointer (some ⟨p.hc, 0, none⟩), .pointer (some ⟨p.rc, 0, none⟩), .pointer (some ⟨p.fc, 0, none⟩)] H = some (.bool b, H', e) ∧
      Keep H H' p.rc ∧ Fx p H' row' T' ∧ Tells l d u row T b row' T'
  | 0, H, d, u, row, T, _, _, _, _, hk, _ => by have := cnt_le d.testBit l.length; omega
  | k + 1, H, d, u, row, T, h, hd, hu, hrl, hk, hinv => by
    obtain ⟨s1, s2, s3, s4⟩ := stc_cells (d := d) hu
    have un := sec_len hu
    have hcl := cnt_le d.testBit l.length
    have hll := c.len
    have htu : u.take 16 = u := List.take_of_length_le (by omega)
    have hts : (stc d u).take 17 = stc d u := List.take_of_length_le (by omega)
    -- what the calls see of the hunt
    have look : ∀ {H : List Blk} {row : List Nat} {T : List (Nat × List Value)}, Fx p H row T → cellAt H p.hc 0 = some (.pointer (some ⟨p.hb, 0, none⟩)) ∧ cellAt H p.hb 0 = some p.v ∧ cellAt H p.hb 1 = some (.int .u64 (p.M : Int)) ∧ cellAt H p.hb 3 = some (.map (some p.mb)) := fun h =>
      ⟨by simp [cellAt, h.hc], by simp [cellAt, h.hu.hunt], by simp [cellAt, h.hu.hunt], by simp [cellAt, h.hu.hunt]⟩
    have h1 := h.app [Blk.cells (stc d u) t_register_state true]
    obtain ⟨k1, k2, k3, k4⟩ := look h1
    have kd : cellAt (H ++ [Blk.cells (stc d u) t_register_state true]) H.length 0 = some (.int .u64 (d : Int)) := by simp [cellAt, stc]
    have ks : cellsAt (H ++ [Blk.cells (stc d u) t_register_state true]) H.length 0 17 = some (stc d u) := by simp [cellsAt, s3, hts]
    have hln := bin_andNot (P := PP) (t := t_uint64) (ox := .tmp 14) (oy := .tmp 16) h.hu.m hd
    have hz : decide (((lessBits p.M d : Nat) : Int) = 0) = decide (lessBits p.M d = 0) := by
      rw [Bool.eq_iff_iff]; simp only [decide_eq_true_eq]; exact Int.natCast_eq_zero
    have ham := all_must c h.hu.m hd
    by_cases hall : lessBits p.M d = 0
    · refine ⟨true, H, none, row, T, ?_, .refl _ _, h, fun _ => ⟨[], by simp, .done (ham.1 hall)⟩, by simp⟩
      rw [acall_eq, P_register_hunt_find_1.eq]
      simp only [P_register_hunt_find_1.sh, box_agg s1, Option.bind_some, load_one, k1, k3, kd, aNil, qfa_register_hunt_1, qfa_register_state_0, hln, bin_eql, hz, hall, decide_true, bcase_true]
      simp
    have hna : ¬ allMust l d.testBit := fun hc => hall (ham.2 hc)
    obtain ⟨es, ck, hm1, hm2, hm3⟩ := h.mb
    have hmbl := lt_of_get hm1
    have hm1' : (H ++ [Blk.cells (stc d u) t_register_state true])[p.mb]? = some (.map es ck) := by rw [List.getElem?_append_left hmbl]; exact hm1
    have htr := tried_ok (e := none) hm1' hm2 hm3 hd hu
    by_cases hin : (d, u) ∈ T
    · have hdead : Dead l d.testBit u := by
        rcases hinv _ hin with hx | hx
        · exact hx
        · simp at hx
      refine ⟨false, H, none, row, T, ?_, .refl _ _, h, by simp, fun _ => ⟨rfl, hdead, fun e he => .inl he⟩⟩
      rw [acall_eq, P_register_hunt_find_1.eq]
      simp only [P_register_hunt_find_1.sh, box_agg s1, Option.bind_some, load_one, load_agg, k1, k3, k4, kd, ks, aNil, qfa_register_hunt_1, qfa_register_hunt_3, qfa_register_state_0, hln, bin_eql, hz, hall, decide_false, bcase_false, Option.map_some, htr, hin, decide_true, bcase_true]
      simp
    -- it is marked as tried
    have hnk : stc d u ∉ T.map fun e => stc e.1 e.2 := fun hc => by
      obtain ⟨e, he, hee⟩ := List.mem_map.1 hc
      rw [stc_inj] at hee
      exact hin (by rw [← hee.1, ← hee.2]; exact he)
    have hup := update_new (P := PP) qu_M_register_state_bool qflat_register_state.flat (st := ⟨H ++ [Blk.cells (stc d u) t_register_state true], none⟩) hm1' hm2 (stc_tok hd hu) hnk (.bool true)
    rw [qflat_register_state.argV] at hup
    let Hm : List Blk := H.set p.mb (.map (es ++ [{ key := .agg (stc d u).toArray, val := .bool true, born := ck }]) (ck + 1))
    have hset : (H ++ [Blk.cells (stc d u) t_register_state true]).set p.mb (.map (es ++ [{ key := .agg (stc d u).toArray, val := .bool true, born := ck }]) (ck + 1)) = Hm ++ [Blk.cells (stc d u) t_register_state true] := by
      rw [List.set_append_left _ _ hmbl]
    have hup' : aMapUpdate PP t_M_register_state_bool (.map (some p.mb)) (.agg (stc d u).toArray) (.bool true) ⟨H ++ [Blk.cells (stc d u) t_register_state true], none⟩ = some ⟨Hm ++ [Blk.cells (stc d u) t_register_state true], none⟩ := by
      rw [hup]; simp only [hset]; rfl
    have hHml : Hm.length = H.length := by simp [Hm]
    have hkm : Keep H Hm p.rc := ⟨by omega, fun i cs t o hi _ _ => by
      have : p.mb ≠ i := fun he => by subst he; rw [hm1] at hi; simp at hi
      show (H.set p.mb _)[i]? = _
      rw [List.getElem?_set_ne this]; exact hi⟩
    obtain ⟨rv, hrc, hrv⟩ := h.rc
    have hrcl := lt_of_get hrc
    have hfm : Fx p Hm row (T ++ [(d, u)]) := by
      refine h.keep hkm ⟨rv, ?_, ?_⟩ ⟨_, _, by show (H.set p.mb _)[p.mb]? = _; rw [List.getElem?_set_self hmbl], ?_, ?_⟩ (fun e he => ?_)
      · have : p.mb ≠ p.rc := fun he => by rw [he, hrc] at hm1; simp at hm1
        show (H.set p.mb _)[p.rc]? = _
        rw [List.getElem?_set_ne this]; exact hrc
      · rcases hrv with hrv | ⟨b, cs, e1, e2, e3, e4⟩
        · exact .inl hrv
        · refine .inr ⟨b, cs, e1, ?_, e3, e4⟩
          have : p.mb ≠ b := fun he => by rw [← he, hm1] at e2; simp at e2
          show (H.set p.mb _)[b]? = _
          rw [List.getElem?_set_ne this]; exact e2
      · simp only [List.map_append, List.map_cons, List.map_nil]
        exact hm2.snoc (stc_tok hd hu) (by rw [qflat_register_state.argV])
      · intro e he
        rw [List.mem_append] at he
        rcases he with he | he
        · exact hm3 e he
        · simp at he; subst he; rfl
      · rw [List.mem_append] at he
        rcases he with he | he
        · exact h.ok e he
        · simp at he; subst he; exact hd
    have hf2 := hfm.app [Blk.cells (stc d u) t_register_state true]
    have hk2 : Keep H (Hm ++ [Blk.cells (stc d u) t_register_state true]) p.rc := hkm.trans (.app _ _ _)
    have hinv2 : Inv l (T ++ [(d, u)]) (cnt l.length d.testBit + 1) := hinv.up rfl
    have hsb2 : (Hm ++ [Blk.cells (stc d u) t_register_state true])[H.length]? = some (.cells (stc d u) t_register_state true) := by rw [← hHml, get_app0]; rfl
    obtain ⟨ri, rb, hread, hrt, hrf⟩ := read_ok hf2.hu c.v c.ok (by omega) c.aLen c.rd hd hu
    obtain ⟨q1, q2, q3, q4⟩ := look hf2
    have hsbc : ∀ {H' : List Blk}, H'[H.length]? = some (.cells (stc d u) t_register_state true) → cellsAt H' H.length 0 17 = some (stc d u) ∧ cellsAt H' H.length 1 16 = some u := fun hh => by
      refine ⟨by simp [cellsAt, hh, s3, hts], ?_⟩
      simp only [cellsAt, hh]
      rw [if_pos (by omega)]
      have : (stc d u).drop 1 = u := rfl
      rw [this, htu]
    -- the state one further on
    have further : ∀ (i : Nat) (x : Rw (List Value)) (val : List Value) (H0 : List Blk) (T0 : List (Nat × List Value)), l[i]? = some x → canNext l d.testBit i → TOk PP t_api_Sector val → Fx p H0 row T0 → (∀ e ∈ T0, e ∈ T ++ [(d, u)] ∨ Dead l e.1.testBit e.2) → H0[H.length]? = some (.cells (stc d u) t_register_state true) →
        ∃ (b : Bool) (H' : List Blk) (m : Nat) (row' : List Nat) (T' : List (Nat × List Value)), acall PP TT n_P_register_hunt_find_1_1 [.int .i64 i, .agg val.toArray, .pointer (some ⟨p.rc, 0, none⟩), .pointer (some ⟨p.fc, 0, none⟩), .pointer (some ⟨H.length, 0, none⟩)] H0 = some (.bool b, H', some m) ∧ m ≤ p.rc ∧
          Keep H0 H' p.rc ∧ Fx p H' row' T' ∧ (b = true → ∃ r, row' = row ++ (i :: r) ∧ Comp l (ins d.testBit i) val r) ∧ (b = false → row' = row ∧ Dead l (ins d.testBit i) val ∧ ∀ e ∈ T', e ∈ T0 ∨ Dead l e.1.testBit e.2) := by
      intro i x val H0 T0 hx hcan hval hf0 ht0 hs0
      have hil := lt_of_get hx
      refine next43 hf0 hs0 hd (by omega) hval (by omega) (fun H6 hf6 => ?_)
      have hci := cnt_ins hcan.1 l.length hil
      have hbi := bits_ins d i
      refine from_ok c k H6 (d ||| 2 ^ i) val (row ++ [i]) T0 hf6 (Nat.or_lt_two_pow hd (Nat.pow_lt_pow_right (by decide) (by omega))) hval ?_ ?_ ?_
      · rw [hbi, hci]; simp; omega
      · rw [hbi, hci]; omega
      · rw [hbi, hci]; exact hinv2.more ht0
    cases rb with
    | true =>
      obtain ⟨x, hx, hxw, hxv, hmay⟩ := hrt rfl
      have hcan := (may_can c (H := H) h.hu.a hd hx).1 hmay
      obtain ⟨b, H', m, row', T', hcall, hmle, hk', hf', ht', hn'⟩ := further ri x u _ _ hx hcan hu hf2 (fun e he => .inl he) hsb2
      refine ⟨b, H', some m, row', T', ?_, hk2.trans hk', hf', fun hb => ?_, fun hb => ?_⟩
      · rw [acall_eq, P_register_hunt_find_1.eq]
        simp only [P_register_hunt_find_1.sh, box_agg s1, Option.bind_some, load_one, load_agg, k1, k3, k4, kd, ks, aNil, qfa_register_hunt_1, qfa_register_hunt_3, qfa_register_state_0, qfa_register_state_1, hln, bin_eql, hz, hall, decide_false, bcase_false, Option.map_some, htr, hin, hup', q1, (hsbc hsb2).1, (hsbc hsb2).2, hread, joinEsc_none, ext20, ext21, bcase_true, fn43, hcall]
        exact fin_esc (by omega)
      · obtain ⟨r, hr1, hr2⟩ := ht' hb
        exact ⟨ri :: r, hr1, .step hx hcan (fun _ => hxv) (by rw [if_neg (by simp [hxw])]; exact hr2)⟩
      · obtain ⟨hr1, hr2, hr3⟩ := hn' hb
        have hdd := dead_read hx hxw hcan.1 hr2
        refine ⟨hr1, hdd, fun e he => ?_⟩
        rcases hr3 e he with he | he
        · rw [List.mem_append] at he
          rcases he with he | he
          · exact .inl he
          · simp at he; subst he; exact .inr hdd
        · exact .inr he
    | false =>
      have nor : ∀ (i : Nat) (x : Rw (List Value)), l[i]? = some x → canNext l d.testBit i → (x.w = false → x.v = u) → x.w = true := fun i x hx hcan hv => by
        cases hw : x.w with
        | true => rfl
        | false =>
          have := hrf rfl i x hx hw (hv hw)
          rw [(may_can c (H := H) h.hu.a hd hx).2 hcan] at this
          simp at this
      have hrl2 : p.rc < H.length := hrcl
      let vs : Nat → List Value := fun i => [.pointer (some ⟨p.hc, 0, none⟩), .pointer (some ⟨H.length, 0, none⟩), .func (.func n_P_register_hunt_find_1_1) #[] #[.pointer (some ⟨p.rc, 0, none⟩), .pointer (some ⟨p.fc, 0, none⟩), .pointer (some ⟨H.length, 0, none⟩)], p.v, .int .i64 l.length, .int .i64 i]
      have hhcl := lt_of_get h.hc
      have hfcl := lt_of_get h.fc
      -- what is struck ahead of a round
      have hgc : ∀ (i : Nat) (L : List Blk), gc H.length (vs i) ⟨Hm ++ (.cells (stc d u) t_register_state true :: L), none⟩ = (vs i, ⟨Hm ++ [Blk.cells (stc d u) t_register_state true], none⟩) := fun i L => by
        rw [← hHml]
        refine gc_one ?_ ?_ s2 ?_
        · intro r hr
          simp [vs, vrefs, arefs, c.v] at hr
          omega
        · simp [vs, hHml]
        · simp [vs, vrefs, arefs, c.v]
      have hstruck : ∀ (i : Nat) (st : AS) (L : List Blk), ((st.esc = none ∧ st.H = Hm ++ [Blk.cells (stc d u) t_register_state true]) ∨ ∃ m, st.esc = some m ∧ m ≤ p.rc) → ∃ st' : AS, gc H.length (vs i) ⟨st.H ++ L, st.esc⟩ = (vs i, st') ∧ ((st' = st) ∨ (st' = ⟨st.H ++ L, st.esc⟩ ∧ ∃ m, st.esc = some m ∧ m ≤ p.rc)) := fun i st L hst => by
        rcases hst with ⟨he, hh⟩ | ⟨m, he, hm⟩
        · refine ⟨st, ?_, .inl rfl⟩
          rw [he, hh, List.append_assoc]
          rw [show [Blk.cells (stc d u) t_register_state true] ++ L = .cells (stc d u) t_register_state true :: L from rfl, hgc]
          cases st; simp_all
        · refine ⟨⟨st.H ++ L, st.esc⟩, ?_, .inr ⟨rfl, m, he, hm⟩⟩
          rw [he, gc_esc (by omega)]
      obtain ⟨r, hr1, hr2⟩ := loop_rule (n0 := H.length) (step := P_register_hunt_find_1.loop11s (acall PP TT) loopG H.length) (len := l.length) (fun i (s : AS × List (Nat × List Value)) => (vs i, s.1))
        (fun i (s : AS × List (Nat × List Value)) => Rn p l (Hm ++ [Blk.cells (stc d u) t_register_state true]) d u row (T ++ [(d, u)]) i s.1 s.2)
        (fun r => (∃ (H' : List Blk) (m : Nat) (row' : List Nat) (T' : List (Nat × List Value)), r = (.ret, [.bool true], ⟨H', some m⟩) ∧ m ≤ p.rc ∧ Keep (Hm ++ [Blk.cells (stc d u) t_register_state true]) H' p.rc ∧ Fx p H' row' T' ∧ ∃ q, row' = row ++ q ∧ Comp l d.testBit u q) ∨
          (∃ (st : AS) (T' : List (Nat × List Value)), r = (.exit 0, [unk], st) ∧ Rn p l (Hm ++ [Blk.cells (stc d u) t_register_state true]) d u row (T ++ [(d, u)]) l.length st T'))
        (fun i s hi hok => by
          obtain ⟨st, T0⟩ := s
          simp only at hok ⊢
          have hi' : ((i : Int) < (l.length : Int)) := by omega
          obtain ⟨x, hx⟩ : ∃ x, l[i]? = some x := ⟨_, List.getElem?_eq_getElem hi⟩
          have hxo := c.ok x (List.mem_of_getElem? hx)
          obtain ⟨c1, c2, c3⟩ := opc_cells hxo
          have cn := opc_len hxo
          have xn := sec_len hxo.v
          have hix := (c.rd st.H).index (P := PP) qu_L_history_Op qsz_history_Op (k := .i64) (i := (i : Int)) (by omega) hi'
          simp at hix
          have hld := op_load40 (c.rd st.H) c.ok hx st.esc
          have hw' : IntKind.i64.wrap ((i : Int) + 1) = ((i + 1 : Nat) : Int) := by rw [i64_wrap (by omega)]; omega
          obtain ⟨sh, se⟩ := st
          simp only at hix hld hok
          have hsl : (Hm ++ [Blk.cells (stc d u) t_register_state true]).length ≤ sh.length := hok.keep.1
          have hl1 : (Hm ++ [Blk.cells (stc d u) t_register_state true]).length = H.length + 1 := by simp [hHml]
          have hslt : H.length < sh.length := by omega
          have hs0 := hok.keep.2 _ _ _ _ hsb2 (by decide) (by omega)
          -- the op, in a box of its own
          have hfx := hok.fx.app [Blk.cells (opc x) t_history_Op true]
          have hsx : (sh ++ [Blk.cells (opc x) t_history_Op true])[H.length]? = some (.cells (stc d u) t_register_state true) := by rw [List.getElem?_append_left hslt]; exact hs0
          obtain ⟨e1, e2, e3, e4⟩ := look hfx
          obtain ⟨t1, t2⟩ := hsbc hsx
          have hbx0 : cellAt (sh ++ [Blk.cells (opc x) t_history_Op true]) sh.length 0 = some (.bool x.w) := by simp [cellAt, opc]
          have hbxv : cellsAt (sh ++ [Blk.cells (opc x) t_history_Op true]) sh.length 1 16 = some x.v := by
            simp [cellsAt, cn, opc, xn]
          have hstb : storeL ⟨sh ++ [Blk.cells qz_history_Op t_history_Op true], se⟩ sh.length 0 (opc x) = some ⟨sh ++ [Blk.cells (opc x) t_history_Op true], se⟩ := by
            rw [storeL_app0]
            simp [storeL, cn, qzl_history_Op, c1, putCells_all, c2, escOf]
          have hmay := may_ok hfx.hu hd hu (i := i) (by rw [c.aLen]; exact hi) (by omega)
          -- nothing comes of it: the next round
          have skip : (P_register_hunt_find_1.loop11s (acall PP TT) loopG H.length (vs i, ⟨sh, se⟩) = some (.inl (vs (i + 1), ⟨sh ++ [Blk.cells (opc x) t_history_Op true], se⟩))) → ¬ (x.w = true ∧ canNext l d.testBit i) →
              ∃ (X : List Value × AS) (s' : AS × List (Nat × List Value)), P_register_hunt_find_1.loop11s (acall PP TT) loopG H.length (vs i, ⟨sh, se⟩) = some (.inl X) ∧ gc H.length X.1 X.2 = (vs (i + 1), s'.1) ∧ Rn p l (Hm ++ [Blk.cells (stc d u) t_register_state true]) d u row (T ++ [(d, u)]) (i + 1) s'.1 s'.2 := fun hstep hno => by
            obtain ⟨st', hg, hst'⟩ := hstruck (i + 1) ⟨sh, se⟩ [Blk.cells (opc x) t_history_Op true] hok.esc
            refine ⟨_, (st', T0), hstep, hg, ?_⟩
            have hd' : ∀ (n : Nat) (y : Rw (List Value)), n < i + 1 → l[n]? = some y → y.w = true → canNext l d.testBit n → Dead l (ins d.testBit n) y.v := fun n y hn hy hw hcan => by
              by_cases hni : n = i
              · subst hni
                rw [hx] at hy; simp at hy; subst hy
                exact absurd ⟨hw, hcan⟩ hno
              · exact hok.dead n y (by omega) hy hw hcan
            rcases hst' with rfl | ⟨rfl, hm⟩
            · exact ⟨hok.fx, hok.keep, hok.t, hok.esc, hd'⟩
            · exact ⟨hfx, hok.keep.trans (.app _ _ _), hok.t, .inr hm, hd'⟩
          cases hxw : x.w with
          | false =>
            refine .inr (skip ?_ (by simp [hxw]))
            simp only [P_register_hunt_find_1.loop11s, P_register_hunt_find_1.loop11, vs, List.getD_cons_zero, List.getD_cons_succ, bin_lss, Option.bind_some, hi', decide_true, bcase_true, hix, hld, qzg_history_Op, box_agg qza_history_Op, store_agg cn, hstb, qfa_history_Op_0, load_one, hbx0, hxw, bcase_false]
            simp [P_register_hunt_find_1.j1, P_register_hunt_find_1.j2, hw']
          | true =>
            cases hmb : mayB p.A d i with
            | false =>
              have hnc : ¬ canNext l d.testBit i := fun hc => by
                rw [(may_can c (H := H) h.hu.a hd hx).2 hc] at hmb; simp at hmb
              refine .inr (skip ?_ (by simp [hnc]))
              simp only [P_register_hunt_find_1.loop11s, P_register_hunt_find_1.loop11, vs, List.getD_cons_zero, List.getD_cons_succ, bin_lss, Option.bind_some, hi', decide_true, bcase_true, hix, hld, qzg_history_Op, box_agg qza_history_Op, store_agg cn, hstb, qfa_history_Op_0, load_one, load_agg, hbx0, hxw, e1, t1, Option.map_some, hmay, hmb, bcase_false]
              simp [P_register_hunt_find_1.j1, P_register_hunt_find_1.j2, hw']
            | true =>
              have hcan := (may_can c (H := H) h.hu.a hd hx).1 hmb
              obtain ⟨b, H', m, row', T', hcall, hmle, hk', hf', ht', hn'⟩ := further i x x.v _ T0 hx hcan hxo.v hfx hok.t hsx
              obtain ⟨m2, hm2, hm2le⟩ : ∃ m2, joinEsc (joinEsc se none) (some m) = some m2 ∧ m2 ≤ p.rc := by
                rw [joinEsc_none]
                cases se with
                | none => exact ⟨m, rfl, hmle⟩
                | some a => exact ⟨min a m, rfl, by omega⟩
              cases b with
              | true =>
                refine .inl ⟨(.ret, [.bool true], ⟨H', some m2⟩), ?_, .inl ⟨H', m2, row', T', rfl, hm2le, hok.keep.trans ((Keep.app _ _ _).trans hk'), hf', ?_⟩⟩
                · simp only [P_register_hunt_find_1.loop11s, P_register_hunt_find_1.loop11, vs, List.getD_cons_zero, List.getD_cons_succ, bin_lss, Option.bind_some, hi', decide_true, bcase_true, hix, hld, qzg_history_Op, box_agg qza_history_Op, store_agg cn, hstb, qfa_history_Op_0, qfa_history_Op_1, load_one, load_agg, hbx0, hbxv, hxw, e1, t1, Option.map_some, hmay, hmb, fn43, hcall, hm2]
                  simp [P_register_hunt_find_1.j1, P_register_hunt_find_1.j2]
                · obtain ⟨r, hq1, hq2⟩ := ht' rfl
                  exact ⟨i :: r, hq1, .step hx hcan (by simp [hxw]) (by rw [if_pos hxw]; exact hq2)⟩
              | false =>
                obtain ⟨hq1, hq2, hq3⟩ := hn' rfl
                subst hq1
                refine .inr ⟨(vs (i + 1), ⟨H', some m2⟩), (⟨H', some m2⟩, T'), ?_, gc_esc (by omega), ⟨hf', hok.keep.trans ((Keep.app _ _ _).trans hk'), fun e he => ?_, .inr ⟨m2, rfl, hm2le⟩, fun n y hn hy hw hcy => ?_⟩⟩
                · simp only [P_register_hunt_find_1.loop11s, P_register_hunt_find_1.loop11, vs, List.getD_cons_zero, List.getD_cons_succ, bin_lss, Option.bind_some, hi', decide_true, bcase_true, hix, hld, qzg_history_Op, box_agg qza_history_Op, store_agg cn, hstb, qfa_history_Op_0, qfa_history_Op_1, load_one, load_agg, hbx0, hbxv, hxw, e1, t1, Option.map_some, hmay, hmb, fn43, hcall, hm2]
                  simp [P_register_hunt_find_1.j1, P_register_hunt_find_1.j2, hw']
                · rcases hq3 e he with he | he
                  · exact hok.t e he
                  · exact .inr he
                · by_cases hni : n = i
                  · subst hni
                    rw [hx] at hy; simp at hy; subst hy
                    exact hq2
                  · exact hok.dead n y (by omega) hy hw hcy)
        (fun s hok => ⟨(.exit 0, [unk], s.1), by simp [P_register_hunt_find_1.loop11s, P_register_hunt_find_1.loop11, vs], .inr ⟨s.1, s.2, rfl, hok⟩⟩)
        l.length 0 (⟨Hm ++ [Blk.cells (stc d u) t_register_state true], none⟩, T ++ [(d, u)]) (vs 0, ⟨Hm ++ [Blk.cells (stc d u) t_register_state true], none⟩) (by omega)
        ⟨hf2, .refl _ _, fun e he => .inl he, .inl ⟨rfl, rfl⟩, fun n x hn => by omega⟩ (by simpa using hgc 0 [])
      have hlen := fun (st : AS) => (c.rd H).len (P := PP) qu_L_history_Op st
      simp only [vs] at hr1
      have h0 : ((0 : Nat) : Int) = 0 := rfl
      rw [h0] at hr1
      rcases hr2 with ⟨H', m, row', T', rfl, hmle, hk', hf', q, hq1, hq2⟩ | ⟨st, T', rfl, hok⟩
      · refine ⟨true, H', some m, row', T', ?_, hk2.trans hk', hf', fun _ => ⟨q, hq1, hq2⟩, by simp⟩
        rw [acall_eq, P_register_hunt_find_1.eq]
        simp only [P_register_hunt_find_1.sh, box_agg s1, Option.bind_some, load_one, load_agg, k1, k3, k4, kd, ks, aNil, qfa_register_hunt_0, qfa_register_hunt_1, qfa_register_hunt_3, qfa_register_state_0, qfa_register_state_1, hln, bin_eql, hz, hall, decide_false, bcase_false, Option.map_some, htr, hin, hup', q1, q2, (hsbc hsb2).1, hread, joinEsc_none, ext20, ext21, hlen, hr1]
        exact fin_esc (by omega)
      · have hdead : Dead l d.testBit u := dead_none hna (fun n x hx hcan hv => by
          have hw := nor n x hx hcan hv
          rw [if_pos hw]
          exact hok.dead n x (lt_of_get hx) hx hw hcan)
        have htl : ∀ e ∈ T', e ∈ T ∨ Dead l e.1.testBit e.2 := fun e he => by
          rcases hok.t e he with he | he
          · rw [List.mem_append] at he
            rcases he with he | he
            · exact .inl he
            · simp at he; subst he; exact .inr hdead
          · exact .inr he
        obtain ⟨sh, se⟩ := st
        rcases hok.esc with ⟨he, hh⟩ | ⟨m, he, hm⟩
        · simp only at he hh
          subst he; subst hh
          have hfm' : Fx p Hm row T' := by
            obtain ⟨es', ck', g1, g2, g3⟩ := hok.fx.mb
            have hml : p.mb < Hm.length := by omega
            rw [List.getElem?_append_left hml] at g1
            exact hfm.keep (.refl _ _) hfm.rc ⟨es', ck', g1, g2, g3⟩ hok.fx.ok
          refine ⟨false, Hm, none, row, T', ?_, hkm, hfm', by simp, fun _ => ⟨rfl, hdead, htl⟩⟩
          rw [acall_eq, P_register_hunt_find_1.eq]
          simp only [P_register_hunt_find_1.sh, box_agg s1, Option.bind_some, load_one, load_agg, k1, k3, k4, kd, ks, aNil, qfa_register_hunt_0, qfa_register_hunt_1, qfa_register_hunt_3, qfa_register_state_0, qfa_register_state_1, hln, bin_eql, hz, hall, decide_false, bcase_false, Option.map_some, htr, hin, hup', q1, q2, (hsbc hsb2).1, hread, joinEsc_none, ext20, ext21, hlen, hr1, if_true, P_register_hunt_find_1.j4]
          rw [← hHml]
          exact fin_flat (by simp) (by simp)
        · simp only at he
          subst he
          refine ⟨false, sh, some m, row, T', ?_, hk2.trans hok.keep, hok.fx, by simp, fun _ => ⟨rfl, hdead, htl⟩⟩
          rw [acall_eq, P_register_hunt_find_1.eq]
          simp only [P_register_hunt_find_1.sh, box_agg s1, Option.bind_some, load_one, load_agg, k1, k3, k4, kd, ks, aNil, qfa_register_hunt_0, qfa_register_hunt_1, qfa_register_hunt_3, qfa_register_state_0, qfa_register_state_1, hln, bin_eql, hz, hall, decide_false, bcase_false, Option.map_some, htr, hin, hup', q1, q2, (hsbc hsb2).1, hread, joinEsc_none, ext20, ext21, hlen, hr1, if_true, P_register_hunt_find_1.j4]
          exact fin_esc (by omega)

end Go.Proofs.Ytfinilnkempofaa
