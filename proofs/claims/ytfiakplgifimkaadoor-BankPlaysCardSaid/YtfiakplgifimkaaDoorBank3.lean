/- Contracts of package bank, third part: Write, Meter, New. No statement of the seat is proved in this text. -/
import Derived.Test.YtfiakplgifimkaaDoorBank2
namespace Go.Proofs.YtfiakplgifimkaaDoor
open Go.TS
set_option maxRecDepth 20000

theorem bankWrite_ok {w : World} {b : Nat} {s : BS} {F G : Nat → Prop} {E : Nat → Addr} {d sl : Int} {vh vb : Value} {hs bs : List UInt8} {K : Value → World → Prop} (h : BankAt w b s F) (he : Errs w E LB) (hh : By w vh hs G) (hbb : By w vb bs G) (hGF : ∀ x, G x → ¬ F x) (hEF : ∀ g ∈ LB, ¬ F g ∧ ¬ F (E g).block)
    (hK : ∀ w', Kp F w w' → BankAt w' b (bWrite s d sl hs bs).1 (fun x => F x ∨ w.heap.size ≤ x) → K (er E (bWrite s d sl hs bs).2) w') :
    call Tryd.prog 29 #[.pointer (some ⟨b, 0, none⟩), .int .i64 d, .int .i64 sl, .agg #[vh, vb]] w K := by
  have e1 := hh.one
  have e2 := hbb.one
  have kA : Kp none_ w (w.alloc (.cells #[vh, vb] 33)) := Kp.refl.alloc _
  have b33 : (w.alloc (.cells #[vh, vb] 33)).heap[w.heap.size]? = some (.cells #[vh, vb] 33 (0, 0)) := heap_alloc_eq rfl
  have hbl : b < w.heap.size := by obtain ⟨_, _, _, _, _, h1, _⟩ := h.ex; exact blk_lt h1
  have hF := h.bound
  refine F29_ok fun X h0 h1 h2 => ?_
  unfold F29_s
  simp (disch := first | omega | (simp only [size_alloc, size_set, heap_dr] <;> omega) | assumption | exact oneC_slice | exact oneC_int | exact oneC_bool | exact oneC_ptr | exact oneC_iface | exact oneC_nil | exact oneC_str | exact oneC_map | exact oneC_func | rfl) only [bx_agg, and_true]
  generalize w.alloc (.cells #[vh, vb] 33) = wA at kA b33 ⊢
  have heA := he.kpNew kA
  refine bankThere_ok (h.kn kA) (heA.at_ 5 (by decide)) (heA.at_ 2 (by decide)) ?_
  cases ht : bThere s d sl with
  | some e =>
    have hW : bWrite s d sl hs bs = (s, some e) := by unfold bWrite; rw [ht]
    rw [hW] at hK
    simp (disch := first | omega | (simp only [size_alloc, size_set, heap_dr] <;> omega) | assumption | exact oneC_slice | exact oneC_int | exact oneC_bool | exact oneC_ptr | exact oneC_iface | exact oneC_nil | exact oneC_str | exact oneC_map | exact oneC_func | rfl) only [gs_true, and_true, err_neq_nil, Option.isNone_some, Bool.not_false]
    exact hK _ kA.ofNone ((h.kn kA).mono fun x hx => .inl hx)
  | none =>
    obtain ⟨i, j, hi, hj, rfl, rfl⟩ := bThere_none ht
    have hW : bWrite s (i : Int) (j : Int) hs bs = if (bArmed s).down then (bArmed s, some 4) else ({ bDone (bArmed s) with drives := s.drives.set i (s.drives[i].1, s.drives[i].2.set j ⟨hs, bs, true, false⟩) }, none) := by
      unfold bWrite
      rw [ht]
      simp only [bcl_in hi, brd_in hi, Int.toNat_natCast]
    rw [hW] at hK
    clear hW
    have fin2 : ∀ (s2 : BS) (W : World), (bArmed s).down = false → Kp F w W → BankAt W b s2 (fun x => F x ∧ x < w.heap.size) → s2.drives = s.drives → s2.slots = s.slots → { s2 with writes := IntKind.i64.wrap (s2.writes + 1) } = bDone (bArmed s) → W.heap[w.heap.size]? = some (.cells #[vh, vb] 33 (0, 0)) →
        X 2 [.pointer (some ⟨b, 0, none⟩), .int .i64 i, .int .i64 j, .pointer (some ⟨w.heap.size, 0, none⟩)] W := by
      intro s2 W hdn hk hB hdr hsl hs2 hb33
      rw [hdn] at hK
      simp only [Bool.false_eq_true, if_false] at hK
      rw [← hs2] at hK
      obtain ⟨dd, a, Fr, v, Fd, g1, g2, _⟩ := hB.ex
      unfold bankCells at g1
      have hset : Kp (fun x => x = b) W (W.setCell ⟨b, 2, none⟩ (.int .i64 (IntKind.i64.wrap (s2.writes + 1)))) := Kp.set1
      have hB3 := hB.setB (s' := { s2 with writes := IntKind.i64.wrap (s2.writes + 1) }) hset (fun v hv => by rw [heap_set_same, hv]; rfl) rfl rfl
      have hb33' := hset.blk hb33 (by omega)
      have hi2 : i < ({ s2 with writes := IntKind.i64.wrap (s2.writes + 1) } : BS).drives.length := by show i < s2.drives.length; rw [hdr]; exact hi
      obtain ⟨dd', a', db, o, k, cs, Fi, q1, q4, qc, hD, hlen, hFi, upd⟩ := hB3.drive hi2
      unfold bankCells at q1
      have hv : v = .slice (some ⟨db, o, none⟩) s2.drives.length k := by
        have hq := q1
        rw [heap_set_same, g1] at hq
        simpa [setOf] using hq
      subst hv
      have hi3 : i < s2.drives.length := by rw [hdr]; exact hi
      have hk3 : Kp F w (W.setCell ⟨b, 2, none⟩ (.int .i64 (IntKind.i64.wrap (s2.writes + 1)))) := hk.set (.inl h.fb)
      refine h2 _ _ _ _ _ ?_
      unfold F29_2
      simp (disch := first | omega | (simp only [size_alloc, size_set, heap_dr] <;> omega) | assumption | exact oneC_slice | exact oneC_int | exact oneC_bool | exact oneC_ptr | exact oneC_iface | exact oneC_nil | exact oneC_str | exact oneC_map | exact oneC_func | rfl) only [ck_ptr, bn_add, oK_some, cell_eq, frozen_eq, cellOf_some, frozenOf_some, setOf_some, heap_set_same, heap_set_ne, heap_dr, List.getElem?_toArray, List.getElem?_cons_zero, List.getElem?_cons_succ, List.setIfInBounds_toArray, List.set_cons_zero, List.set_cons_succ, Nat.zero_add, Int.toNat_natCast, true_and, and_true, Bool.false_eq_true, if_false, eq_self, ld_3, st_3, fa_107_2, fa_107_0, ld_105, ia_105, ld_24, ld_33, g1]
      generalize W.setCell ⟨b, 2, none⟩ (.int .i64 (IntKind.i64.wrap (s2.writes + 1))) = W3 at hset hB3 hb33' q1 q4 qc hD upd hk3 ⊢
      simp (disch := first | omega | (simp only [size_alloc, size_set, heap_dr] <;> omega) | assumption | exact oneC_slice | exact oneC_int | exact oneC_bool | exact oneC_ptr | exact oneC_iface | exact oneC_nil | exact oneC_str | exact oneC_map | exact oneC_func | rfl) only [oK_some, cell_eq, cellOf_some, heap_dr, List.getElem?_toArray, List.getElem?_cons_zero, List.getElem?_cons_succ, Nat.zero_add, true_and, and_true, eq_self, q4, qc, hb33, hb33']
      have kd : Kp none_ W3 (dr W3) := Kp.refl.dr
      have hE3 : ErrAt (dr W3) E 2 := ((he.at_ 2 (by decide)).kp hk3 (hEF 2 (by decide)).1).kp kd (fun h => h)
      refine write_ok (hD.kn kd) hE3 ((hh.kp hk3 hGF).kn kd) ((hbb.kp hk3 hGF).kn kd) fun w' hk' hD' => ?_
      have hlen' : ({ s2 with writes := IntKind.i64.wrap (s2.writes + 1) } : BS).drives[i].2.length = s2.slots := hlen
      have hin : inr ({ s2 with writes := IntKind.i64.wrap (s2.writes + 1) } : BS).drives[i].2 (j : Int) = true := decide_eq_true (by rw [hlen', hsl]; omega)
      rw [hin] at hD' ⊢
      simp only [if_true, Int.toNat_natCast] at hD' ⊢
      have hsz3 := hk3.1
      have hfin := upd w' _ _ _ _ (kd.ofNone.trans hk') (fun x hx => hx ▸ hD.fa) hD' (by simpa using hlen)
      have hdd : ({ s2 with writes := IntKind.i64.wrap (s2.writes + 1) } : BS).drives[i] = s.drives[i] := by
        show s2.drives[i] = s.drives[i]
        congr 1
      have e3 : ({ s2 with writes := IntKind.i64.wrap (s2.writes + 1) } : BS).drives.set i (({ s2 with writes := IntKind.i64.wrap (s2.writes + 1) } : BS).drives[i].1, ({ s2 with writes := IntKind.i64.wrap (s2.writes + 1) } : BS).drives[i].2.set j ⟨hs, bs, true, false⟩) = s.drives.set i (s.drives[i].1, s.drives[i].2.set j ⟨hs, bs, true, false⟩) := by
        rw [hdd]
        show s2.drives.set i _ = _
        rw [hdr]
      rw [e3] at hfin
      refine hK w' (hk3.trans (kd.ofNone.trans (hk'.mono fun x hx => hx ▸ (hFi _ hD.fa).1.1))) (hfin.mono fun x hx => ?_)
      rcases hx with hx | hx
      · exact .inl hx.1
      · exact .inr (by omega)
    have fin0 : ∀ (W : World), Kp F w W → BankAt W b (bArmed s) (fun x => F x ∧ x < w.heap.size) → W.heap[w.heap.size]? = some (.cells #[vh, vb] 33 (0, 0)) →
        X 0 [.pointer (some ⟨b, 0, none⟩), .int .i64 i, .int .i64 j, .pointer (some ⟨w.heap.size, 0, none⟩)] W := by
      intro W hk hB hb33
      obtain ⟨dd, a, Fr, v, Fd, g1, g2, _⟩ := hB.ex
      unfold bankCells at g1
      have e4 := (he.at_ 4 (by decide)).kp hk (hEF 4 (by decide)).1
      unfold ErrAt at e4
      refine h0 _ _ _ _ _ ?_
      unfold F29_0
      cases hdn : (bArmed s).down with
      | true =>
        rw [hdn] at hK
        simp only [if_true] at hK
        rw [hdn] at g1
        simp (disch := first | omega | (simp only [size_alloc, size_set, heap_dr] <;> omega) | assumption | exact oneC_slice | exact oneC_int | exact oneC_bool | exact oneC_ptr | exact oneC_iface | exact oneC_nil | exact oneC_str | exact oneC_map | exact oneC_func | rfl) only [ck_ptr, gs_true, oK_some, cell_eq, cellOf_some, List.getElem?_toArray, List.getElem?_cons_zero, List.getElem?_cons_succ, Nat.zero_add, and_true, ld_4, fa_107_3, ld_26, g1, e4]
        exact hK W hk (hB.mono fun x hx => .inl hx.1)
      | false =>
        rw [hdn] at g1
        cases har : (bArmed s).armed with
        | true =>
          rw [har] at g1
          simp (disch := first | omega | (simp only [size_alloc, size_set, heap_dr] <;> omega) | assumption | exact oneC_slice | exact oneC_int | exact oneC_bool | exact oneC_ptr | exact oneC_iface | exact oneC_nil | exact oneC_str | exact oneC_map | exact oneC_func | rfl) only [ck_ptr, gs_true, gs_false, bn_sub, oK_some, cell_eq, frozen_eq, cellOf_some, frozenOf_some, List.getElem?_toArray, List.getElem?_cons_zero, List.getElem?_cons_succ, Nat.zero_add, and_true, Bool.false_eq_true, if_false, fa_107_4, ld_4, fa_107_5, ld_3, fa_107_3, st_3, g1]
          have hset : Kp (fun x => x = b) W (W.setCell ⟨b, 5, none⟩ (.int .i64 (IntKind.i64.wrap ((bArmed s).left - 1)))) := Kp.set1
          refine fin2 { bArmed s with left := IntKind.i64.wrap ((bArmed s).left - 1) } _ hdn (hk.set (.inl h.fb)) (hB.setB hset (fun v hv => ?_) rfl rfl) bArmed_drives bArmed_slots ?_ (hset.blk hb33 (by omega))
          · rw [heap_set_same, hv]; rfl
          · unfold bDone; rw [har]; rfl
        | false =>
          rw [har] at g1
          simp (disch := first | omega | (simp only [size_alloc, size_set, heap_dr] <;> omega) | assumption | exact oneC_slice | exact oneC_int | exact oneC_bool | exact oneC_ptr | exact oneC_iface | exact oneC_nil | exact oneC_str | exact oneC_map | exact oneC_func | rfl) only [ck_ptr, gs_false, oK_some, cell_eq, cellOf_some, List.getElem?_toArray, List.getElem?_cons_zero, List.getElem?_cons_succ, Nat.zero_add, and_true, fa_107_4, ld_4, fa_107_3, g1]
          refine fin2 (bArmed s) W hdn hk hB bArmed_drives bArmed_slots ?_ hb33
          unfold bDone; rw [har]; rfl
    obtain ⟨dd, a, Fr, v, Fd, g1, g2, _⟩ := (h.kn kA).ex
    unfold bankCells at g1
    have hFA := hF.kn kA
    have hgo : ∀ c : Bool, c = decide (s.armed = true ∧ s.left = 0) → X 1 [.pointer (some ⟨b, 0, none⟩), .int .i64 i, .int .i64 j, .pointer (some ⟨w.heap.size, 0, none⟩), .bool c] wA := by
      intro c hc
      refine h1 _ _ _ _ _ _ ?_
      unfold F29_1
      cases c with
      | true =>
        have hcc := of_decide_eq_true hc.symm
        have hAr : bArmed s = { s with down := true } := by unfold bArmed; rw [if_pos hcc]
        simp (disch := first | omega | (simp only [size_alloc, size_set, heap_dr] <;> omega) | assumption | exact oneC_slice | exact oneC_int | exact oneC_bool | exact oneC_ptr | exact oneC_iface | exact oneC_nil | exact oneC_str | exact oneC_map | exact oneC_func | rfl) only [ck_ptr, gs_true, oK_some, cell_eq, frozen_eq, cellOf_some, frozenOf_some, List.getElem?_toArray, List.getElem?_cons_zero, List.getElem?_cons_succ, Nat.zero_add, and_true, Bool.false_eq_true, if_false, fa_107_3, st_4, g1]
        have hset : Kp (fun x => x = b) wA (wA.setCell ⟨b, 3, none⟩ (.bool true)) := Kp.set1
        refine fin0 _ ((kA.ofNone).set (.inl h.fb)) ?_ (hset.blk b33 (by omega))
        rw [hAr]
        refine hFA.setB hset (fun v hv => ?_) rfl rfl
        rw [heap_set_same, hv]; rfl
      | false =>
        have hAr : bArmed s = s := by unfold bArmed; rw [if_neg (of_decide_eq_false hc.symm)]
        simp (disch := first | omega | (simp only [size_alloc, size_set, heap_dr] <;> omega) | assumption | exact oneC_slice | exact oneC_int | exact oneC_bool | exact oneC_ptr | exact oneC_iface | exact oneC_nil | exact oneC_str | exact oneC_map | exact oneC_func | rfl) only [gs_false, and_true]
        refine fin0 _ kA.ofNone ?_ b33
        rw [hAr]
        exact hFA
    cases har : s.armed with
    | true =>
      rw [har] at g1
      by_cases hl : s.left = 0
      · simp (disch := first | omega | (simp only [size_alloc, size_set, heap_dr] <;> omega) | assumption | exact oneC_slice | exact oneC_int | exact oneC_bool | exact oneC_ptr | exact oneC_iface | exact oneC_nil | exact oneC_str | exact oneC_map | exact oneC_func | rfl) only [ck_ptr, pick_bool, gs_true, gs_false, bn_eql, oK_some, cell_eq, cellOf_some, List.getElem?_toArray, List.getElem?_cons_zero, List.getElem?_cons_succ, Nat.zero_add, and_true, cond_true, eq_self, shr_eq, fa_107_4, ld_4, fa_107_5, ld_3, err_neq_nil, Option.isNone_none, Bool.not_true, g1, hl, decide_true]
        exact hgo true (by rw [har, hl]; rfl)
      · simp (disch := first | omega | (simp only [size_alloc, size_set, heap_dr] <;> omega) | assumption | exact oneC_slice | exact oneC_int | exact oneC_bool | exact oneC_ptr | exact oneC_iface | exact oneC_nil | exact oneC_str | exact oneC_map | exact oneC_func | rfl) only [ck_ptr, pick_bool, gs_true, gs_false, bn_eql, oK_some, cell_eq, cellOf_some, List.getElem?_toArray, List.getElem?_cons_zero, List.getElem?_cons_succ, Nat.zero_add, and_true, cond_true, shr_eq, fa_107_4, ld_4, fa_107_5, ld_3, err_neq_nil, Option.isNone_none, Bool.not_true, g1]
        rw [decide_eq_false hl]
        exact hgo false (by simp [hl])
    | false =>
      rw [har] at g1
      simp (disch := first | omega | (simp only [size_alloc, size_set, heap_dr] <;> omega) | assumption | exact oneC_slice | exact oneC_int | exact oneC_bool | exact oneC_ptr | exact oneC_iface | exact oneC_nil | exact oneC_str | exact oneC_map | exact oneC_func | rfl) only [ck_ptr, pick_bool, gs_false, oK_some, cell_eq, cellOf_some, List.getElem?_toArray, List.getElem?_cons_zero, List.getElem?_cons_succ, Nat.zero_add, and_true, cond_false, shr_eq, fa_107_4, ld_4, err_neq_nil, Option.isNone_none, Bool.not_true, g1]
      exact hgo false (by simp [har])

def bankMeter (s : BS) : Int := s.drives.foldl (fun acc p => IntKind.i64.wrap (acc + p.1)) 0
theorem bankMeter_ok {w : World} {b : Nat} {s : BS} {F : Nat → Prop} {K : Value → World → Prop} (h : BankAt w b s F) (hK : K (.int .i64 (bankMeter s)) w) : call Tryd.prog 38 #[.pointer (some ⟨b, 0, none⟩)] w K := by
  obtain ⟨dd, a, Fr, v, Fd, h1, h2, h3, h4, h5, h6⟩ := h.ex
  obtain ⟨av, cv, rfl⟩ := h2.val
  unfold bankCells at h1
  have hn := h.n16
  refine F38_ok fun X h0 => ?_
  have loop : ∀ (m i : Nat) (acc : Int), i + m = s.drives.length → (s.drives.drop i).foldl (fun acc p => IntKind.i64.wrap (acc + p.1)) acc = bankMeter s → X 0 [.int .i64 acc, .slice av s.drives.length cv, .int .i64 s.drives.length, .int .i64 i] w := by
    intro m
    induction m with
    | zero =>
      intro i acc hi hf
      obtain rfl : i = s.drives.length := by omega
      refine h0 _ _ _ _ _ ?_
      unfold F38_0
      simp (disch := first | omega | (simp only [size_alloc, size_set, heap_dr] <;> omega) | assumption | exact oneC_slice | exact oneC_int | exact oneC_bool | exact oneC_ptr | exact oneC_iface | exact oneC_nil | exact oneC_str | exact oneC_map | exact oneC_func | rfl) only [gs_dec_neg, bn_lss, and_true]
      rw [List.drop_length] at hf
      rw [← hf] at hK
      exact hK
    | succ m ih =>
      intro i acc hi hf
      have hil : i < s.drives.length := by omega
      obtain ⟨db, o, k, cs, e1, _, _, _, q4, _, q6⟩ := h2.open_ (by intro hn; have := ptrs_len (d := dd) (n := s.drives.length); rw [hn] at this; simp at this; omega)
      cases e1
      have hc : cs[o + i]? = some (.pointer (some ⟨dd i, 0, none⟩)) := (q6 i (by rw [ptrs_len]; exact hil)).trans (ptrs_get hil)
      refine h0 _ _ _ _ _ ?_
      unfold F38_0
      simp (disch := first | omega | (simp only [size_alloc, size_set, heap_dr] <;> omega) | assumption | exact oneC_slice | exact oneC_int | exact oneC_bool | exact oneC_ptr | exact oneC_iface | exact oneC_nil | exact oneC_str | exact oneC_map | exact oneC_func | rfl) only [ck_ptr, gs_dec_pos, bn_lss, oK_some, cell_eq, cellOf_some, Int.toNat_natCast, and_true, ia_105, ld_24, fa_48_0, q4, hc]
      refine meter_ok (h4 i hil).1 ?_
      rw [List.drop_eq_getElem_cons hil, List.foldl_cons] at hf
      have hw : IntKind.i64.wrap ((i : Int) + 1) = ((i + 1 : Nat) : Int) := wrap64 (by omega) (by omega)
      simp (disch := first | omega | (simp only [size_alloc, size_set, heap_dr] <;> omega) | assumption | exact oneC_slice | exact oneC_int | exact oneC_bool | exact oneC_ptr | exact oneC_iface | exact oneC_nil | exact oneC_str | exact oneC_map | exact oneC_func | rfl) only [bn_add, and_true, hw]
      exact ih (i + 1) _ (by omega) hf
  unfold F38_s
  simp (disch := first | omega | (simp only [size_alloc, size_set, heap_dr] <;> omega) | assumption | exact oneC_slice | exact oneC_int | exact oneC_bool | exact oneC_ptr | exact oneC_iface | exact oneC_nil | exact oneC_str | exact oneC_map | exact oneC_func | rfl) only [ck_ptr, oK_some, cell_eq, cellOf_some, List.getElem?_toArray, List.getElem?_cons_zero, and_true, fa_107_0, ld_105, len_105, h1]
  exact loop s.drives.length 0 0 (by omega) (by rw [List.drop_zero]; rfl)
end Go.Proofs.YtfiakplgifimkaaDoor
