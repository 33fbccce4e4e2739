/- The document's bank: Write and New. No statement of the seat is proved in this text. -/
import Derived.Test.YtfiakplgifimkaaDoorRBank2
namespace Go.Proofs.YtfiakplgifimkaaDoor
open Go.TS
set_option maxRecDepth 20000

theorem rWrite_ok {w : World} {b : Nat} {s : BS} {F G : Nat → Prop} {d sl : Int} {vh vb : Value} {hs bs : List UInt8} {K : Value → World → Prop} (h : RBankAt w b s F) (hh : By w vh hs G) (hbb : By w vb bs G) (hGF : ∀ x, G x → ¬ F x)
    (hK : ∀ w', Kp F w w' → RBankAt w' b (bWrite s d sl hs bs).1 (fun x => F x ∨ w.heap.size ≤ x) → K (.int .i64 (numOf (bWrite s d sl hs bs).2)) w') :
    call Tryd.prog 60 #[.pointer (some ⟨b, 0, none⟩), .int .i64 d, .int .i64 sl, .agg #[vh, vb]] w K := by
  have e1 := hh.one
  have e2 := hbb.one
  have kA : Kp none_ w (w.alloc (.cells #[vh, vb] 33)) := Kp.refl.alloc _
  have b33 : (w.alloc (.cells #[vh, vb] 33)).heap[w.heap.size]? = some (.cells #[vh, vb] 33 (0, 0)) := heap_alloc_eq rfl
  have hbl : b < w.heap.size := by obtain ⟨_, _, _, _, _, h1, _⟩ := h.ex; exact blk_lt h1
  have hF := h.bound
  refine F60_ok fun X h0 h1 h2 => ?_
  unfold F60_s
  simp (disch := first | omega | (simp only [size_alloc, size_set, heap_dr] <;> omega) | assumption | exact oneC_slice | exact oneC_int | exact oneC_bool | exact oneC_ptr | exact oneC_iface | exact oneC_nil | exact oneC_str | exact oneC_map | exact oneC_func | rfl) only [bx_agg, and_true]
  generalize w.alloc (.cells #[vh, vb] 33) = wA at kA b33 ⊢
  refine rThere_ok (h.kn kA) ?_
  cases ht : bThere s d sl with
  | some e =>
    have hW : bWrite s d sl hs bs = (s, some e) := by unfold bWrite; rw [ht]
    rw [hW] at hK
    simp (disch := first | omega | (simp only [size_alloc, size_set, heap_dr] <;> omega) | assumption | exact oneC_slice | exact oneC_int | exact oneC_bool | exact oneC_ptr | exact oneC_iface | exact oneC_nil | exact oneC_str | exact oneC_map | exact oneC_func | rfl) only [gs_true, bn_neq, and_true, numOf_ne, Bool.not_false]
    exact hK _ kA.ofNone ((h.kn kA).mono fun x hx => .inl hx)
  | none =>
    obtain ⟨i, j, hi, hj, rfl, rfl⟩ := bThere_none ht
    have hW : bWrite s (i : Int) (j : Int) hs bs = if (bArmed s).down then (bArmed s, some 4) else ({ bDone (bArmed s) with drives := s.drives.set i (s.drives[i].1, s.drives[i].2.set j ⟨hs, bs, true, false⟩) }, none) := by
      unfold bWrite
      rw [ht]
      simp only [bcl_in hi, brd_in hi, Int.toNat_natCast]
    rw [hW] at hK
    clear hW
    have fin2 : ∀ (s2 : BS) (W : World), (bArmed s).down = false → Kp F w W → RBankAt W b s2 (fun x => F x ∧ x < w.heap.size) → s2.drives = s.drives → s2.slots = s.slots → { s2 with writes := IntKind.i64.wrap (s2.writes + 1) } = bDone (bArmed s) → W.heap[w.heap.size]? = some (.cells #[vh, vb] 33 (0, 0)) →
        X 2 [.pointer (some ⟨b, 0, none⟩), .int .i64 i, .int .i64 j, .pointer (some ⟨w.heap.size, 0, none⟩)] W := by
      intro s2 W hdn hk hB hdr hsl hs2 hb33
      rw [hdn] at hK
      simp only [Bool.false_eq_true, if_false] at hK
      rw [← hs2] at hK
      obtain ⟨dd, a, Fr, v, Fd, g1, g2, _⟩ := hB.ex
      unfold bankCells at g1
      have hset : Kp (fun x => x = b) W (W.setCell ⟨b, 2, none⟩ (.int .i64 (IntKind.i64.wrap (s2.writes + 1)))) := Kp.set1
      have hB3 := hB.setB (s' := { s2 with writes := IntKind.i64.wrap (s2.writes + 1) }) hset (fun v hv => by rw [heap_set_same, hv]; rfl) rfl rfl
      have hb33' := hset.blk hb33 (by omega)
      have hi2 : i < ({ s2 with writes := IntKind.i64.wrap (s2.writes + 1) } : BS).drives.length := by show i < s2.drives.length; rw [hdr]; exact hi
      obtain ⟨dd', a', db, o, k, cs, Fi, q1, q4, qc, hD, hlen, hFi, upd⟩ := hB3.drive hi2
      unfold bankCells at q1
      have hv : v = .slice (some ⟨db, o, none⟩) s2.drives.length k := by
        have hq := q1
        rw [heap_set_same, g1] at hq
        simpa [setOf] using hq
      subst hv
      have hi3 : i < s2.drives.length := by rw [hdr]; exact hi
      have hk3 : Kp F w (W.setCell ⟨b, 2, none⟩ (.int .i64 (IntKind.i64.wrap (s2.writes + 1)))) := hk.set (.inl h.fb)
      refine h2 _ _ _ _ _ ?_
      unfold F60_2
      simp (disch := first | omega | (simp only [size_alloc, size_set, heap_dr] <;> omega) | assumption | exact oneC_slice | exact oneC_int | exact oneC_bool | exact oneC_ptr | exact oneC_iface | exact oneC_nil | exact oneC_str | exact oneC_map | exact oneC_func | rfl) only [ck_ptr, bn_add, oK_some, cell_eq, frozen_eq, cellOf_some, frozenOf_some, setOf_some, heap_set_same, heap_set_ne, heap_dr, List.getElem?_toArray, List.getElem?_cons_zero, List.getElem?_cons_succ, List.setIfInBounds_toArray, List.set_cons_zero, List.set_cons_succ, Nat.zero_add, Int.toNat_natCast, true_and, and_true, Bool.false_eq_true, if_false, eq_self, ld_3, st_3, fa_85_2, fa_85_0, ld_83, ia_83, ld_56, ld_33, g1]
      generalize W.setCell ⟨b, 2, none⟩ (.int .i64 (IntKind.i64.wrap (s2.writes + 1))) = W3 at hset hB3 hb33' q1 q4 qc hD upd hk3 ⊢
      simp (disch := first | omega | (simp only [size_alloc, size_set, heap_dr] <;> omega) | assumption | exact oneC_slice | exact oneC_int | exact oneC_bool | exact oneC_ptr | exact oneC_iface | exact oneC_nil | exact oneC_str | exact oneC_map | exact oneC_func | rfl) only [oK_some, cell_eq, cellOf_some, heap_dr, List.getElem?_toArray, List.getElem?_cons_zero, List.getElem?_cons_succ, Nat.zero_add, true_and, and_true, eq_self, q4, qc, hb33, hb33']
      have kd : Kp none_ W3 (dr W3) := Kp.refl.dr
      refine refWrite_ok (RefA.kn hD kd) ((hh.kp hk3 hGF).kn kd) ((hbb.kp hk3 hGF).kn kd) (fun x hx hx' => hGF x hx (hFi x hx').1.1) fun w' hk' hD' => ?_
      have hlen' : ({ s2 with writes := IntKind.i64.wrap (s2.writes + 1) } : BS).drives[i].2.length = s2.slots := hlen
      have hin : inr ({ s2 with writes := IntKind.i64.wrap (s2.writes + 1) } : BS).drives[i].2 (j : Int) = true := decide_eq_true (by rw [hlen', hsl]; omega)
      rw [hin] at hD' ⊢
      simp only [if_true, Int.toNat_natCast] at hD' ⊢
      have hsz3 := hk3.1
      have hfin := upd w' a' _ _ _ (kd.ofNone.trans hk') (fun x hx => hx) hD' (by simpa using hlen)
      have hdd : ({ s2 with writes := IntKind.i64.wrap (s2.writes + 1) } : BS).drives[i] = s.drives[i] := by
        show s2.drives[i] = s.drives[i]
        congr 1
      have e3 : ({ s2 with writes := IntKind.i64.wrap (s2.writes + 1) } : BS).drives.set i (({ s2 with writes := IntKind.i64.wrap (s2.writes + 1) } : BS).drives[i].1, ({ s2 with writes := IntKind.i64.wrap (s2.writes + 1) } : BS).drives[i].2.set j ⟨hs, bs, true, false⟩) = s.drives.set i (s.drives[i].1, s.drives[i].2.set j ⟨hs, bs, true, false⟩) := by
        rw [hdd]
        show s2.drives.set i _ = _
        rw [hdr]
      rw [e3] at hfin
      refine hK w' (hk3.trans (kd.ofNone.trans (hk'.mono fun x hx => (hFi _ hx).1.1))) (hfin.mono fun x hx => ?_)
      rcases hx with hx | hx
      · exact .inl hx.1
      · exact .inr (by omega)
    have fin0 : ∀ (W : World), Kp F w W → RBankAt W b (bArmed s) (fun x => F x ∧ x < w.heap.size) → W.heap[w.heap.size]? = some (.cells #[vh, vb] 33 (0, 0)) →
        X 0 [.pointer (some ⟨b, 0, none⟩), .int .i64 i, .int .i64 j, .pointer (some ⟨w.heap.size, 0, none⟩)] W := by
      intro W hk hB hb33
      obtain ⟨dd, a, Fr, v, Fd, g1, g2, _⟩ := hB.ex
      unfold bankCells at g1
      refine h0 _ _ _ _ _ ?_
      unfold F60_0
      cases hdn : (bArmed s).down with
      | true =>
        rw [hdn] at hK
        simp only [if_true, num4] at hK
        rw [hdn] at g1
        simp (disch := first | omega | (simp only [size_alloc, size_set, heap_dr] <;> omega) | assumption | exact oneC_slice | exact oneC_int | exact oneC_bool | exact oneC_ptr | exact oneC_iface | exact oneC_nil | exact oneC_str | exact oneC_map | exact oneC_func | rfl) only [ck_ptr, gs_true, oK_some, cell_eq, cellOf_some, List.getElem?_toArray, List.getElem?_cons_zero, List.getElem?_cons_succ, Nat.zero_add, and_true, ld_4, fa_85_3, g1]
        exact hK W hk (hB.mono fun x hx => .inl hx.1)
      | false =>
        rw [hdn] at g1
        cases har : (bArmed s).armed with
        | true =>
          rw [har] at g1
          simp (disch := first | omega | (simp only [size_alloc, size_set, heap_dr] <;> omega) | assumption | exact oneC_slice | exact oneC_int | exact oneC_bool | exact oneC_ptr | exact oneC_iface | exact oneC_nil | exact oneC_str | exact oneC_map | exact oneC_func | rfl) only [ck_ptr, gs_true, gs_false, bn_sub, oK_some, cell_eq, frozen_eq, cellOf_some, frozenOf_some, List.getElem?_toArray, List.getElem?_cons_zero, List.getElem?_cons_succ, Nat.zero_add, and_true, Bool.false_eq_true, if_false, fa_85_4, ld_4, fa_85_5, ld_3, fa_85_3, st_3, g1]
          have hset : Kp (fun x => x = b) W (W.setCell ⟨b, 5, none⟩ (.int .i64 (IntKind.i64.wrap ((bArmed s).left - 1)))) := Kp.set1
          refine fin2 { bArmed s with left := IntKind.i64.wrap ((bArmed s).left - 1) } _ hdn (hk.set (.inl h.fb)) (hB.setB hset (fun v hv => ?_) rfl rfl) bArmed_drives bArmed_slots ?_ (hset.blk hb33 (by omega))
          · rw [heap_set_same, hv]; rfl
          · unfold bDone; rw [har]; rfl
        | false =>
          rw [har] at g1
          simp (disch := first | omega | (simp only [size_alloc, size_set, heap_dr] <;> omega) | assumption | exact oneC_slice | exact oneC_int | exact oneC_bool | exact oneC_ptr | exact oneC_iface | exact oneC_nil | exact oneC_str | exact oneC_map | exact oneC_func | rfl) only [ck_ptr, gs_false, oK_some, cell_eq, cellOf_some, List.getElem?_toArray, List.getElem?_cons_zero, List.getElem?_cons_succ, Nat.zero_add, and_true, fa_85_4, ld_4, fa_85_3, g1]
          refine fin2 (bArmed s) W hdn hk hB bArmed_drives bArmed_slots ?_ hb33
          unfold bDone; rw [har]; rfl
    obtain ⟨dd, a, Fr, v, Fd, g1, g2, _⟩ := (h.kn kA).ex
    unfold bankCells at g1
    have hFA := hF.kn kA
    have hgo : ∀ c : Bool, c = decide (s.armed = true ∧ s.left = 0) → X 1 [.pointer (some ⟨b, 0, none⟩), .int .i64 i, .int .i64 j, .pointer (some ⟨w.heap.size, 0, none⟩), .bool c] wA := by
      intro c hc
      refine h1 _ _ _ _ _ _ ?_
      unfold F60_1
      cases c with
      | true =>
        have hcc := of_decide_eq_true hc.symm
        have hAr : bArmed s = { s with down := true } := by unfold bArmed; rw [if_pos hcc]
        simp (disch := first | omega | (simp only [size_alloc, size_set, heap_dr] <;> omega) | assumption | exact oneC_slice | exact oneC_int | exact oneC_bool | exact oneC_ptr | exact oneC_iface | exact oneC_nil | exact oneC_str | exact oneC_map | exact oneC_func | rfl) only [ck_ptr, gs_true, oK_some, cell_eq, frozen_eq, cellOf_some, frozenOf_some, List.getElem?_toArray, List.getElem?_cons_zero, List.getElem?_cons_succ, Nat.zero_add, and_true, Bool.false_eq_true, if_false, fa_85_3, st_4, g1]
        have hset : Kp (fun x => x = b) wA (wA.setCell ⟨b, 3, none⟩ (.bool true)) := Kp.set1
        refine fin0 _ ((kA.ofNone).set (.inl h.fb)) ?_ (hset.blk b33 (by omega))
        rw [hAr]
        refine hFA.setB hset (fun v hv => ?_) rfl rfl
        rw [heap_set_same, hv]; rfl
      | false =>
        have hAr : bArmed s = s := by unfold bArmed; rw [if_neg (of_decide_eq_false hc.symm)]
        simp (disch := first | omega | (simp only [size_alloc, size_set, heap_dr] <;> omega) | assumption | exact oneC_slice | exact oneC_int | exact oneC_bool | exact oneC_ptr | exact oneC_iface | exact oneC_nil | exact oneC_str | exact oneC_map | exact oneC_func | rfl) only [gs_false, and_true]
        refine fin0 _ kA.ofNone ?_ b33
        rw [hAr]
        exact hFA
    cases har : s.armed with
    | true =>
      rw [har] at g1
      by_cases hl : s.left = 0
      · simp (disch := first | omega | (simp only [size_alloc, size_set, heap_dr] <;> omega) | assumption | exact oneC_slice | exact oneC_int | exact oneC_bool | exact oneC_ptr | exact oneC_iface | exact oneC_nil | exact oneC_str | exact oneC_map | exact oneC_func | rfl) only [ck_ptr, pick_bool, gs_true, gs_false, bn_eql, bn_neq, oK_some, cell_eq, cellOf_some, List.getElem?_toArray, List.getElem?_cons_zero, List.getElem?_cons_succ, Nat.zero_add, and_true, cond_true, eq_self, shr_eq, fa_85_4, ld_4, fa_85_5, ld_3, num0, decide_true, Bool.not_true, g1, hl]
        exact hgo true (by rw [har, hl]; rfl)
      · simp (disch := first | omega | (simp only [size_alloc, size_set, heap_dr] <;> omega) | assumption | exact oneC_slice | exact oneC_int | exact oneC_bool | exact oneC_ptr | exact oneC_iface | exact oneC_nil | exact oneC_str | exact oneC_map | exact oneC_func | rfl) only [ck_ptr, pick_bool, gs_true, gs_false, bn_eql, bn_neq, oK_some, cell_eq, cellOf_some, List.getElem?_toArray, List.getElem?_cons_zero, List.getElem?_cons_succ, Nat.zero_add, and_true, cond_true, eq_self, shr_eq, fa_85_4, ld_4, fa_85_5, ld_3, num0, decide_true, Bool.not_true, g1]
        rw [decide_eq_false hl]
        exact hgo false (by simp [hl])
    | false =>
      rw [har] at g1
      simp (disch := first | omega | (simp only [size_alloc, size_set, heap_dr] <;> omega) | assumption | exact oneC_slice | exact oneC_int | exact oneC_bool | exact oneC_ptr | exact oneC_iface | exact oneC_nil | exact oneC_str | exact oneC_map | exact oneC_func | rfl) only [ck_ptr, pick_bool, gs_false, bn_neq, oK_some, cell_eq, cellOf_some, List.getElem?_toArray, List.getElem?_cons_zero, List.getElem?_cons_succ, Nat.zero_add, and_true, cond_false, eq_self, shr_eq, fa_85_4, ld_4, num0, decide_true, Bool.not_true, g1]
      exact hgo false (by simp [har])

theorem bslP_ok {w : World} {d' e tx : Nat} {K : Value → World → Prop} (ht : Tryd.prog.underlying tx = some (.slice e)) (hs : szB Tryd.prog e = some 1) (hz : zeroB Tryd.prog e = some (.pointer none)) :
    bsl Tryd.prog tx 1 [(0, .pointer (some ⟨d', 0, none⟩))] w K = K (.slice (some ⟨w.heap.size, 0, none⟩) 1 1) (w.alloc (.cells #[.pointer (some ⟨d', 0, none⟩)] e)) := by
  have hb := bsl_vals (w := w) (K := K) (P := Tryd.prog) (e := e) (n := 1) (vs := [.pointer (some ⟨d', 0, none⟩)]) (z := .pointer none) ht hs hz rfl (by simp) (by omega) (by omega) (by simp [oneC])
  simp only [List.zipIdx_cons, List.zipIdx_nil, List.map_cons, List.map_nil] at hb
  exact hb
theorem appP2_ok {w : World} {v : Value} {d : Nat → Nat} {n d' e tx t0 : Nat} {F : Nat → Prop} {K : Value → World → Prop} (h : Own w e 1 v n (ptrs d n) F) (hl : n < 17592186044000) (ht : Tryd.prog.underlying tx = some (.slice e)) (hs : szB Tryd.prog e = some 1) (hz : zeroB Tryd.prog e = some (.pointer none)) (hby : bytesB Tryd.prog e = some 8)
    (hb : w.heap[t0]? = some (.cells #[.pointer (some ⟨d', 0, none⟩)] e (0, 0)))
    (hK : ∀ v' w', Kp F w w' → Own w' e 1 v' (n + 1) (ptrs (fun j => if j = n then d' else d j) (n + 1)) (fun b => F b ∨ w.heap.size ≤ b) → K v' w') : bAppend Tryd.prog #[tx, tx] tx [v, .slice (some ⟨t0, 0, none⟩) 1 1] w K := by
  have hr : Rd w e 1 (.slice (some ⟨t0, 0, none⟩) 1 1) 1 [.pointer (some ⟨d', 0, none⟩)] (fun b => b = t0) := (Own.made (n := 1) (sz := 1) (F := fun b => b = t0) (cs := #[.pointer (some ⟨d', 0, none⟩)]) hb rfl rfl (by simp [oneC])).rd
  refine app_ok (e := e) (sz := 1) (z := .pointer none) (by_ := 8) ht ht hs hz hby rfl (by omega) h hr (by omega) (by omega) fun v' w' hk' hn => ?_
  refine hK v' w' hk' ?_
  rw [ptrs_push]
  exact hn

/-- The document's New. -/
theorem rNew_ok {w : World} {m n : Nat} {K : Value → World → Prop} (hm : m ≤ 16) (hn : n ≤ 256) (hK : ∀ w' b, Kp none_ w w' → RBankAt w' b (bank0 m n) (fun x => w.heap.size ≤ x) → K (.pointer (some ⟨b, 0, none⟩)) w') :
    call Tryd.prog 40 #[.int .i64 m, .int .i64 n] w K := by
  refine F40_ok fun X h0 => ?_
  unfold F40_s
  have ka : Kp none_ w (w.alloc (.cells #[.slice none 0 0, .int .i64 n, .int .i64 0, .bool false, .bool false, .int .i64 0] 85)) := Kp.refl.alloc _
  have ba : (w.alloc (.cells #[.slice none 0 0, .int .i64 n, .int .i64 0, .bool false, .bool false, .int .i64 0] 85)).heap[w.heap.size]? = some (.cells #[.slice none 0 0, .int .i64 n, .int .i64 0, .bool false, .bool false, .int .i64 0] 85 (0, 0)) := heap_alloc_eq rfl
  simp (disch := first | omega | (simp only [size_alloc, size_set, heap_dr] <;> omega) | assumption | exact oneC_slice | exact oneC_int | exact oneC_bool | exact oneC_ptr | exact oneC_iface | exact oneC_nil | exact oneC_str | exact oneC_map | exact oneC_func | rfl) only [bx_agg, and_true, bld_85_1]
  generalize w.alloc (.cells #[.slice none 0 0, .int .i64 n, .int .i64 0, .bool false, .bool false, .int .i64 0] 85) = wA at ka ba ⊢
  have loop : ∀ (k i : Nat) (w3 : World), i + k = m → Kp none_ w w3 → RBankAt w3 w.heap.size (bank0 i n) (fun x => w.heap.size ≤ x) → X 0 [.int .i64 m, .int .i64 n, .pointer (some ⟨w.heap.size, 0, none⟩), .int .i64 i] w3 := by
    intro k
    induction k with
    | zero =>
      intro i w3 hi hk hB
      obtain rfl : i = m := by omega
      refine h0 _ _ _ _ _ ?_
      unfold F40_0
      simp (disch := first | omega | (simp only [size_alloc, size_set, heap_dr] <;> omega) | assumption | exact oneC_slice | exact oneC_int | exact oneC_bool | exact oneC_ptr | exact oneC_iface | exact oneC_nil | exact oneC_str | exact oneC_map | exact oneC_func | rfl) only [gs_dec_neg, bn_lss, and_true]
      exact hK _ _ hk hB
    | succ k ih =>
      intro i w3 hi hk hB
      have hil : i < m := by omega
      have hB' := hB.bound
      refine h0 _ _ _ _ _ ?_
      unfold F40_0
      obtain ⟨d, a, Fr, v, Fd, h1, h2, h3, h4, h5, h6⟩ := hB'.ex
      have hlen : (bank0 i n).drives.length = i := by simp [bank0]
      rw [hlen] at h2
      have hbl := blk_lt h1
      have g0 := h1
      unfold bankCells at g0
      simp (disch := first | omega | (simp only [size_alloc, size_set, heap_dr] <;> omega) | assumption | exact oneC_slice | exact oneC_int | exact oneC_bool | exact oneC_ptr | exact oneC_iface | exact oneC_nil | exact oneC_str | exact oneC_map | exact oneC_func | rfl) only [ck_ptr, gs_dec_pos, bn_lss, oK_some, cell_eq, cellOf_some, heap_dr, List.getElem?_toArray, List.getElem?_cons_zero, true_and, and_true, eq_self, fa_85_0, ld_83, g0]
      refine refNew_ok hn fun w4 d' hk4d hD4d => ?_
      have hk4 : Kp none_ w3 w4 := (Kp.refl.dr : Kp none_ w3 (dr w3)).trans hk4d
      have hD4 : RefA w4 d' 0 0 (empties n) (fun x => w3.heap.size ≤ x) := hD4d
      have g1 := hk4.blk h1 (fun h => h)
      have g1' := g1
      unfold bankCells at g1
      have s4 := hk4.1
      simp (disch := first | omega | (simp only [size_alloc, size_set, heap_dr] <;> omega) | assumption | exact oneC_slice | exact oneC_int | exact oneC_bool | exact oneC_ptr | exact oneC_iface | exact oneC_nil | exact oneC_str | exact oneC_map | exact oneC_func | rfl) only [ck_ptr, oK_some, cell_eq, cellOf_some, List.getElem?_toArray, List.getElem?_cons_zero, true_and, and_true, eq_self, fa_85_0, ld_83, g1]
      rw [bslP_ok (e := 56) (by kernel_rfl) (by kernel_rfl) (by kernel_rfl)]
      have k4a : Kp none_ w4 (w4.alloc (.cells #[.pointer (some ⟨d', 0, none⟩)] 56)) := Kp.refl.alloc _
      have b4a : (w4.alloc (.cells #[.pointer (some ⟨d', 0, none⟩)] 56)).heap[w4.heap.size]? = some (.cells #[.pointer (some ⟨d', 0, none⟩)] 56 (0, 0)) := heap_alloc_eq rfl
      generalize w4.alloc (.cells #[.pointer (some ⟨d', 0, none⟩)] 56) = w4a at k4a b4a ⊢
      have g1a := k4a.blk g1 (fun h => h)
      have s4a := k4a.1
      simp (disch := first | omega | (simp only [size_alloc, size_set, heap_dr] <;> omega) | assumption | exact oneC_slice | exact oneC_int | exact oneC_bool | exact oneC_ptr | exact oneC_iface | exact oneC_nil | exact oneC_str | exact oneC_map | exact oneC_func | rfl) only [ck_ptr, oK_some, cell_eq, cellOf_some, List.getElem?_toArray, List.getElem?_cons_zero, true_and, and_true, eq_self, fa_85_0, ld_83, g1a]
      refine appP2_ok (d' := d') (h2.kn (hk4.trans k4a)) (by omega) (by kernel_rfl) (by kernel_rfl) (by kernel_rfl) (by kernel_rfl) b4a fun v' w5 hk5a hn5a => ?_
      have hk5 : Kp Fd w4 w5 := k4a.ofNone.trans hk5a
      have hn5 := hn5a.mono (G := fun b => Fd b ∨ w4.heap.size ≤ b) fun x hx => hx.elim .inl fun h => .inr (by omega)
      obtain ⟨av', cv', rfl⟩ := hn5.val
      have hbF : ¬ Fd w.heap.size := fun h => (h3 _ h).2 rfl
      have g5 := hk5.blk g1' hbF
      have hw : IntKind.i64.wrap ((i : Int) + 1) = ((i + 1 : Nat) : Int) := wrap64 (by omega) (by omega)
      unfold bankCells at g5
      simp (disch := first | omega | (simp only [size_alloc, size_set, heap_dr] <;> omega) | assumption | exact oneC_slice | exact oneC_int | exact oneC_bool | exact oneC_ptr | exact oneC_iface | exact oneC_nil | exact oneC_str | exact oneC_map | exact oneC_func | rfl) only [ck_ptr, bn_add, oK_some, cell_eq, frozen_eq, cellOf_some, frozenOf_some, List.getElem?_toArray, List.getElem?_cons_zero, true_and, and_true, Bool.false_eq_true, if_false, eq_self, fa_85_0, st_83, g5, hw]
      have hset : Kp (fun x => x = w.heap.size) w5 (w5.setCell ⟨w.heap.size, 0, none⟩ (.slice av' (i + 1) cv')) := Kp.set1
      have hall : Kp none_ w (w5.setCell ⟨w.heap.size, 0, none⟩ (.slice av' (i + 1) cv')) := ((hk.trans hk4).trans' hk5 fun x hx => .inr (h3 x hx).1.1).trans' hset fun x hx => .inr (by omega)
      have hall4 : Kp (fun x => Fd x ∨ x = w.heap.size) w4 (w5.setCell ⟨w.heap.size, 0, none⟩ (.slice av' (i + 1) cv')) := (hk5.mono fun x hx => .inl hx).trans (hset.mono fun x hx => .inr hx)
      refine ih (i + 1) _ (by omega) hall ?_
      have hlen' : (bank0 (i + 1) n).drives.length = i + 1 := by simp [bank0]
      have hgd : ∀ (j : Nat) (h : j < (bank0 (i + 1) n).drives.length), (bank0 (i + 1) n).drives[j] = (0, empties n) := fun j h => by simp [bank0]
      have hgd0 : ∀ (j : Nat) (h : j < (bank0 i n).drives.length), (bank0 i n).drives[j] = (0, empties n) := fun j h => by simp [bank0]
      refine ⟨by rw [hlen']; omega, Nat.le_refl _, fun j => if j = i then d' else d j, fun j => if j = i then 0 else a j, fun j x => if j = i then w3.heap.size ≤ x ∧ x < w4.heap.size else Fr j x, .slice av' (i + 1) cv', fun x => Fd x ∨ w4.heap.size ≤ x, ?_, ?_, ?_, ?_, ?_, ?_⟩
      · rw [heap_set_same, g5]
        rfl
      · rw [hlen']
        exact hn5.kp hset fun x hx hx' => hx.elim (fun h => (h3 x h).2 hx') (fun h => by omega)
      · exact fun x hx => hx.elim (fun h => ⟨(h3 x h).1.1, (h3 x h).2⟩) (fun h => ⟨by omega, by omega⟩)
      · intro j hj
        rw [hgd j hj]
        rw [hlen'] at hj
        by_cases hji : j = i
        · subst hji
          refine ⟨?_, by simp [empties, bank0]⟩
          simp only [if_true]
          exact hD4.bound.kp hall4 fun x hx hx' => hx'.elim (fun h => by have := (h3 x h).1.2; omega) (fun h => by omega)
        · have hj2 : j < (bank0 i n).drives.length := by rw [hlen]; omega
          refine ⟨?_, by simp [empties, bank0]⟩
          simp only [hji, if_false]
          have := (h4 j hj2).1
          rw [hgd0 j hj2] at this
          exact (this.kn hk4).kp hall4 fun x hx hx' => hx'.elim (fun h => (h5 j x hj2 hx).2.2 h) (fun h => (h5 j x hj2 hx).2.1 h)
      · intro j x hj hx
        rw [hlen'] at hj
        by_cases hji : j = i
        · subst hji
          simp only [if_true] at hx
          exact ⟨by omega, by omega, fun hd => hd.elim (fun h => by have := (h3 x h).1.2; omega) (fun h => by omega)⟩
        · have hj2 : j < (bank0 i n).drives.length := by rw [hlen]; omega
          simp only [hji, if_false] at hx
          exact ⟨(h5 j x hj2 hx).1.1, (h5 j x hj2 hx).2.1, fun hd => hd.elim (h5 j x hj2 hx).2.2 (fun h => by have := (h5 j x hj2 hx).1.2; omega)⟩
      · intro j l x hj hl hne hx hx'
        rw [hlen'] at hj hl
        by_cases hji : j = i
        · subst hji
          have hlj : ¬ l = j := fun h => hne h.symm
          have hl2 : l < (bank0 j n).drives.length := by rw [hlen]; omega
          simp only [if_true, hlj, if_false] at hx hx'
          have := (h5 l x hl2 hx').1.2
          omega
        · have hj2 : j < (bank0 i n).drives.length := by rw [hlen]; omega
          by_cases hli : l = i
          · subst hli
            simp only [if_true, hji, if_false] at hx hx'
            have := (h5 j x hj2 hx).1.2
            omega
          · have hl2 : l < (bank0 i n).drives.length := by rw [hlen]; omega
            simp only [hji, hli, if_false] at hx hx'
            exact h6 j l x hj2 hl2 hne hx hx'
  refine loop m 0 wA (by omega) ka ⟨Nat.zero_le _, Nat.le_refl _, fun _ => 0, fun _ => 0, fun _ _ => False, .slice none 0 0, fun _ => False, ba, Own.nil, fun x h => h.elim, fun i h => absurd h (Nat.not_lt_zero _), fun i x h => absurd h (Nat.not_lt_zero _), fun i j x h => absurd h (Nat.not_lt_zero _)⟩
end Go.Proofs.YtfiakplgifimkaaDoor
