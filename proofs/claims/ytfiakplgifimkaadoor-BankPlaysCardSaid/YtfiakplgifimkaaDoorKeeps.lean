/- DiskKeeps over memory. No statement of the seat is proved in this text. -/
import Derived.Test.YtfiakplgifimkaaDoorScript
namespace Go.Proofs.YtfiakplgifimkaaDoor
open Go.TS
set_option maxRecDepth 20000

/-- What the law holds of one slot: the cell, and where the last block stands in the script. -/
def Last (v : Value) (ops : List OpD) (c : Cel) (v9 : Value) : Prop :=
  (c.full = false ∧ v9 = .pointer none) ∨ (c.full = true ∧ ∃ b o k, v = .slice (some ⟨b, o, none⟩) ops.length k ∧ ∃ j, ∃ h : j < ops.length, v9 = .pointer (some ⟨b, o + j * 5 + 3, none⟩) ∧ c.head = ops[j].head ∧ c.body = ops[j].body)

theorem getc_at {f : Cel → List UInt8} {cl : List Cel} {i : Nat} {c : Cel} (h : cl[i]? = some c) : getc f cl (i : Int) = if c.bad then [] else if c.full then f c else [] := by
  obtain ⟨hi, rfl⟩ := List.getElem?_eq_some_iff.1 h
  unfold getc
  rw [asks_in hi]
  cases hb : cl[i].bad <;> cases hf : cl[i].full <;> simp [hi]
theorem asks_at {cl : List Cel} {i : Nat} {c : Cel} (h : cl[i]? = some c) : asks cl (i : Int) = if c.bad then some 0 else if c.full then none else some 1 := by
  obtain ⟨hi, rfl⟩ := List.getElem?_eq_some_iff.1 h
  exact asks_in hi

/-- DiskKeeps. -/
theorem keeps_ok {w : World} {E : Nat → Addr} {s t : Int} {v : Value} {ops : List OpD} {F : Nat → Prop} {K : Value → World → Prop} (he : Errs w E [0, 1, 2]) (ho : Ops w v ops F) (ht : -9223372036854775808 ≤ t ∧ t ≤ 9223372036854775807) (hK : ∀ w', Kp none_ w w' → K (.bool true) w') :
    call Tryd.prog 3 #[.int .i64 s, v, .int .i64 t] w K := by
  refine F3_ok fun X h0 h1 h2 h3 => ?_
  unfold F3_s
  refine alive15_ok he fun w1 hk1 => ?_
  simp (disch := first | omega | (simp only [size_alloc, size_set, heap_dr] <;> omega) | assumption | exact oneC_slice | exact oneC_int | exact oneC_bool | exact oneC_ptr | exact oneC_iface | exact oneC_nil | exact oneC_str | exact oneC_map | exact oneC_func | rfl) only [gs_false, un_not, and_true, Bool.not_true]
  have he1 := he.kpNew hk1
  obtain ⟨av, cv, hv, hlen⟩ := ho.len
  subst hv
  refine new_ok (he1.at_ 2 (by simp)) (fun n hn h4 h256 w2 d a hk2 hD2 => ?_) (fun hno w2 hk2 => ?_)
  · have hk02 := hk1.trans hk2
    subst hn
    simp (disch := first | omega | (simp only [size_alloc, size_set, heap_dr] <;> omega) | assumption | exact oneC_slice | exact oneC_int | exact oneC_bool | exact oneC_ptr | exact oneC_iface | exact oneC_nil | exact oneC_str | exact oneC_map | exact oneC_func | rfl) only [gs_false, ext_0, ext_1, and_true, nil_neq]
    refine legal_ok ?_
    have hl : decide (4 ≤ (n : Int) ∧ (n : Int) ≤ 256) = true := decide_eq_true (by omega)
    rw [hl]
    have q1 : -(n : Int) < t.tmod n ∧ t.tmod n < n := by
      have := Int.tmod_lt_of_pos t (show 0 < (n : Int) by omega)
      have := Int.lt_tmod_of_pos t (show 0 < (n : Int) by omega)
      exact ⟨by omega, by omega⟩
    simp (disch := first | omega | (simp only [size_alloc, size_set, heap_dr] <;> omega) | assumption | exact oneC_slice | exact oneC_int | exact oneC_bool | exact oneC_ptr | exact oneC_iface | exact oneC_nil | exact oneC_str | exact oneC_map | exact oneC_func | rfl) only [gs_false, un_not, bn_add, bn_rem, wrap64, and_true, len_22, Bool.not_true]
    have q2 : 0 ≤ (t.tmod n + n).tmod n ∧ (t.tmod n + n).tmod n < n := ⟨Int.tmod_nonneg _ (by omega), Int.tmod_lt_of_pos _ (by omega)⟩
    obtain ⟨sl, hsl⟩ := Int.eq_ofNat_of_zero_le q2.1
    rw [hsl]
    have hsn : sl < n := by omega
    have loop : ∀ (m i : Nat) (rd : Int) (cl : List Cel) (c : Cel) (v9 : Value) (a : Nat) (w3 : World), i + m = ops.length → cl.length = n → cl[sl]? = some c → Last (.slice av ops.length cv) ops c v9 → Kp none_ w w3 → DriveAt w3 d a rd cl (fun b => w.heap.size ≤ b) →
        X 0 [.slice av ops.length cv, .int .i64 sl, .pointer (some ⟨d, 0, none⟩), v9, .bool c.bad, .int .i64 ops.length, .int .i64 i] w3 := by
      intro m
      induction m with
      | zero =>
        intro i rd cl c v9 a w3 hi hcl hc hla hk hD
        obtain rfl : i = ops.length := by omega
        refine h0 _ _ _ _ _ _ _ _ ?_
        unfold F3_0
        simp (disch := first | omega | (simp only [size_alloc, size_set, heap_dr] <;> omega) | assumption | exact oneC_slice | exact oneC_int | exact oneC_bool | exact oneC_ptr | exact oneC_iface | exact oneC_nil | exact oneC_str | exact oneC_map | exact oneC_func | rfl) only [gs_dec_neg, bn_lss, and_true]
        exact hK _ hk
      | succ m ih =>
        intro i rd cl c v9 a w3 hi hcl hc hla hk hD
        have hil : i < ops.length := by omega
        have step : ∀ (rd' : Int) (cl' : List Cel) (c' : Cel) (v9' : Value) (a' : Nat) (w4 : World), cl'.length = n → cl'[sl]? = some c' → Last (.slice av ops.length cv) ops c' v9' → Kp none_ w w4 → DriveAt w4 d a' rd' cl' (fun b => w.heap.size ≤ b) →
            X 1 [.slice av ops.length cv, .int .i64 sl, .pointer (some ⟨d, 0, none⟩), v9', .bool c'.bad, .int .i64 ops.length, .int .i64 i] w4 := by
          intro rd' cl' c' v9' a' w4 hcl' hc' hla' hk4 hD4
          have hE4 := he.kpNew hk4
          refine h1 _ _ _ _ _ _ _ _ ?_
          unfold F3_1
          refine head_ok hD4 (hE4.at_ 0 (by simp)) (hE4.at_ 1 (by simp)) (hE4.at_ 2 (by simp)) fun vh w5 hk5 hvh => ?_
          have hk45 := hk4.trans hk5
          have hD5 := hD4.kn hk5
          have hE5 := he.kpNew hk45
          simp (disch := first | omega | (simp only [size_alloc, size_set, heap_dr] <;> omega) | assumption | exact oneC_slice | exact oneC_int | exact oneC_bool | exact oneC_ptr | exact oneC_iface | exact oneC_nil | exact oneC_str | exact oneC_map | exact oneC_func | rfl) only [ext_0, ext_1, and_true]
          refine body_ok hD5 (hE5.at_ 0 (by simp)) (hE5.at_ 1 (by simp)) (hE5.at_ 2 (by simp)) fun vb w6 hk6 hD6 hvb => ?_
          have hfd := hD5.fd
          have hk46 := hk45.trans' hk6 fun x hx => .inr (by omega)
          have hE6 := he.kpNew hk46
          have hvh6 := hvh.kp hk6 fun b hb hx => by have := hD4.bound.fd.2; have := hk5.1; omega
          rw [asks_at hc']
          rw [getc_at hc'] at hvh hvh6 hvb
          have go : ∀ W, Kp none_ w6 W → X 0 [.slice av ops.length cv, .int .i64 sl, .pointer (some ⟨d, 0, none⟩), v9', .bool c'.bad, .int .i64 ops.length, .int .i64 ((i : Int) + 1)] W := fun W hW => ih (i + 1) _ _ _ _ _ _ (by omega) hcl' hc' hla' (hk46.trans hW) (hD6.kn hW)
          cases hb : c'.bad with
          | true =>
            rw [hb] at go
            have e0 := hE6.at_ 0 (by simp)
            unfold ErrAt at e0
            simp (disch := first | omega | (simp only [size_alloc, size_set, heap_dr] <;> omega) | assumption | exact oneC_slice | exact oneC_int | exact oneC_bool | exact oneC_ptr | exact oneC_iface | exact oneC_nil | exact oneC_str | exact oneC_map | exact oneC_func | rfl) only [pick_bool, gs_true, gs_false, ext_0, ext_1, bn_add, wrap64, oK_some, cell_eq, and_true, cond_false, eq_self, shr_eq, ld_26, if_true, err_neq (a := some 0) (g := 0) hE6 (by simp) (by simp), e0, decide_true, Bool.not_true]
            exact go _ .refl
          | false =>
            rw [hb] at go hvh6 hvb
            cases hf : c'.full with
            | false =>
              rw [hf] at hvh6 hvb
              have h9 : v9' = .pointer none := by
                rcases hla' with ⟨_, h⟩ | ⟨h, _⟩
                · exact h
                · rw [hf] at h; cases h
              subst h9
              have e0 := hE6.at_ 1 (by simp)
              unfold ErrAt at e0
              simp (disch := first | omega | (simp only [size_alloc, size_set, heap_dr] <;> omega) | assumption | exact oneC_slice | exact oneC_int | exact oneC_bool | exact oneC_ptr | exact oneC_iface | exact oneC_nil | exact oneC_str | exact oneC_map | exact oneC_func | rfl) only [pick_bool, gs_true, gs_false, ext_0, ext_1, bn_add, wrap64, oK_some, cell_eq, and_true, Bool.false_eq_true, if_false, cond_false, eq_self, shr_eq, ld_26, ptr30_eql, err_neq (a := some 1) (g := 1) hE6 (by simp) (by simp), e0, decide_true, Bool.not_true, Option.isNone_none]
              exact go _ .refl
            | true =>
              rw [hf] at hvh6 hvb
              simp only [Bool.false_eq_true, if_false, if_true] at hvh6 hvb
              obtain ⟨b, o, k, hv, j, hj, h9, hh, hbd⟩ : ∃ b o k, (Value.slice av ops.length cv) = .slice (some ⟨b, o, none⟩) ops.length k ∧ ∃ j, ∃ h : j < ops.length, v9' = .pointer (some ⟨b, o + j * 5 + 3, none⟩) ∧ c'.head = ops[j].head ∧ c'.body = ops[j].body := by
                rcases hla' with ⟨h, _⟩ | ⟨_, h⟩
                · rw [hf] at h; cases h
                · exact h
              subst h9
              obtain ⟨b', o', k', cs, e, fr, uh, ub, hv', hbl, hbk, _, _, _, c3, c4, huh, hub⟩ := (ho.kn hk46).at_ hj
              rw [hv] at hv'
              cases hv'
              rw [hh] at hvh6
              rw [hbd] at hvb
              have c4' : cs[o + j * 5 + 3 + 1]? = some ub := c4
              simp (disch := first | omega | (simp only [size_alloc, size_set, heap_dr] <;> omega) | assumption | exact oneC_slice | exact oneC_int | exact oneC_bool | exact oneC_ptr | exact oneC_iface | exact oneC_nil | exact oneC_str | exact oneC_map | exact oneC_func | rfl) only [ck_ptr, pick_bool, gs_false, ext_0, ext_1, oK_some, cell_eq, cellOf_some, heap_dr, true_and, and_true, Bool.false_eq_true, if_false, cond_false, eq_self, fa_33_0, ld_31, fa_33_1, err_neq_nil, ptr30_eql, if_true, Option.isNone_none, Option.isNone_some, Bool.not_true, str_of (hvh6.by.kn Kp.refl.dr), str_of (hvb.by.kn Kp.refl.dr), hbk, c3, c4', str_of (huh.kn Kp.refl.dr), str_of (hub.kn Kp.refl.dr), bn_str_neq, decide_true]
              refine h3 _ _ _ _ _ _ _ _ _ ?_
              unfold F3_3
              simp (disch := first | omega | (simp only [size_alloc, size_set, heap_dr] <;> omega) | assumption | exact oneC_slice | exact oneC_int | exact oneC_bool | exact oneC_ptr | exact oneC_iface | exact oneC_nil | exact oneC_str | exact oneC_map | exact oneC_func | rfl) only [gs_false, bn_add, wrap64, and_true]
              exact go _ Kp.refl.dr
        obtain ⟨b, o, k, cs, e, fr, vh, vb, hv, hbl, hb, c0, c1, c2, c3, c4, hh, hbd⟩ := (ho.kn hk).at_ hil
        cases hv
        have e1 := hh.one
        have e2 := hbd.one
        have hE := he.kpNew hk
        have hfd := hD.fd
        have hfa := hD.fa
        have ka : Kp none_ w3 (w3.alloc (.cells #[.int .i64 ops[i].kind, .int .i64 ops[i].which, .int .i64 ops[i].slot, vh, vb] 35)) := Kp.refl.alloc _
        have hka := hk.trans ka
        have hDa := hD.kn ka
        have hEa := he.kpNew hka
        refine h0 _ _ _ _ _ _ _ _ ?_
        unfold F3_0
        by_cases k1 : ops[i].kind = 1
        · simp (disch := first | omega | (simp only [size_alloc, size_set, heap_dr] <;> omega) | assumption | exact oneC_slice | exact oneC_int | exact oneC_bool | exact oneC_ptr | exact oneC_iface | exact oneC_nil | exact oneC_str | exact oneC_map | exact oneC_func | rfl) only [gs_dec_pos, bn_lss, bn_eql, oK_some, cell_eq, cellOf_some, heap_alloc_eq, List.getElem?_toArray, List.getElem?_cons_zero, List.getElem?_cons_succ, Nat.zero_add, Int.toNat_natCast, and_true, Nat.reduceAdd, ia_22, ld_35, ↓alst_35, fa_35_0, ld_3, fa_35_2, fa_35_3, ld_33, hb, c0, c1, c2, c3, c4]
          refine write_ok hDa (hEa.at_ 2 (by simp)) (hh.kn ka) (hbd.kn ka) fun w4 hk4 hD4 => ?_
          have hk34 := hka.trans' hk4 fun x hx => .inr (by omega)
          have hD4' := hD4.mono (G := fun b => w.heap.size ≤ b) fun b hb => by rcases hb with h | h; exact h; have := hka.1; omega
          have hb4 : w4.heap[w3.heap.size]? = some (.cells #[.int .i64 ops[i].kind, .int .i64 ops[i].which, .int .i64 ops[i].slot, vh, vb] 35 (0, 0)) := hk4.blk (heap_alloc_eq rfl) (by have := blk_lt (hD.cells.choose_spec.1); omega)
          cases hin : inr cl ops[i].slot with
          | false =>
            rw [hin] at hD4'
            simp (disch := first | omega | (simp only [size_alloc, size_set, heap_dr] <;> omega) | assumption | exact oneC_slice | exact oneC_int | exact oneC_bool | exact oneC_ptr | exact oneC_iface | exact oneC_nil | exact oneC_str | exact oneC_map | exact oneC_func | rfl) only [pick_bool, gs_false, and_true, Bool.false_eq_true, if_false, cond_false, shr_eq, err_eql_nil, Option.isNone_some, if_false, Bool.false_eq_true]
            refine h2 _ _ _ _ _ _ _ _ _ _ ?_
            unfold F3_2
            simp (disch := first | omega | (simp only [size_alloc, size_set, heap_dr] <;> omega) | assumption | exact oneC_slice | exact oneC_int | exact oneC_bool | exact oneC_ptr | exact oneC_iface | exact oneC_nil | exact oneC_str | exact oneC_map | exact oneC_func | rfl) only [gs_false, and_true]
            exact step _ _ _ _ _ _ hcl hc hla hk34 hD4'
          | true =>
            rw [hin] at hD4'
            simp only [if_true] at hD4'
            have hr := of_decide_eq_true hin
            obtain ⟨q, hq⟩ := Int.eq_ofNat_of_zero_le hr.1
            rw [hq, Int.toNat_natCast] at hD4'
            rw [hq] at hb4
            by_cases hsq : q = sl
            · subst hsq
              simp (disch := first | omega | (simp only [size_alloc, size_set, heap_dr] <;> omega) | assumption | exact oneC_slice | exact oneC_int | exact oneC_bool | exact oneC_ptr | exact oneC_iface | exact oneC_nil | exact oneC_str | exact oneC_map | exact oneC_func | rfl) only [pick_bool, gs_true, bn_eql, oK_some, cell_eq, cellOf_some, List.getElem?_toArray, List.getElem?_cons_zero, List.getElem?_cons_succ, Nat.zero_add, and_true, cond_true, eq_self, shr_eq, ld_3, fa_35_2, err_eql_nil, Option.isNone_none, if_true, hb4, decide_true]
              refine h2 _ _ _ _ _ _ _ _ _ _ ?_
              unfold F3_2
              simp (disch := first | omega | (simp only [size_alloc, size_set, heap_dr] <;> omega) | assumption | exact oneC_slice | exact oneC_int | exact oneC_bool | exact oneC_ptr | exact oneC_iface | exact oneC_nil | exact oneC_str | exact oneC_map | exact oneC_func | rfl) only [gs_true, Int.toNat_natCast, and_true, ia_22, fa_35_3]
              exact step _ _ ⟨ops[i].head, ops[i].body, true, false⟩ _ _ _ (by simpa using hcl) (by rw [List.getElem?_set_self (by omega)]) (.inr ⟨rfl, b, o, _, rfl, i, hil, rfl, rfl, rfl⟩) hk34 hD4'
            · simp (disch := first | omega | (simp only [size_alloc, size_set, heap_dr] <;> omega) | assumption | exact oneC_slice | exact oneC_int | exact oneC_bool | exact oneC_ptr | exact oneC_iface | exact oneC_nil | exact oneC_str | exact oneC_map | exact oneC_func | rfl) only [pick_bool, gs_true, bn_eql, oK_some, cell_eq, cellOf_some, List.getElem?_toArray, List.getElem?_cons_zero, List.getElem?_cons_succ, Nat.zero_add, and_true, cond_true, eq_self, shr_eq, ld_3, fa_35_2, err_eql_nil, Option.isNone_none, if_true, hb4]
              refine h2 _ _ _ _ _ _ _ _ _ _ ?_
              unfold F3_2
              simp (disch := first | omega | (simp only [size_alloc, size_set, heap_dr] <;> omega) | assumption | exact oneC_slice | exact oneC_int | exact oneC_bool | exact oneC_ptr | exact oneC_iface | exact oneC_nil | exact oneC_str | exact oneC_map | exact oneC_func | rfl) only [gs_dec_neg, and_true]
              exact step _ _ c _ _ _ (by simpa using hcl) (by rw [List.getElem?_set_ne hsq]; exact hc) hla hk34 hD4'
        by_cases k5 : ops[i].kind = 5
        · simp (disch := first | omega | (simp only [size_alloc, size_set, heap_dr] <;> omega) | assumption | exact oneC_slice | exact oneC_int | exact oneC_bool | exact oneC_ptr | exact oneC_iface | exact oneC_nil | exact oneC_str | exact oneC_map | exact oneC_func | rfl) only [gs_dec_pos, gs_dec_neg, bn_lss, bn_eql, oK_some, cell_eq, cellOf_some, heap_alloc_eq, List.getElem?_toArray, List.getElem?_cons_zero, Int.toNat_natCast, and_true, ia_22, ld_35, ↓alst_35, fa_35_0, ld_3, hb, c0, c1, c2, c3, c4]
          refine wipe_ok hDa fun w4 a' hk4 hD4 => ?_
          exact step _ _ emptyC _ _ _ (by simpa [empties] using hcl) (by simp [empties, hcl, hsn]) (.inl ⟨rfl, rfl⟩) (hka.trans' hk4 fun x hx => .inr (by omega)) (hD4.mono fun b hb => by rcases hb with h | h; exact h; have := hka.1; omega)
        by_cases k6 : ops[i].kind = 6
        · simp (disch := first | omega | (simp only [size_alloc, size_set, heap_dr] <;> omega) | assumption | exact oneC_slice | exact oneC_int | exact oneC_bool | exact oneC_ptr | exact oneC_iface | exact oneC_nil | exact oneC_str | exact oneC_map | exact oneC_func | rfl) only [gs_dec_pos, gs_dec_neg, bn_lss, bn_eql, oK_some, cell_eq, cellOf_some, heap_alloc_eq, List.getElem?_toArray, List.getElem?_cons_zero, List.getElem?_cons_succ, Nat.zero_add, Int.toNat_natCast, and_true, ia_22, ld_35, ↓alst_35, fa_35_0, ld_3, fa_35_2, hb, c0, c1, c2, c3, c4]
          refine spoil_ok hDa (hEa.at_ 2 (by simp)) fun w4 hk4 hD4 => ?_
          have hk34 := hka.trans' hk4 fun x hx => .inr (by omega)
          have hb4 : w4.heap[w3.heap.size]? = some (.cells #[.int .i64 ops[i].kind, .int .i64 ops[i].which, .int .i64 ops[i].slot, vh, vb] 35 (0, 0)) := hk4.blk (heap_alloc_eq rfl) (by have := blk_lt (hD.cells.choose_spec.1); omega)
          cases hin : inr cl ops[i].slot with
          | false =>
            have hsp : spoilt cl ops[i].slot = cl := by unfold spoilt; rw [dif_neg (of_decide_eq_false hin)]
            rw [hsp] at hD4
            simp (disch := first | omega | (simp only [size_alloc, size_set, heap_dr] <;> omega) | assumption | exact oneC_slice | exact oneC_int | exact oneC_bool | exact oneC_ptr | exact oneC_iface | exact oneC_nil | exact oneC_str | exact oneC_map | exact oneC_func | rfl) only [pick_bool, gs_false, and_true, Bool.false_eq_true, if_false, cond_false, shr_eq, err_eql_nil, Option.isNone_some, if_false, Bool.false_eq_true]
            exact step _ _ _ _ _ _ hcl hc hla hk34 hD4
          | true =>
            have hr := of_decide_eq_true hin
            obtain ⟨q, hq⟩ := Int.eq_ofNat_of_zero_le hr.1
            have hqn : q < cl.length := by omega
            have hsp : spoilt cl ops[i].slot = cl.set q { cl[q] with bad := true } := by unfold spoilt; rw [dif_pos hr]; simp only [hq, Int.toNat_natCast]
            rw [hsp] at hD4
            rw [hq] at hb4
            by_cases hsq : q = sl
            · subst hsq
              obtain ⟨_, rfl⟩ := List.getElem?_eq_some_iff.1 hc
              simp (disch := first | omega | (simp only [size_alloc, size_set, heap_dr] <;> omega) | assumption | exact oneC_slice | exact oneC_int | exact oneC_bool | exact oneC_ptr | exact oneC_iface | exact oneC_nil | exact oneC_str | exact oneC_map | exact oneC_func | rfl) only [pick_bool, gs_true, bn_eql, oK_some, cell_eq, cellOf_some, List.getElem?_toArray, List.getElem?_cons_zero, List.getElem?_cons_succ, Nat.zero_add, and_true, cond_true, eq_self, shr_eq, ld_3, fa_35_2, err_eql_nil, Option.isNone_none, if_true, hb4, decide_true]
              exact step _ _ { cl[q] with bad := true } _ _ _ (by simpa using hcl) (by rw [List.getElem?_set_self (by omega)]) hla hk34 hD4
            · simp (disch := first | omega | (simp only [size_alloc, size_set, heap_dr] <;> omega) | assumption | exact oneC_slice | exact oneC_int | exact oneC_bool | exact oneC_ptr | exact oneC_iface | exact oneC_nil | exact oneC_str | exact oneC_map | exact oneC_func | rfl) only [pick_bool, gs_true, gs_dec_neg, bn_eql, oK_some, cell_eq, cellOf_some, List.getElem?_toArray, List.getElem?_cons_zero, List.getElem?_cons_succ, Nat.zero_add, and_true, cond_true, eq_self, shr_eq, ld_3, fa_35_2, err_eql_nil, Option.isNone_none, if_true, hb4]
              exact step _ _ c _ _ _ (by simpa using hcl) (by rw [List.getElem?_set_ne hsq]; exact hc) hla hk34 hD4
        · simp (disch := first | omega | (simp only [size_alloc, size_set, heap_dr] <;> omega) | assumption | exact oneC_slice | exact oneC_int | exact oneC_bool | exact oneC_ptr | exact oneC_iface | exact oneC_nil | exact oneC_str | exact oneC_map | exact oneC_func | rfl) only [gs_dec_pos, gs_dec_neg, bn_lss, bn_eql, oK_some, cell_eq, cellOf_some, heap_alloc_eq, List.getElem?_toArray, List.getElem?_cons_zero, Int.toNat_natCast, and_true, ia_22, ld_35, ↓alst_35, fa_35_0, ld_3, hb, c0, c1, c2, c3, c4]
          exact step _ _ c _ _ _ hcl hc hla hka hDa
    exact loop ops.length 0 0 (empties n) emptyC _ _ _ (by omega) (by simp [empties]) (by simp [empties, hsn]) (.inl ⟨rfl, rfl⟩) hk02 (hD2.mono fun b hb => by have := hk1.1; omega)
  · simp (disch := first | omega | (simp only [size_alloc, size_set, heap_dr] <;> omega) | assumption | exact oneC_slice | exact oneC_int | exact oneC_bool | exact oneC_ptr | exact oneC_iface | exact oneC_nil | exact oneC_str | exact oneC_map | exact oneC_func | rfl) only [gs_true, ext_0, ext_1, and_true, err_neq_nil, Option.isNone_some, Bool.not_false]
    refine legal_ok ?_
    have hl : decide (4 ≤ s ∧ s ≤ 256) = false := decide_eq_false (by omega)
    rw [hl]
    simp (disch := first | omega | (simp only [size_alloc, size_set, heap_dr] <;> omega) | assumption | exact oneC_slice | exact oneC_int | exact oneC_bool | exact oneC_ptr | exact oneC_iface | exact oneC_nil | exact oneC_str | exact oneC_map | exact oneC_func | rfl) only [un_not, and_true, Bool.not_false]
    exact hK _ (hk1.trans hk2)
end Go.Proofs.YtfiakplgifimkaaDoor
