/- BankMeters over memory. No statement of the seat is proved in this text. -/
import Derived.Test.YtfiakplgifimkaaDoorBMeter
import Derived.Test.YtfiakplgifimkaaDoorArms2
import Derived.Test.YtfiakplgifimkaaDoorScript16
namespace Go.Proofs.YtfiakplgifimkaaDoor
open Go.TS
set_option maxRecDepth 20000

theorem bArm_isNone {s : BS} {n : Int} : (bArm s n).2.isNone = decide (0 ≤ n) := by
  unfold bArm
  by_cases h : n < 0
  · rw [if_pos h, decide_eq_false (by omega)]; rfl
  · rw [if_neg h, decide_eq_true (by omega)]; rfl
theorem bmeters_ok {w : World} {E : Nat → Addr} {z0 z1 : Int} {v : Value} {ops : List Op16} {F : Nat → Prop} {K : Value → World → Prop} (he : Errs w E LB) (ho : Ops16 w v ops F) (hF : ∀ x, F x → x < w.heap.size) (hK : ∀ w', Kp none_ w w' → K (.bool true) w') :
    call Tryd.prog 8 #[.agg #[.int .i64 z0, .int .i64 z1], v] w K := by
  refine F8_ok fun X h0 h1 => ?_
  unfold F8_s
  have ka : Kp none_ w (w.alloc (.cells #[.int .i64 z0, .int .i64 z1] 54)) := Kp.refl.alloc _
  have ba : (w.alloc (.cells #[.int .i64 z0, .int .i64 z1] 54)).heap[w.heap.size]? = some (.cells #[.int .i64 z0, .int .i64 z1] 54 (0, 0)) := heap_alloc_eq rfl
  simp (disch := first | omega | (simp only [size_alloc, size_set, heap_dr] <;> omega) | assumption | exact oneC_slice | exact oneC_int | exact oneC_bool | exact oneC_ptr | exact oneC_iface | exact oneC_nil | exact oneC_str | exact oneC_map | exact oneC_func | rfl) only [bx_agg, and_true]
  generalize w.alloc (.cells #[.int .i64 z0, .int .i64 z1] 54) = wA at ka ba ⊢
  refine alive16_ok (he.kpNew ka) fun w1 hk1 => ?_
  have b1 := hk1.blk ba (fun h => h)
  simp (disch := first | omega | (simp only [size_alloc, size_set, heap_dr] <;> omega) | assumption | exact oneC_slice | exact oneC_int | exact oneC_bool | exact oneC_ptr | exact oneC_iface | exact oneC_nil | exact oneC_str | exact oneC_map | exact oneC_func | rfl) only [gs_false, un_not, oK_some, cell_eq, cellOf_some, List.getElem?_toArray, List.getElem?_cons_zero, List.getElem?_cons_succ, Nat.zero_add, Nat.add_zero, and_true, ia_54, ld_3, Bool.not_true, b1, Int.toNat_zero, Int.toNat_one]
  have hk01 := ka.trans hk1
  obtain ⟨av, cv, hv, hlen⟩ := ho.len
  subst hv
  refine bankNew_ok (he.kpNew hk01) (fun e hbe w2 hk2 => ?_) fun m n hm hn hm1 hm16 hn4 hn256 hbe w2 b hk2 hB2 => ?_
  · have b2 := hk2.blk b1 (fun h => h)
    simp (disch := first | omega | (simp only [size_alloc, size_set, heap_dr] <;> omega) | assumption | exact oneC_slice | exact oneC_int | exact oneC_bool | exact oneC_ptr | exact oneC_iface | exact oneC_nil | exact oneC_str | exact oneC_map | exact oneC_func | rfl) only [gs_true, ext_0, ext_1, oK_some, cell_eq, cellOf_some, List.getElem?_toArray, List.getElem?_cons_zero, List.getElem?_cons_succ, Nat.zero_add, Nat.add_zero, and_true, ia_54, ld_3, err_neq_nil, Option.isNone_some, Bool.not_false, b2, Int.toNat_zero, Int.toNat_one]
    refine legal16_ok ?_
    simp (disch := first | omega | (simp only [size_alloc, size_set, heap_dr] <;> omega) | assumption | exact oneC_slice | exact oneC_int | exact oneC_bool | exact oneC_ptr | exact oneC_iface | exact oneC_nil | exact oneC_str | exact oneC_map | exact oneC_func | rfl) only [bn_neq, and_true, decide_eq_false (bankCode_some hbe), Bool.not_false]
    exact hK _ (hk01.trans hk2)
  · have hk02 := hk01.trans hk2
    have s01 := hk01.1
    have loop : ∀ (k i : Nat) (s : BS) (w3 : World), i + k = ops.length → BOk m n s → Kp none_ w w3 → BankAt w3 b s (fun x => w.heap.size ≤ x) →
        X 0 [.pointer (some ⟨b, 0, none⟩), .int .i64 (bankMeter s), .int .i64 s.writes, .slice av ops.length cv, .int .i64 ops.length, .int .i64 i] w3 := by
      intro k
      induction k with
      | zero =>
        intro i s w3 hi hs hk hB
        obtain rfl : i = ops.length := by omega
        refine h0 _ _ _ _ _ _ _ ?_
        unfold F8_0
        simp (disch := first | omega | (simp only [size_alloc, size_set, heap_dr] <;> omega) | assumption | exact oneC_slice | exact oneC_int | exact oneC_bool | exact oneC_ptr | exact oneC_iface | exact oneC_nil | exact oneC_str | exact oneC_map | exact oneC_func | rfl) only [gs_dec_neg, bn_lss, and_true]
        exact hK _ hk
      | succ k ih =>
        intro i s w3 hi hs hk hB
        have hil : i < ops.length := by omega
        have step : ∀ (s' : BS) (me wr : Int) (w4 : World), BOk m n s' → Kp none_ w w4 → BankAt w4 b s' (fun x => w.heap.size ≤ x) → me = bankMeter s' → wr = s'.writes →
            X 1 [.pointer (some ⟨b, 0, none⟩), .int .i64 me, .int .i64 wr, .slice av ops.length cv, .int .i64 ops.length, .int .i64 i] w4 := by
          intro s' me wr w4 hs' hk4 hB4 hme hwr
          subst hme hwr
          have ht := hs'.there hm1 hn4
          refine h1 _ _ _ _ _ _ _ ?_
          unfold F8_1
          refine bankMeter_ok hB4 ?_
          simp (disch := first | omega | (simp only [size_alloc, size_set, heap_dr] <;> omega) | assumption | exact oneC_slice | exact oneC_int | exact oneC_bool | exact oneC_ptr | exact oneC_iface | exact oneC_nil | exact oneC_str | exact oneC_map | exact oneC_func | rfl) only [gs_false, bn_neq, and_true, eq_self, shr_eq, decide_true, Bool.not_true]
          refine bankWrites_ok hB4 ?_
          simp (disch := first | omega | (simp only [size_alloc, size_set, heap_dr] <;> omega) | assumption | exact oneC_slice | exact oneC_int | exact oneC_bool | exact oneC_ptr | exact oneC_iface | exact oneC_nil | exact oneC_str | exact oneC_map | exact oneC_func | rfl) only [pick_bool, gs_false, bn_neq, and_true, cond_false, eq_self, decide_true, Bool.not_true]
          refine bankHead_ok hB4 (he.kpNew hk4) fun vh w5 hk5 hvh => ?_
          have hk05 := hk4.trans hk5
          have hE5 := he.kpNew hk05
          have hE5d := hE5.kpNew (Kp.refl.dr : Kp none_ w5 (dr w5))
          have e5 := hE5.at_ 4 (by decide)
          unfold ErrAt at e5
          simp (disch := first | omega | (simp only [size_alloc, size_set, heap_dr] <;> omega) | assumption | exact oneC_slice | exact oneC_int | exact oneC_bool | exact oneC_ptr | exact oneC_iface | exact oneC_nil | exact oneC_str | exact oneC_map | exact oneC_func | rfl) only [ext_0, ext_1, oK_some, cell_eq, heap_dr, true_and, and_true, eq_self, ld_26, e5, err_eql (g := 4) hE5d bRead_mem (by decide)]
          refine bankDown_ok ((hB4.kn hk5).kn (Kp.refl.dr : Kp none_ w5 (dr w5))) ?_
          simp (disch := first | omega | (simp only [size_alloc, size_set, heap_dr] <;> omega) | assumption | exact oneC_slice | exact oneC_int | exact oneC_bool | exact oneC_ptr | exact oneC_iface | exact oneC_nil | exact oneC_str | exact oneC_map | exact oneC_func | rfl) only [gs_false, bn_add, wrap64, oK_some, cell_eq, heap_dr, true_and, and_true, eq_self, ld_26, bn_bool_neq4, e5, err_eql (g := 4) hE5d bRead_mem (by decide), bRead_four ht, beq_self_eq_true, Bool.not_true]
          exact ih (i + 1) s' _ (by omega) hs' hk05.dr ((hB4.kn hk5).kn (Kp.refl.dr : Kp none_ w5 (dr w5)))
        obtain ⟨bo, oo, co, cso, eo, fro, vh, vb, hv, hbl, hb, c0, c1, c2, c3, c4, c5, c6, hh, hbd⟩ := (ho.kn hk).at_ hil
        cases hv
        have e1 := hh.one
        have e2 := hbd.one
        have hhl := hh.bound
        have kb : Kp none_ w3 (w3.alloc (.cells #[.int .i64 ops[i].kind, .int .i64 ops[i].which, .int .i64 ops[i].drive, .int .i64 ops[i].slot, .int .i64 ops[i].n, vh, vb] 72)) := Kp.refl.alloc _
        have bb : (w3.alloc (.cells #[.int .i64 ops[i].kind, .int .i64 ops[i].which, .int .i64 ops[i].drive, .int .i64 ops[i].slot, .int .i64 ops[i].n, vh, vb] 72)).heap[w3.heap.size]? = some (.cells #[.int .i64 ops[i].kind, .int .i64 ops[i].which, .int .i64 ops[i].drive, .int .i64 ops[i].slot, .int .i64 ops[i].n, vh, vb] 72 (0, 0)) := heap_alloc_eq rfl
        refine h0 _ _ _ _ _ _ _ ?_
        unfold F8_0
        have hkb := hk.trans kb
        have hBb := hB.kn kb
        have hEb := he.kpNew hkb
        have hs3 := hk.1
        obtain ⟨_, _, _, _, _, g1, _⟩ := hB.ex
        have hbl3 := blk_lt g1
        by_cases k1 : ops[i].kind = 1
        · simp (disch := first | omega | (simp only [size_alloc, size_set, heap_dr] <;> omega) | assumption | exact oneC_slice | exact oneC_int | exact oneC_bool | exact oneC_ptr | exact oneC_iface | exact oneC_nil | exact oneC_str | exact oneC_map | exact oneC_func | rfl) only [gs_dec_pos, bn_lss, bn_eql, oK_some, cell_eq, cellOf_some, heap_alloc_eq, List.getElem?_toArray, List.getElem?_cons_zero, List.getElem?_cons_succ, Nat.zero_add, Int.toNat_natCast, and_true, Nat.reduceAdd, ld_3, ia_69, ld_72, ↓alst_72, fa_72_0, fa_72_2, fa_72_3, fa_72_5, ld_33, hb, c0, c1, c2, c3, c4, c5, c6]
          refine bankWrite_new he hkb (by rw [size_alloc]; omega) (hB.bound.kn kb) ((hh.kn kb).mono fun x hx => .inl (hF x hx)) ((hbd.kn kb).mono fun x hx => .inl (hF x hx)) fun w4 _ hk4 hB4 => ?_
          have hw := hs.write (d := ops[i].drive) (sl := ops[i].slot) (hs := ops[i].head) (bs := ops[i].body)
          cases he2 : (bWrite s ops[i].drive ops[i].slot ops[i].head ops[i].body).2 with
          | none =>
            rw [he2, if_pos rfl] at hw
            simp (disch := first | omega | (simp only [size_alloc, size_set, heap_dr] <;> omega) | assumption | exact oneC_slice | exact oneC_int | exact oneC_bool | exact oneC_ptr | exact oneC_iface | exact oneC_nil | exact oneC_str | exact oneC_map | exact oneC_func | rfl) only [gs_true, bn_add, and_true, err_eql_nil, Option.isNone_none]
            exact step _ _ _ _ hw.1 hk4 hB4 hw.2.1.symm hw.2.2.symm
          | some e =>
            rw [he2, if_neg (by simp)] at hw
            simp (disch := first | omega | (simp only [size_alloc, size_set, heap_dr] <;> omega) | assumption | exact oneC_slice | exact oneC_int | exact oneC_bool | exact oneC_ptr | exact oneC_iface | exact oneC_nil | exact oneC_str | exact oneC_map | exact oneC_func | rfl) only [gs_false, and_true, err_eql_nil, Option.isNone_some]
            exact step _ _ _ _ hw.1 hk4 hB4 hw.2.1.symm hw.2.2.symm
        by_cases k3 : ops[i].kind = 3
        · simp (disch := first | omega | (simp only [size_alloc, size_set, heap_dr] <;> omega) | assumption | exact oneC_slice | exact oneC_int | exact oneC_bool | exact oneC_ptr | exact oneC_iface | exact oneC_nil | exact oneC_str | exact oneC_map | exact oneC_func | rfl) only [gs_dec_pos, gs_dec_neg, bn_lss, bn_eql, oK_some, cell_eq, cellOf_some, heap_alloc_eq, List.getElem?_toArray, List.getElem?_cons_zero, List.getElem?_cons_succ, Nat.zero_add, Int.toNat_natCast, and_true, ld_3, ia_69, ld_72, ↓alst_72, fa_72_0, fa_72_2, fa_72_3, hb, c0, c1, c2, c3, c4, c5, c6]
          refine bankBody_new he hkb hBb fun v w4 hk4 hB4 hv => ?_
          obtain ⟨a5, c5, rfl⟩ := hv.by.val
          simp (disch := first | omega | (simp only [size_alloc, size_set, heap_dr] <;> omega) | assumption | exact oneC_slice | exact oneC_int | exact oneC_bool | exact oneC_ptr | exact oneC_iface | exact oneC_nil | exact oneC_str | exact oneC_map | exact oneC_func | rfl) only [ext_0, ext_1, bn_add, and_true, len_31]
          exact step _ _ _ _ hs.body.1 hk4 hB4 hs.body.2.1.symm hs.body.2.2.symm
        by_cases k2 : ops[i].kind = 2
        · simp (disch := first | omega | (simp only [size_alloc, size_set, heap_dr] <;> omega) | assumption | exact oneC_slice | exact oneC_int | exact oneC_bool | exact oneC_ptr | exact oneC_iface | exact oneC_nil | exact oneC_str | exact oneC_map | exact oneC_func | rfl) only [gs_dec_pos, gs_dec_neg, bn_lss, bn_eql, oK_some, cell_eq, cellOf_some, heap_alloc_eq, List.getElem?_toArray, List.getElem?_cons_zero, List.getElem?_cons_succ, Nat.zero_add, Int.toNat_natCast, and_true, ld_3, ia_69, ld_72, ↓alst_72, fa_72_0, fa_72_2, fa_72_3, hb, c0, c1, c2, c3, c4, c5, c6]
          refine bankHead_ok hBb hEb fun v w4 hk4 _ => ?_
          exact step s _ _ _ hs (hkb.trans hk4) (hBb.kn hk4) rfl rfl
        by_cases k4 : ops[i].kind = 4
        · simp (disch := first | omega | (simp only [size_alloc, size_set, heap_dr] <;> omega) | assumption | exact oneC_slice | exact oneC_int | exact oneC_bool | exact oneC_ptr | exact oneC_iface | exact oneC_nil | exact oneC_str | exact oneC_map | exact oneC_func | rfl) only [gs_dec_pos, gs_dec_neg, bn_lss, bn_eql, oK_some, cell_eq, cellOf_some, heap_alloc_eq, List.getElem?_toArray, List.getElem?_cons_zero, List.getElem?_cons_succ, Nat.zero_add, Int.toNat_natCast, and_true, ld_3, ia_69, ld_72, ↓alst_72, fa_72_0, fa_72_2, fa_72_3, hb, c0, c1, c2, c3, c4, c5, c6]
          refine bankLook_ok hBb hEb fun vh vb w4 _ hk4 _ _ _ => ?_
          exact step s _ _ _ hs (hkb.trans hk4) (hBb.kn hk4) rfl rfl
        by_cases k5 : ops[i].kind = 5
        · simp (disch := first | omega | (simp only [size_alloc, size_set, heap_dr] <;> omega) | assumption | exact oneC_slice | exact oneC_int | exact oneC_bool | exact oneC_ptr | exact oneC_iface | exact oneC_nil | exact oneC_str | exact oneC_map | exact oneC_func | rfl) only [gs_dec_pos, gs_dec_neg, bn_lss, bn_eql, oK_some, cell_eq, cellOf_some, heap_alloc_eq, List.getElem?_toArray, List.getElem?_cons_zero, List.getElem?_cons_succ, Nat.zero_add, Int.toNat_natCast, and_true, ld_3, ia_69, ld_72, ↓alst_72, fa_72_0, fa_72_2, hb, c0, c1, c2, c3, c4, c5, c6]
          refine bankWipe_new he hkb hBb fun w4 hk4 hB4 => ?_
          exact step _ _ _ _ hs.wipe.1 hk4 hB4 hs.wipe.2.1.symm hs.wipe.2.2.symm
        by_cases k6 : ops[i].kind = 6
        · simp (disch := first | omega | (simp only [size_alloc, size_set, heap_dr] <;> omega) | assumption | exact oneC_slice | exact oneC_int | exact oneC_bool | exact oneC_ptr | exact oneC_iface | exact oneC_nil | exact oneC_str | exact oneC_map | exact oneC_func | rfl) only [gs_dec_pos, gs_dec_neg, bn_lss, bn_eql, oK_some, cell_eq, cellOf_some, heap_alloc_eq, List.getElem?_toArray, List.getElem?_cons_zero, List.getElem?_cons_succ, Nat.zero_add, Int.toNat_natCast, and_true, ld_3, ia_69, ld_72, ↓alst_72, fa_72_0, fa_72_2, fa_72_3, hb, c0, c1, c2, c3, c4, c5, c6]
          refine bankSpoil_new he hkb hBb fun w4 hk4 hB4 => ?_
          exact step _ _ _ _ hs.spoil.1 hk4 hB4 hs.spoil.2.1.symm hs.spoil.2.2.symm
        by_cases k7 : ops[i].kind = 7
        · simp (disch := first | omega | (simp only [size_alloc, size_set, heap_dr] <;> omega) | assumption | exact oneC_slice | exact oneC_int | exact oneC_bool | exact oneC_ptr | exact oneC_iface | exact oneC_nil | exact oneC_str | exact oneC_map | exact oneC_func | rfl) only [gs_dec_pos, gs_dec_neg, bn_lss, bn_geq, bn_eql, oK_some, cell_eq, cellOf_some, heap_alloc_eq, heap_dr, List.getElem?_toArray, List.getElem?_cons_zero, List.getElem?_cons_succ, Nat.zero_add, Int.toNat_natCast, true_and, and_true, eq_self, ld_3, ia_69, ld_72, ↓alst_72, fa_72_0, fa_72_4, hb, c0, c1, c2, c3, c4, c5, c6]
          have kd : Kp none_ w3 (dr (w3.alloc (.cells #[.int .i64 ops[i].kind, .int .i64 ops[i].which, .int .i64 ops[i].drive, .int .i64 ops[i].slot, .int .i64 ops[i].n, vh, vb] 72))) := kb.dr
          have hkd := hk.trans kd
          have hBd := hB.kn kd
          refine bankArm_ok hBd ((he.kpNew hkd).at_ 3 (by decide)) (fun hn => ?_) (fun hn w4 hk4 hB4 => ?_)
          · simp (disch := first | omega | (simp only [size_alloc, size_set, heap_dr] <;> omega) | assumption | exact oneC_slice | exact oneC_int | exact oneC_bool | exact oneC_ptr | exact oneC_iface | exact oneC_nil | exact oneC_str | exact oneC_map | exact oneC_func | rfl) only [gs_false, bn_geq, oK_some, cell_eq, cellOf_some, heap_alloc_eq, heap_dr, List.getElem?_toArray, List.getElem?_cons_zero, List.getElem?_cons_succ, Nat.zero_add, true_and, and_true, eq_self, ld_3, fa_72_4, err_eql_nil, bn_bool_neq4, Option.isNone_some, decide_eq_false (show ¬ 0 ≤ ops[i].n by omega), beq_self_eq_true, Bool.not_true]
            exact step s _ _ _ hs hkd hBd rfl rfl
          · have bd := hk4.blk (show (dr (w3.alloc (.cells #[.int .i64 ops[i].kind, .int .i64 ops[i].which, .int .i64 ops[i].drive, .int .i64 ops[i].slot, .int .i64 ops[i].n, vh, vb] 72))).heap[w3.heap.size]? = _ from bb) (by omega)
            simp (disch := first | omega | (simp only [size_alloc, size_set, heap_dr] <;> omega) | assumption | exact oneC_slice | exact oneC_int | exact oneC_bool | exact oneC_ptr | exact oneC_iface | exact oneC_nil | exact oneC_str | exact oneC_map | exact oneC_func | rfl) only [gs_false, bn_geq, oK_some, cell_eq, cellOf_some, List.getElem?_toArray, List.getElem?_cons_zero, List.getElem?_cons_succ, Nat.zero_add, true_and, and_true, eq_self, ld_3, fa_72_4, nil_eql, bn_bool_neq4, bd, decide_eq_true hn, beq_self_eq_true, Bool.not_true]
            exact step { s with armed := true, left := ops[i].n } _ _ _ ⟨hs.dn, hs.sn⟩ (hkd.trans' hk4 fun x hx => .inr (hx ▸ hB.fb)) hB4 rfl rfl
        by_cases k8 : ops[i].kind = 8
        · simp (disch := first | omega | (simp only [size_alloc, size_set, heap_dr] <;> omega) | assumption | exact oneC_slice | exact oneC_int | exact oneC_bool | exact oneC_ptr | exact oneC_iface | exact oneC_nil | exact oneC_str | exact oneC_map | exact oneC_func | rfl) only [gs_dec_pos, gs_dec_neg, bn_lss, bn_eql, oK_some, cell_eq, cellOf_some, heap_alloc_eq, List.getElem?_toArray, List.getElem?_cons_zero, Int.toNat_natCast, and_true, ld_3, ia_69, ld_72, ↓alst_72, fa_72_0, hb, c0, c1, c2, c3, c4, c5, c6]
          refine bankUp_new hkb hBb fun w4 hk4 hB4 => ?_
          simp (disch := first | omega | (simp only [size_alloc, size_set, heap_dr] <;> omega) | assumption | exact oneC_slice | exact oneC_int | exact oneC_bool | exact oneC_ptr | exact oneC_iface | exact oneC_nil | exact oneC_str | exact oneC_map | exact oneC_func | rfl) only [and_true]
          refine bankDown_ok hB4 ?_
          simp (disch := first | omega | (simp only [size_alloc, size_set, heap_dr] <;> omega) | assumption | exact oneC_slice | exact oneC_int | exact oneC_bool | exact oneC_ptr | exact oneC_iface | exact oneC_nil | exact oneC_str | exact oneC_map | exact oneC_func | rfl) only [and_true]
          exact step (bUp s) _ _ _ ⟨hs.dn, hs.sn⟩ hk4 hB4 rfl rfl
        · simp (disch := first | omega | (simp only [size_alloc, size_set, heap_dr] <;> omega) | assumption | exact oneC_slice | exact oneC_int | exact oneC_bool | exact oneC_ptr | exact oneC_iface | exact oneC_nil | exact oneC_str | exact oneC_map | exact oneC_func | rfl) only [gs_dec_pos, gs_dec_neg, bn_lss, bn_eql, oK_some, cell_eq, cellOf_some, heap_alloc_eq, List.getElem?_toArray, List.getElem?_cons_zero, Int.toNat_natCast, and_true, ld_3, ia_69, ld_72, ↓alst_72, fa_72_0, hb, c0, c1, c2, c3, c4, c5, c6]
          exact step s _ _ _ hs hkb hBb rfl rfl
    simp (disch := first | omega | (simp only [size_alloc, size_set, heap_dr] <;> omega) | assumption | exact oneC_slice | exact oneC_int | exact oneC_bool | exact oneC_ptr | exact oneC_iface | exact oneC_nil | exact oneC_str | exact oneC_map | exact oneC_func | rfl) only [gs_false, ext_0, ext_1, and_true, len_69, nil_neq]
    have hm0 : bankMeter (bank0 m n) = 0 := by
      rw [bankMeter_eq, show bSum (bank0 m n) = 0 from by simp [bSum, bank0]]
      kernel_rfl
    have hl := loop ops.length 0 (bank0 m n) w2 (by omega) ⟨by simp [bank0], rfl⟩ hk02 (hB2.mono fun x hx => by omega)
    rw [hm0] at hl
    exact hl
end Go.Proofs.YtfiakplgifimkaaDoor
