/- The document's own drive, third part: Write. No statement of the seat is proved in this text. -/
import Derived.Test.YtfiakplgifimkaaDoorRef2
namespace Go.Proofs.YtfiakplgifimkaaDoor
open Go.TS
set_option maxRecDepth 20000

theorem appB_ok {w : World} {v x : Value} {ys : List UInt8} {F G : Nat → Prop} {K : Value → World → Prop} (ho : Own w 5 1 v 0 [] F) (hy : By w x ys G) (hK : ∀ v' w', Kp F w w' → Bo w' v' ys (fun b => F b ∨ w.heap.size ≤ b) → K v' w') :
    bAppend Tryd.prog #[31, 31] 31 [v, x] w K := by
  have hm := hy.2
  unfold MAXB at hm
  refine app_ok (e := 5) (sz := 1) (z := .int .u8 0) (by_ := 1) (by kernel_rfl) (by kernel_rfl) (by kernel_rfl) (by kernel_rfl) (by kernel_rfl) rfl (by omega) ho hy.1 (by omega) (by omega) fun v' w' hk hn => ?_
  exact hK v' w' hk ⟨by simpa using hn, hy.2⟩

/-- One list of the document's drive written: a copy of what is handed in. -/
theorem refWrite_ok {w : World} {m : Nat} {rd s : Int} {cl : List Cel} {F G : Nat → Prop} {vh vb : Value} {hs bs : List UInt8} {K : Value → World → Prop} (h : RefAt w m rd cl F) (hh : By w vh hs G) (hb : By w vb bs G) (hd : ∀ b, G b → ¬ F b)
    (hK : ∀ w', Kp F w w' → RefAt w' m rd (if inr cl s then cl.set s.toNat ⟨hs, bs, true, false⟩ else cl) (fun b => F b ∨ w.heap.size ≤ b) → K (.int .i64 (numOf (if inr cl s then none else some 2))) w') :
    call Tryd.prog 47 #[.pointer (some ⟨m, 0, none⟩), .int .i64 s, .agg #[vh, vb]] w K := by
  have e1 := hh.one
  have e2 := hb.one
  have k0 : Kp none_ w (w.alloc (.cells #[vh, vb] 33)) := Kp.refl.alloc _
  refine F47_ok ?_
  unfold F47
  simp (disch := first | omega | (simp only [size_alloc, size_set, heap_dr] <;> omega) | assumption | exact oneC_slice | exact oneC_int | exact oneC_bool | exact oneC_ptr | exact oneC_iface | exact oneC_nil | exact oneC_str | exact oneC_map | exact oneC_func | rfl) only [bx_agg, and_true]
  refine refHas_ok (h.kn k0) ?_
  cases hin : inr cl s with
  | false =>
    rw [hin] at hK
    simp (disch := first | omega | (simp only [size_alloc, size_set, heap_dr] <;> omega) | assumption | exact oneC_slice | exact oneC_int | exact oneC_bool | exact oneC_ptr | exact oneC_iface | exact oneC_nil | exact oneC_str | exact oneC_map | exact oneC_func | rfl) only [gs_true, un_not, and_true, Bool.not_false]
    exact hK _ k0.ofNone ((h.kn k0).mono fun b hb => .inl hb)
  | true =>
    have hr := of_decide_eq_true hin
    obtain ⟨i, rfl⟩ := Int.eq_ofNat_of_zero_le hr.1
    have hi : i < cl.length := by omega
    rw [hin] at hK
    simp only [if_true, Int.toNat_natCast] at hK
    obtain ⟨hb1, bb, fb, db, h1, n1, n2, f0, f1, f2, f3, f4, r1, r2, r3, r4⟩ := h.ex
    have hml := blk_lt h1
    have hfl := blk_lt r3
    have hdl := blk_lt r4
    obtain ⟨q1, a1, _⟩ := id r1
    obtain ⟨q2, a2, _⟩ := id r2
    have hbl := blk_lt a1
    have hbl2 := blk_lt a2
    simp (disch := first | omega | (simp only [size_alloc, size_set, heap_dr] <;> omega) | assumption | exact oneC_slice | exact oneC_int | exact oneC_bool | exact oneC_ptr | exact oneC_iface | exact oneC_nil | exact oneC_str | exact oneC_map | exact oneC_func | rfl) only [ck_ptr, gs_false, un_not, oK_some, cell_eq, cellOf_some, heap_alloc_lt, heap_alloc_eq, heap_dr, List.getElem?_toArray, List.getElem?_cons_zero, true_and, and_true, eq_self, fa_97_0, ld_94, fa_33_0, ld_31, Bool.not_true, h1]
    rw [bsl_0 (e := 5) (n := 1) (by kernel_rfl) (by kernel_rfl)]
    have k1 : Kp none_ w ((dr (w.alloc (.cells #[vh, vb] 33))).alloc (.cells #[] 5)) := k0.dr.alloc _
    have b33 : ((dr (w.alloc (.cells #[vh, vb] 33))).alloc (.cells #[] 5)).heap[w.heap.size]? = some (.cells #[vh, vb] 33 (0, 0)) := (heap_alloc_lt (by rw [heap_dr, size_alloc]; omega)).trans (heap_alloc_eq rfl)
    have o1 : Own ((dr (w.alloc (.cells #[vh, vb] 33))).alloc (.cells #[] 5)) 5 1 (.slice (some ⟨(dr (w.alloc (.cells #[vh, vb] 33))).heap.size, 0, none⟩) 0 0) 0 [] (fun b => w.heap.size < b) := Own.made (n := 0) (sz := 1) (cs := #[]) (heap_alloc_eq rfl) (by show w.heap.size < (w.alloc _).heap.size; rw [size_alloc]; omega) rfl (by simp)
    generalize (dr (w.alloc (.cells #[vh, vb] 33))).alloc (.cells #[] 5) = w1 at k1 b33 o1 ⊢
    generalize (Value.slice (some ⟨(dr (w.alloc (.cells #[vh, vb] 33))).heap.size, 0, none⟩) 0 0) = v1 at o1 ⊢
    have h1a := k1.blk h1 (fun h => h)
    simp (disch := first | omega | (simp only [size_alloc, size_set, heap_dr] <;> omega) | assumption | exact oneC_slice | exact oneC_int | exact oneC_bool | exact oneC_ptr | exact oneC_iface | exact oneC_nil | exact oneC_str | exact oneC_map | exact oneC_func | rfl) only [ck_ptr, oK_some, cell_eq, cellOf_some, List.getElem?_toArray, List.getElem?_cons_zero, true_and, and_true, eq_self, fa_97_0, ld_94, fa_33_0, ld_31, h1a, b33]
    refine appB_ok o1 (hh.kn k1) fun v2 w2 k2 o2 => ?_
    have k02 : Kp none_ w w2 := k1.trans' k2 fun x hx => .inr (by omega)
    have b33b : w2.heap[w.heap.size]? = some (.cells #[vh, vb] 33 (0, 0)) := k2.blk b33 (by omega)
    have h1b := k02.blk h1 (fun h => h)
    have r1b := r1.frame f1 (fun b _ hl => k02.2 b hl fun h => h)
    have r2b := r2.frame f2 (fun b _ hl => k02.2 b hl fun h => h)
    have r3b := k02.blk r3 (fun h => h)
    have r4b := k02.blk r4 (fun h => h)
    obtain ⟨hs1, c1, c2, c3⟩ := id r1b
    obtain ⟨u1, bs1, c4, c5, c6⟩ := c3 i hi
    have e3 := o2.by.one
    simp (disch := first | omega | (simp only [size_alloc, size_set, heap_dr] <;> omega) | assumption | exact oneC_slice | exact oneC_int | exact oneC_bool | exact oneC_ptr | exact oneC_iface | exact oneC_nil | exact oneC_str | exact oneC_map | exact oneC_func | rfl) only [ck_ptr, oK_some, cell_eq, frozen_eq, cellOf_some, frozenOf_some, heap_set_ne, heap_dr, List.getElem?_toArray, List.getElem?_cons_zero, List.getElem?_cons_succ, Nat.zero_add, Int.toNat_natCast, true_and, and_true, Bool.false_eq_true, if_false, eq_self, fa_97_0, ld_94, ld_31, ia_94, st_31, fa_97_1, fa_33_1, h1b, c1, c4, b33b]
    have hs1w := k1.1
    have r1c := r1b.setAt (c := ⟨hs, bs, true, false⟩) (G := fun b => F b ∨ w.heap.size ≤ b) hi (o2.mono fun b hb => .inr (by omega)) fun b hb => .inl hb
    have r2c := r2b.set_other (o := i) (x := v2) c1 (by omega) n1.symm
    have k3 : Kp F w (w2.setCell ⟨hb1, i, none⟩ v2) := (k02.ofNone).set (.inl f1)
    have b33c : (w2.setCell ⟨hb1, i, none⟩ v2).heap[w.heap.size]? = some (.cells #[vh, vb] 33 (0, 0)) := (heap_set_ne (by omega)).trans b33b
    have h1c : (w2.setCell ⟨hb1, i, none⟩ v2).heap[m]? = _ := (heap_set_ne (blk_ne h1b c1 (by omega))).trans h1b
    have r3c : (w2.setCell ⟨hb1, i, none⟩ v2).heap[fb]? = _ := (heap_set_ne (blk_ne r3b c1 (by omega))).trans r3b
    have r4c : (w2.setCell ⟨hb1, i, none⟩ v2).heap[db]? = _ := (heap_set_ne (blk_ne r4b c1 (by omega))).trans r4b
    have hs2 := k02.1
    have hz2 : (w2.setCell ⟨hb1, i, none⟩ v2).heap.size = w2.heap.size := size_set
    generalize w2.setCell ⟨hb1, i, none⟩ v2 = w3 at k3 b33c h1c r1c r2c r3c r4c hz2 ⊢
    simp (disch := first | omega | (simp only [size_alloc, size_set, heap_dr] <;> omega) | assumption | exact oneC_slice | exact oneC_int | exact oneC_bool | exact oneC_ptr | exact oneC_iface | exact oneC_nil | exact oneC_str | exact oneC_map | exact oneC_func | rfl) only [oK_some, cellOf_some, List.getElem?_toArray, List.getElem?_cons_zero, List.getElem?_cons_succ, and_true, h1c]
    rw [bsl_0 (e := 5) (n := 1) (by kernel_rfl) (by kernel_rfl)]
    have hs3 := k3.1
    have k4 : Kp none_ w3 ((dr w3).alloc (.cells #[] 5)) := Kp.refl.dr.alloc _
    have o4 : Own ((dr w3).alloc (.cells #[] 5)) 5 1 (.slice (some ⟨(dr w3).heap.size, 0, none⟩) 0 0) 0 [] (fun b => w3.heap.size ≤ b) := Own.made (n := 0) (sz := 1) (cs := #[]) (heap_alloc_eq rfl) (Nat.le_refl _) rfl (by simp)
    generalize (dr w3).alloc (.cells #[] 5) = w4 at k4 o4 ⊢
    generalize (Value.slice (some ⟨(dr w3).heap.size, 0, none⟩) 0 0) = v4 at o4 ⊢
    have h1d := k4.blk h1c (fun h => h)
    have b33d := k4.blk b33c (fun h => h)
    simp (disch := first | omega | (simp only [size_alloc, size_set, heap_dr] <;> omega) | assumption | exact oneC_slice | exact oneC_int | exact oneC_bool | exact oneC_ptr | exact oneC_iface | exact oneC_nil | exact oneC_str | exact oneC_map | exact oneC_func | rfl) only [ck_ptr, oK_some, cell_eq, cellOf_some, List.getElem?_toArray, List.getElem?_cons_zero, List.getElem?_cons_succ, Nat.zero_add, true_and, and_true, eq_self, ld_94, ld_31, fa_97_1, fa_33_1, h1d, b33d]
    refine appB_ok o4 ((hb.kp k3 hd).kn k4) fun v5 w5 k5 o5 => ?_
    have k35 : Kp none_ w3 w5 := k4.trans' k5 fun x hx => .inr (by omega)
    have h1e := k35.blk h1c (fun h => h)
    have r1e := r1c.frame (.inl f1) (fun b _ hl => k35.2 b hl fun h => h)
    have r2e := r2c.frame f2 (fun b _ hl => k35.2 b hl fun h => h)
    have r3e := k35.blk r3c (fun h => h)
    have r4e := k35.blk r4c (fun h => h)
    obtain ⟨hs2', d1, d2, d3⟩ := id r2e
    obtain ⟨u2, bs2, d4, d5, d6⟩ := d3 i hi
    obtain ⟨hs1', d1', _⟩ := id r1e
    have e4 := o5.by.one
    have nfm := blk_ne r3e h1e (by omega)
    have ndm := blk_ne r4e h1e (by omega)
    have nfb := blk_ne r3e d1 (by omega)
    have ndb := blk_ne r4e d1 (by omega)
    have nmb := blk_ne h1e d1 (by omega)
    have gf := flags_get (f := Cel.full) hi
    have gb := flags_get (f := Cel.bad) hi
    simp (disch := first | omega | (simp only [size_alloc, size_set, heap_dr] <;> omega) | assumption | exact oneC_slice | exact oneC_int | exact oneC_bool | exact oneC_ptr | exact oneC_iface | exact oneC_nil | exact oneC_str | exact oneC_map | exact oneC_func | rfl) only [ck_ptr, oK_some, cell_eq, frozen_eq, cellOf_some, frozenOf_some, heap_set_ne, heap_dr, List.getElem?_toArray, List.getElem?_cons_zero, List.getElem?_cons_succ, Nat.zero_add, Int.toNat_natCast, true_and, and_true, Bool.false_eq_true, if_false, eq_self, ld_94, ia_94, st_31, fa_97_1, fa_97_2, ld_95, fa_97_3, ia_95, st_4, h1e, d1, d4, r3e, r4e, gf, gb]
    have k45 := k4.1
    have k55 := k5.1
    have R2 := r2e.setAt (v := v5) (c := ⟨hs, bs, true, false⟩) (G := fun b => F b ∨ w.heap.size ≤ b) hi (o5.mono fun b hb => .inr (by omega)) fun b hb => .inl hb
    have R1 := r1e.set_other (o := i) (x := v5) d1 (by omega) n1
    have K6 : Kp F w (w5.setCell ⟨bb, i, none⟩ v5) := (k3.trans' k35 fun x hx => hx.elim).set (.inl f2)
    have M6 : (w5.setCell ⟨bb, i, none⟩ v5).heap[m]? = _ := (heap_set_ne nmb).trans h1e
    have F6 : (w5.setCell ⟨bb, i, none⟩ v5).heap[fb]? = _ := (heap_set_ne nfb).trans r3e
    have D6 : (w5.setCell ⟨bb, i, none⟩ v5).heap[db]? = _ := (heap_set_ne ndb).trans r4e
    generalize w5.setCell ⟨bb, i, none⟩ v5 = w6 at R1 R2 K6 M6 F6 D6 ⊢
    have K7 : Kp F w ((dr w6).setCell ⟨fb, i, none⟩ (.bool true)) := (K6.dr).set (.inl f3)
    have M7 : ((dr w6).setCell ⟨fb, i, none⟩ (.bool true)).heap[m]? = _ := (heap_set_ne nfm.symm).trans M6
    have F7 : ((dr w6).setCell ⟨fb, i, none⟩ (.bool true)).heap[fb]? = some (.cells (flags (cl.set i ⟨hs, bs, true, false⟩) Cel.full) 4 (0, 0)) := by
      rw [heap_set_same, heap_dr, F6, ← flags_set (f := Cel.full) (c := ⟨hs, bs, true, false⟩)]; rfl
    have D7 : ((dr w6).setCell ⟨fb, i, none⟩ (.bool true)).heap[db]? = _ := (heap_set_ne n2.symm).trans D6
    obtain ⟨x1, y1, _⟩ := id R1
    obtain ⟨x2, y2, _⟩ := id R2
    have R1' := (R1.kt (w' := dr w6) (S := none_) Kp.refl.dr (fun h => h) (fun _ h => h.elim)).set_other (w := dr w6) (o := i) (x := .bool true) F6 (by omega) (blk_ne y1 F6 (by omega))
    have R2' := (R2.kt (w' := dr w6) (S := none_) Kp.refl.dr (fun h => h) (fun _ h => h.elim)).set_other (w := dr w6) (o := i) (x := .bool true) F6 (by omega) (blk_ne y2 F6 (by omega))
    generalize (dr w6).setCell ⟨fb, i, none⟩ (.bool true) = w7 at R1' R2' K7 M7 F7 D7 ⊢
    obtain ⟨x1', y1', _⟩ := id R1'
    obtain ⟨x2', y2', _⟩ := id R2'
    refine hK _ (K7.set (.inl f4)) ⟨h.wr, by simpa using h.len, hb1, bb, fb, db, ?_, n1, n2, .inl f0, .inl f1, .inl f2, .inl f3, .inl f4, R1'.set_other D7 (by omega) (blk_ne y1' D7 (by omega)), R2'.set_other D7 (by omega) (blk_ne y2' D7 (by omega)), ?_, ?_⟩
    · rw [heap_set_ne ndm.symm, M7, List.length_set]
    · rw [heap_set_ne n2, F7]
    · rw [heap_set_same, D7, ← flags_set (f := Cel.bad) (c := ⟨hs, bs, true, false⟩)]; rfl
end Go.Proofs.YtfiakplgifimkaaDoor
