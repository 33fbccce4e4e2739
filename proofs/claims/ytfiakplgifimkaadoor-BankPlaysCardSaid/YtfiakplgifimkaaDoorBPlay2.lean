/- play: one call by a bank and by the document's bank, second part. No statement of the seat is proved in this text. -/
import Derived.Test.YtfiakplgifimkaaDoorBPlay
namespace Go.Proofs.YtfiakplgifimkaaDoor
open Go.TS
set_option maxRecDepth 20000

/-- One call by both. -/
theorem play16_ok {w0 w : World} {E : Nat → Addr} {d m : Nat} {s : BS} {F1 F2 : Nat → Prop} {kd wh dv sl n : Int} {vh vb : Value} {hs bs : List UInt8} {G : Nat → Prop} {K : Value → World → Prop}
    (hk : Kp none_ w0 w) (he : Errs w0 E L25) (hh0 : By w0 vh hs G) (hb0 : By w0 vb bs G) (hB : BankAt w d s F1) (hR : RBankAt w m s F2) (h01 : ∀ b, F1 b → w0.heap.size ≤ b) (h02 : ∀ b, F2 b → w0.heap.size ≤ b) (h12 : ∀ b, F1 b → ¬ F2 b) (hsl : 0 < s.slots)
    (hK : ∀ w' s' F1' F2', Kp none_ w0 w' → Kp (fun b => F1 b ∨ F2 b) w w' → BankAt w' d s' F1' → RBankAt w' m s' F2' → (∀ b, F1' b → F1 b ∨ w.heap.size ≤ b) → (∀ b, F2' b → F2 b ∨ w.heap.size ≤ b) → (∀ b, F1' b → ¬ F2' b) → BOk s.drives.length s.slots s' → K (.bool true) w') :
    call Tryd.prog 41 #[.pointer (some ⟨d, 0, none⟩), .pointer (some ⟨m, 0, none⟩), .agg #[.int .i64 kd, .int .i64 wh, .int .i64 dv, .int .i64 sl, .int .i64 n, vh, vb]] w K := by
  have heB : Errs w0 E LB := he.sub LB_L25
  have hok : BOk s.drives.length s.slots s := ⟨rfl, rfl⟩
  have hh := hh0.bound
  have hb := hb0.bound
  have e1 := hh.one
  have e2 := hb.one
  have hDb := hB.bound
  have hRb := hR.bound
  have k0 : Kp none_ w (w.alloc (.cells #[.int .i64 kd, .int .i64 wh, .int .i64 dv, .int .i64 sl, .int .i64 n, vh, vb] 72)) := Kp.refl.alloc _
  have b72 : (w.alloc (.cells #[.int .i64 kd, .int .i64 wh, .int .i64 dv, .int .i64 sl, .int .i64 n, vh, vb] 72)).heap[w.heap.size]? = some (.cells #[.int .i64 kd, .int .i64 wh, .int .i64 dv, .int .i64 sl, .int .i64 n, vh, vb] 72 (0, 0)) := heap_alloc_eq rfl
  have hz : (w.alloc (.cells #[.int .i64 kd, .int .i64 wh, .int .i64 dv, .int .i64 sl, .int .i64 n, vh, vb] 72)).heap.size = w.heap.size + 1 := size_alloc
  have hs0 := hk.1
  have hdl := hDb.blkm
  have hml := hRb.blkm
  have hd0 := h01 _ hDb.blkm.1.1
  -- nothing turned
  have same : ∀ W, Kp none_ w W → K (.bool true) W := fun W hW => hK W s _ _ (hk.trans hW) hW.ofNone (hDb.kn hW) (hRb.kn hW) (fun b hb => .inl hb.1) (fun b hb => .inl hb.1) (fun b h1 h2 => h12 b h1.1 h2.1) hok
  have hef : ∀ g ∈ LB, ¬ (F1 g ∧ g < w.heap.size) ∧ ¬ (F1 (E g).block ∧ (E g).block < w.heap.size) := fun g hg => ⟨fun h => by have := h01 _ h.1; have := (heB.lt hg).1; omega, fun h => by have := h01 _ h.1; have := (heB.lt hg).2; omega⟩
  refine F41_ok fun X h0 h1 h2 h3 h4 => ?_
  unfold F41_s
  by_cases c1 : kd = 1
  · subst c1
    simp (disch := first | omega | (simp only [size_alloc, size_set, heap_dr] <;> omega) | assumption | exact oneC_slice | exact oneC_int | exact oneC_bool | exact oneC_ptr | exact oneC_iface | exact oneC_nil | exact oneC_str | exact oneC_map | exact oneC_func | rfl) only [gs_dec_pos, bn_eql, oK_some, cell_eq, cellOf_some, heap_alloc_eq, heap_dr, bx_agg, List.getElem?_toArray, List.getElem?_cons_zero, List.getElem?_cons_succ, Nat.zero_add, true_and, and_true, Nat.reduceAdd, eq_self, fa_72_0, ld_3, fa_72_5, fa_33_0, ld_31, fa_33_1]
    have k0' := k0.dr
    generalize w.alloc (.cells #[.int .i64 1, .int .i64 wh, .int .i64 dv, .int .i64 sl, .int .i64 n, vh, vb] 72) = wA at k0 k0' b72 hz ⊢
    have kA := hk.trans k0'
    refine bytes_ok (hh.kn kA) fun t33 w1 k1 m1 => ?_
    have b72a := k1.blk b72 (fun h => h)
    have k01 := kA.trans k1
    simp (disch := first | omega | (simp only [size_alloc, size_set, heap_dr] <;> omega) | assumption | exact oneC_slice | exact oneC_int | exact oneC_bool | exact oneC_ptr | exact oneC_iface | exact oneC_nil | exact oneC_str | exact oneC_map | exact oneC_func | rfl) only [oK_some, cell_eq, cellOf_some, List.getElem?_toArray, List.getElem?_cons_zero, List.getElem?_cons_succ, Nat.zero_add, true_and, and_true, Nat.reduceAdd, eq_self, fa_72_5, ld_31, fa_33_1, b72a]
    refine bytes_ok (hb.kn k01) fun t37 w2 k2 m2 => ?_
    have m1' := m1.bound.kn k2
    have b72b := k2.blk b72a (fun h => h)
    have k02 := k01.trans k2
    have kw2 : Kp none_ w w2 := (k0'.trans k1).trans k2
    have e3 := m1'.bo.by.one
    have e4 := m2.bo.by.one
    simp (disch := first | omega | (simp only [size_alloc, size_set, heap_dr] <;> omega) | assumption | exact oneC_slice | exact oneC_int | exact oneC_bool | exact oneC_ptr | exact oneC_iface | exact oneC_nil | exact oneC_str | exact oneC_map | exact oneC_func | rfl) only [oK_some, cell_eq, cellOf_some, List.getElem?_toArray, List.getElem?_cons_zero, List.getElem?_cons_succ, Nat.zero_add, and_true, ld_3, fa_72_2, fa_72_3, bld_33_0_1, b72b]
    have hE2 := heB.kpNew k02
    have hs1 : w.heap.size + 1 ≤ w1.heap.size := by have := k1.1; rw [heap_dr] at this; omega
    have hs2 := k2.1
    refine bankWrite_ok (G := fun b => w.heap.size + 1 ≤ b) (hDb.kn kw2) hE2 (m1'.bo.by.mono fun x hx => by rw [heap_dr] at hx; omega) (m2.bo.by.mono fun x hx => by omega) (fun x hx hx' => by omega) hef fun w3 k3 hD3 => ?_
    have b72c := k3.blk b72b (by omega)
    have k03 : Kp none_ w0 w3 := k02.trans' k3 fun x hx => .inr (h01 x hx.1)
    have m13 := m1'.kp k3 fun b hb hx => by rw [heap_dr] at hb; omega
    have m23 := m2.bound.kp k3 fun b hb hx => by omega
    have hR3 := (hRb.kn kw2).kp k3 fun b hb hx => h12 b hx.1 hb.1
    simp (disch := first | omega | (simp only [size_alloc, size_set, heap_dr] <;> omega) | assumption | exact oneC_slice | exact oneC_int | exact oneC_bool | exact oneC_ptr | exact oneC_iface | exact oneC_nil | exact oneC_str | exact oneC_map | exact oneC_func | rfl) only [oK_some, cell_eq, cellOf_some, heap_dr, List.getElem?_toArray, List.getElem?_cons_zero, List.getElem?_cons_succ, Nat.zero_add, true_and, and_true, Nat.reduceAdd, eq_self, ld_3, fa_72_5, fa_72_2, fa_72_3, ld_33, b72c]
    refine num_ok ((he.kpNew k03).kpNew Kp.refl.dr) bWrite_mem fun w4 k4 => ?_
    have k34 : Kp none_ w3 w4 := Kp.refl.dr.trans k4
    have b72d := k34.blk b72c (fun h => h)
    simp (disch := first | omega | (simp only [size_alloc, size_set, heap_dr] <;> omega) | assumption | exact oneC_slice | exact oneC_int | exact oneC_bool | exact oneC_ptr | exact oneC_iface | exact oneC_nil | exact oneC_str | exact oneC_map | exact oneC_func | rfl) only [oK_some, cell_eq, cellOf_some, List.getElem?_toArray, List.getElem?_cons_zero, List.getElem?_cons_succ, Nat.zero_add, true_and, and_true, Nat.reduceAdd, eq_self, ld_3, fa_72_5, fa_72_2, fa_72_3, ld_33, b72d]
    have k04 := k03.trans k34
    refine rWrite_ok (hR3.kn k34) (hh.kn k04) (hb.kn k04) (fun b hb hx => by have := h02 _ hx.1; omega) fun w5 k5 hR5 => ?_
    have hs3 := k3.1
    have hs4 := k34.1
    have hs5 := k5.1
    have b72e := k5.blk b72d (fun h => by omega)
    have k05 : Kp none_ w0 w5 := k04.trans' k5 fun x hx => .inr (h02 _ hx.1)
    have m15 := (m13.kn k34).kp k5 fun b hb hx => by rw [heap_dr] at hb; omega
    have m25 := (m23.kn k34).kp k5 fun b hb hx => by omega
    have hD5 := (hD3.bound.kn k34).kp k5 fun b hb hx => by
      rcases hb.1 with h | h
      · exact h12 _ h.1 hx.1
      · omega
    simp (disch := first | omega | (simp only [size_alloc, size_set, heap_dr] <;> omega) | assumption | exact oneC_slice | exact oneC_int | exact oneC_bool | exact oneC_ptr | exact oneC_iface | exact oneC_nil | exact oneC_str | exact oneC_map | exact oneC_func | rfl) only [gs_true, bn_eql, oK_some, cell_eq, cellOf_some, List.getElem?_toArray, List.getElem?_cons_zero, List.getElem?_cons_succ, Nat.zero_add, true_and, and_true, eq_self, fa_72_5, fa_33_0, ld_31, decide_true, b72e]
    refine kept_ok m15 (hh.kn k05) fun w6 k6 => ?_
    have b72f := k6.blk b72e (fun h => h)
    simp (disch := first | omega | (simp only [size_alloc, size_set, heap_dr] <;> omega) | assumption | exact oneC_slice | exact oneC_int | exact oneC_bool | exact oneC_ptr | exact oneC_iface | exact oneC_nil | exact oneC_str | exact oneC_map | exact oneC_func | rfl) only [pick_bool, gs_true, oK_some, cell_eq, cellOf_some, List.getElem?_toArray, List.getElem?_cons_zero, List.getElem?_cons_succ, Nat.zero_add, true_and, and_true, cond_true, Nat.reduceAdd, eq_self, fa_72_5, ld_31, fa_33_1, b72f]
    refine kept_ok (m25.kn k6) ((hb.kn k05).kn k6) fun w7 k7 => ?_
    simp (disch := first | omega | (simp only [size_alloc, size_set, heap_dr] <;> omega) | assumption | exact oneC_slice | exact oneC_int | exact oneC_bool | exact oneC_ptr | exact oneC_iface | exact oneC_nil | exact oneC_str | exact oneC_map | exact oneC_func | rfl) only [pick_bool, true_and, and_true, cond_true, eq_self]
    refine h1 _ _ _ ?_
    unfold F41_1
    have k57 := k6.trans k7
    have m17 := (m15.kn k57).bo
    obtain ⟨a7, c7, rfl⟩ := m17.by.val
    simp (disch := first | omega | (simp only [size_alloc, size_set, heap_dr] <;> omega) | assumption | exact oneC_slice | exact oneC_int | exact oneC_bool | exact oneC_ptr | exact oneC_iface | exact oneC_nil | exact oneC_str | exact oneC_map | exact oneC_func | rfl) only [and_true, len_31]
    refine xor3_ok h3 m17 fun w9 k79 => ?_
    have kk : Kp (fun b => F1 b ∨ F2 b) w w7 := ((((kw2.ofNone).trans (k3.mono fun x hx => .inl hx.1)).trans k34.ofNone).trans (k5.mono fun x hx => .inr hx.1)).trans k57.ofNone
    have kk9 : Kp (fun b => F1 b ∨ F2 b) w w9 := kk.trans' k79 fun x hx => by rw [heap_dr] at hx; exact .inr (by omega)
    refine hK w9 _ _ _ (hk.trans' kk9 fun x hx => .inr (hx.elim (h01 x) (h02 x))) kk9 ((hD5.kn k57).kp k79 fun b hb hx => ?_) ((hR5.bound.kn k57).kp k79 fun b hb hx => ?_) (fun b hb => ?_) (fun b hb => ?_) (fun b h1 h2 => ?_) hok.write.1
    · rw [heap_dr] at hx
      rcases hb.1 with h | h <;> omega
    · rw [heap_dr] at hx
      rcases hb.1 with h | h <;> omega
    · rcases hb.1 with h | h
      · exact .inl h.1
      · exact .inr (by omega)
    · rcases hb.1 with h | h
      · exact .inl h.1
      · exact .inr (by omega)
    · rcases h1.1 with h | h <;> rcases h2.1 with h' | h'
      · exact h12 _ h.1 h'.1
      · omega
      · omega
      · omega
  by_cases c2 : kd = 2
  · subst c2
    simp (disch := first | omega | (simp only [size_alloc, size_set, heap_dr] <;> omega) | assumption | exact oneC_slice | exact oneC_int | exact oneC_bool | exact oneC_ptr | exact oneC_iface | exact oneC_nil | exact oneC_str | exact oneC_map | exact oneC_func | rfl) only [gs_dec_pos, gs_dec_neg, bn_eql, oK_some, cell_eq, cellOf_some, heap_alloc_eq, bx_agg, List.getElem?_toArray, List.getElem?_cons_zero, List.getElem?_cons_succ, Nat.zero_add, and_true, eq_self, fa_72_0, ld_3, fa_72_2, fa_72_3]
    generalize w.alloc (.cells #[.int .i64 2, .int .i64 wh, .int .i64 dv, .int .i64 sl, .int .i64 n, vh, vb] 72) = wA at k0 b72 hz ⊢
    refine bankHead_ok (hDb.kn k0) (heB.kpNew (hk.trans k0)) fun v w1 k1 hv => ?_
    have b72b := k1.blk b72 (fun h => h)
    simp (disch := first | omega | (simp only [size_alloc, size_set, heap_dr] <;> omega) | assumption | exact oneC_slice | exact oneC_int | exact oneC_bool | exact oneC_ptr | exact oneC_iface | exact oneC_nil | exact oneC_str | exact oneC_map | exact oneC_func | rfl) only [ext_0, ext_1, oK_some, cell_eq, cellOf_some, List.getElem?_toArray, List.getElem?_cons_zero, List.getElem?_cons_succ, Nat.zero_add, and_true, ld_3, fa_72_2, fa_72_3, b72b]
    have k01 := k0.trans k1
    refine rHead_ok (hRb.kn k01) fun v2 hv2 => ?_
    simp (disch := first | omega | (simp only [size_alloc, size_set, heap_dr] <;> omega) | assumption | exact oneC_slice | exact oneC_int | exact oneC_bool | exact oneC_ptr | exact oneC_iface | exact oneC_nil | exact oneC_str | exact oneC_map | exact oneC_func | rfl) only [ext_0, ext_1, and_true]
    have he1 := he.kpNew (hk.trans k01)
    refine num_ok he1 (fun g h => LB_L25 g (bRead_mem g h)) fun w2 k2 => ?_
    have hv' := (hv.kn k2)
    have hv2' := hv2.kn k2
    obtain ⟨a2, c2, rfl⟩ := hv'.by.val
    simp (disch := first | omega | (simp only [size_alloc, size_set, heap_dr] <;> omega) | assumption | exact oneC_slice | exact oneC_int | exact oneC_bool | exact oneC_ptr | exact oneC_iface | exact oneC_nil | exact oneC_str | exact oneC_map | exact oneC_func | rfl) only [pick_bool, gs_true, bn_eql, and_true, cond_true, eq_self, shr_eq, decide_true, str_of hv'.by, str_of hv2', bn_str_eql]
    refine h2 _ _ _ ?_
    unfold F41_2
    simp (disch := first | omega | (simp only [size_alloc, size_set, heap_dr] <;> omega) | assumption | exact oneC_slice | exact oneC_int | exact oneC_bool | exact oneC_ptr | exact oneC_iface | exact oneC_nil | exact oneC_str | exact oneC_map | exact oneC_func | rfl) only [and_true, len_31]
    refine xor4_ok h4 hv' fun w3 k3 => ?_
    exact same _ ((k01.trans k2).trans' k3 fun x hx => .inr (by omega))
  by_cases c3 : kd = 3
  · subst c3
    simp (disch := first | omega | (simp only [size_alloc, size_set, heap_dr] <;> omega) | assumption | exact oneC_slice | exact oneC_int | exact oneC_bool | exact oneC_ptr | exact oneC_iface | exact oneC_nil | exact oneC_str | exact oneC_map | exact oneC_func | rfl) only [gs_dec_pos, gs_dec_neg, bn_eql, oK_some, cell_eq, cellOf_some, heap_alloc_eq, bx_agg, List.getElem?_toArray, List.getElem?_cons_zero, List.getElem?_cons_succ, Nat.zero_add, and_true, eq_self, fa_72_0, ld_3, fa_72_2, fa_72_3]
    generalize w.alloc (.cells #[.int .i64 3, .int .i64 wh, .int .i64 dv, .int .i64 sl, .int .i64 n, vh, vb] 72) = wA at k0 b72 hz ⊢
    refine bankBody_ok (hDb.kn k0) (heB.kpNew (hk.trans k0)) fun v w1 k1 hD1 hv => ?_
    have b72b := k1.blk b72 (by omega)
    have hR1 := (hRb.kn k0).kp k1 fun b hb hx => h12 _ hx.1 hb.1
    simp (disch := first | omega | (simp only [size_alloc, size_set, heap_dr] <;> omega) | assumption | exact oneC_slice | exact oneC_int | exact oneC_bool | exact oneC_ptr | exact oneC_iface | exact oneC_nil | exact oneC_str | exact oneC_map | exact oneC_func | rfl) only [ext_0, ext_1, oK_some, cell_eq, cellOf_some, List.getElem?_toArray, List.getElem?_cons_zero, List.getElem?_cons_succ, Nat.zero_add, and_true, ld_3, fa_72_2, fa_72_3, b72b]
    refine rBody_ok hR1 fun v2 w2 k2 hR2 hv2 => ?_
    have hs1 := k1.1
    have hs2 := k2.1
    have k02 : Kp (fun b => F1 b ∨ F2 b) w w2 := ((k0.ofNone).trans (k1.mono fun x hx => .inl hx.1)).trans (k2.mono fun x hx => .inr hx.1)
    have kw2 : Kp none_ w0 w2 := hk.trans' k02 fun x hx => .inr (hx.elim (h01 x) (h02 x))
    simp (disch := first | omega | (simp only [size_alloc, size_set, heap_dr] <;> omega) | assumption | exact oneC_slice | exact oneC_int | exact oneC_bool | exact oneC_ptr | exact oneC_iface | exact oneC_nil | exact oneC_str | exact oneC_map | exact oneC_func | rfl) only [ext_0, ext_1, and_true]
    refine num_ok (he.kpNew kw2) (fun g h => LB_L25 g (bRead_mem g h)) fun w3 k3 => ?_
    have hv3 := (hv.kp k2 fun b hb hx => by omega).kn k3
    have hv23 := hv2.kn k3
    simp (disch := first | omega | (simp only [size_alloc, size_set, heap_dr] <;> omega) | assumption | exact oneC_slice | exact oneC_int | exact oneC_bool | exact oneC_ptr | exact oneC_iface | exact oneC_nil | exact oneC_str | exact oneC_map | exact oneC_func | rfl) only [pick_bool, gs_true, bn_eql, and_true, cond_true, eq_self, shr_eq, decide_true, str_of hv3.by, str_of hv23, bn_str_eql]
    have kk := k02.trans k3.ofNone
    refine hK w3 _ _ _ (kw2.trans k3) kk ((hD1.bound.kp k2 fun b hb hx => ?_).kn k3) (hR2.bound.kn k3) (fun b hb => ?_) (fun b hb => ?_) (fun b h1 h2 => ?_) hok.body.1
    · rcases hb.1 with h | h
      · exact h12 _ h.1 hx.1
      · omega
    · rcases hb.1 with h | h
      · exact .inl h.1
      · exact .inr (by omega)
    · rcases hb.1 with h | h
      · exact .inl h.1
      · exact .inr (by omega)
    · rcases h1.1 with h | h <;> rcases h2.1 with h' | h'
      · exact h12 _ h.1 h'.1
      · omega
      · omega
      · omega
  by_cases c4 : kd = 4
  · subst c4
    simp (disch := first | omega | (simp only [size_alloc, size_set, heap_dr] <;> omega) | assumption | exact oneC_slice | exact oneC_int | exact oneC_bool | exact oneC_ptr | exact oneC_iface | exact oneC_nil | exact oneC_str | exact oneC_map | exact oneC_func | rfl) only [gs_dec_pos, gs_dec_neg, bn_eql, oK_some, cell_eq, cellOf_some, heap_alloc_eq, bx_agg, List.getElem?_toArray, List.getElem?_cons_zero, List.getElem?_cons_succ, Nat.zero_add, and_true, eq_self, fa_72_0, ld_3, fa_72_2, fa_72_3]
    generalize w.alloc (.cells #[.int .i64 4, .int .i64 wh, .int .i64 dv, .int .i64 sl, .int .i64 n, vh, vb] 72) = wA at k0 b72 hz ⊢
    refine bankLook_ok (hDb.kn k0) (heB.kpNew (hk.trans k0)) fun uh ub w1 mm k1 hmm huh hub => ?_
    have b72b := k1.blk b72 (fun h => h)
    have e3 := huh.by.one
    have e4 := hub.by.one
    have k01 := k0.trans k1
    simp (disch := first | omega | (simp only [size_alloc, size_set, heap_dr] <;> omega) | assumption | exact oneC_slice | exact oneC_int | exact oneC_bool | exact oneC_ptr | exact oneC_iface | exact oneC_nil | exact oneC_str | exact oneC_map | exact oneC_func | rfl) only [ext_0, ext_1, cell_eq, Nat.zero_add, and_true, ld_3, fa_72_2, ↓alst_33]
    have ka : Kp none_ w1 (w1.alloc (.cells #[uh, ub] 33)) := Kp.refl.alloc _
    have k02 := k01.trans ka
    have bu : (w1.alloc (.cells #[uh, ub] 33)).heap[w1.heap.size]? = some (.cells #[uh, ub] 33 (0, 0)) := heap_alloc_eq rfl
    have b72c := ka.blk b72b (fun h => h)
    have huh2 := huh.bound.kn ka
    have hub2 := hub.bound.kn ka
    have hz2 : (w1.alloc (.cells #[uh, ub] 33)).heap.size = w1.heap.size + 1 := size_alloc
    generalize w1.alloc (.cells #[uh, ub] 33) = w2 at ka k02 bu b72c huh2 hub2 hz2 ⊢
    simp (disch := first | omega | (simp only [size_alloc, size_set, heap_dr] <;> omega) | assumption | exact oneC_slice | exact oneC_int | exact oneC_bool | exact oneC_ptr | exact oneC_iface | exact oneC_nil | exact oneC_str | exact oneC_map | exact oneC_func | rfl) only [oK_some, cell_eq, cellOf_some, List.getElem?_toArray, List.getElem?_cons_zero, List.getElem?_cons_succ, Nat.zero_add, and_true, ld_3, fa_72_3, b72c]
    refine rLook_ok (hRb.kn k02) fun xh xb w3 k3 hxh hxb => ?_
    have e5 := hxh.one
    have e6 := hxb.one
    have b3 := k3.blk bu (fun h => h)
    have hs3 := k3.1
    have k34 : Kp none_ w3 (w3.alloc (.cells #[xh, xb] 33)) := Kp.refl.alloc _
    have k24 := k3.trans k34
    simp (disch := first | omega | (simp only [size_alloc, size_set, heap_dr] <;> omega) | assumption | exact oneC_slice | exact oneC_int | exact oneC_bool | exact oneC_ptr | exact oneC_iface | exact oneC_nil | exact oneC_str | exact oneC_map | exact oneC_func | rfl) only [pick_bool, gs_true, ext_0, ext_1, oK_some, cell_eq, cellOf_some, heap_alloc_lt, heap_alloc_eq, List.getElem?_toArray, List.getElem?_cons_zero, List.getElem?_cons_succ, Nat.zero_add, and_true, cond_true, eq_self, shr_eq, fa_33_0, ld_31, fa_33_1, ↓alst_33, bn_bool_eql4, b3, beq_self_eq_true, str_of (huh2.kn k24).by, str_of (hub2.kn k24).by, str_of (hxh.kn k34), str_of (hxb.kn k34), bn_str_eql, decide_true]
    exact same _ (k02.trans k24)
  by_cases c5 : kd = 5
  · subst c5
    simp (disch := first | omega | (simp only [size_alloc, size_set, heap_dr] <;> omega) | assumption | exact oneC_slice | exact oneC_int | exact oneC_bool | exact oneC_ptr | exact oneC_iface | exact oneC_nil | exact oneC_str | exact oneC_map | exact oneC_func | rfl) only [gs_dec_pos, gs_dec_neg, bn_eql, oK_some, cell_eq, cellOf_some, heap_alloc_eq, heap_dr, bx_agg, List.getElem?_toArray, List.getElem?_cons_zero, List.getElem?_cons_succ, Nat.zero_add, true_and, and_true, eq_self, fa_72_0, ld_3, fa_72_2]
    generalize w.alloc (.cells #[.int .i64 5, .int .i64 wh, .int .i64 dv, .int .i64 sl, .int .i64 n, vh, vb] 72) = wA at k0 b72 hz ⊢
    have kd0 : Kp none_ w (dr wA) := k0.dr
    refine bankWipe_ok (hDb.kn kd0) (heB.kpNew (hk.trans kd0)) fun w1 k1 hD1 => ?_
    have hs1 := k1.1
    rw [heap_dr] at hs1 hD1
    have b72b := k1.blk (show (dr wA).heap[w.heap.size]? = _ from b72) (by omega)
    have hR1 := (hRb.kn kd0).kp k1 fun b hb hx => h12 _ hx.1 hb.1
    have k01 : Kp (fun b => F1 b ∨ F2 b) w w1 := (kd0.ofNone).trans (k1.mono fun x hx => .inl hx.1)
    have kw1 : Kp none_ w0 w1 := hk.trans' k01 fun x hx => .inr (hx.elim (h01 x) (h02 x))
    simp (disch := first | omega | (simp only [size_alloc, size_set, heap_dr] <;> omega) | assumption | exact oneC_slice | exact oneC_int | exact oneC_bool | exact oneC_ptr | exact oneC_iface | exact oneC_nil | exact oneC_str | exact oneC_map | exact oneC_func | rfl) only [oK_some, cell_eq, cellOf_some, List.getElem?_toArray, List.getElem?_cons_zero, List.getElem?_cons_succ, Nat.zero_add, true_and, and_true, eq_self, ld_3, fa_72_2, b72b]
    refine num_ok (he.kpNew kw1) bWipe_mem fun w2 k2 => ?_
    have b72c := k2.blk b72b (fun h => h)
    have hs2 := k2.1
    simp (disch := first | omega | (simp only [size_alloc, size_set, heap_dr] <;> omega) | assumption | exact oneC_slice | exact oneC_int | exact oneC_bool | exact oneC_ptr | exact oneC_iface | exact oneC_nil | exact oneC_str | exact oneC_map | exact oneC_func | rfl) only [oK_some, cell_eq, cellOf_some, List.getElem?_toArray, List.getElem?_cons_zero, List.getElem?_cons_succ, Nat.zero_add, true_and, and_true, eq_self, ld_3, fa_72_2, b72c]
    refine rWipe_ok (hR1.kn k2) hsl fun w3 k3 hR3 => ?_
    simp (disch := first | omega | (simp only [size_alloc, size_set, heap_dr] <;> omega) | assumption | exact oneC_slice | exact oneC_int | exact oneC_bool | exact oneC_ptr | exact oneC_iface | exact oneC_nil | exact oneC_str | exact oneC_map | exact oneC_func | rfl) only [bn_eql, true_and, and_true, eq_self, decide_true]
    have kk : Kp (fun b => F1 b ∨ F2 b) w w3 := (k01.trans k2.ofNone).trans (k3.mono fun x hx => .inr hx.1)
    have hs3 := k3.1
    refine hK w3 _ _ _ (hk.trans' kk fun x hx => .inr (hx.elim (h01 x) (h02 x))) kk ((hD1.bound.kn k2).kp k3 fun b hb hx => ?_) hR3.bound (fun b hb => ?_) (fun b hb => ?_) (fun b h1 h2 => ?_) hok.wipe.1
    · rcases hb.1 with h | h
      · exact h12 _ h.1 hx.1
      · omega
    · rcases hb.1 with h | h
      · exact .inl h.1
      · exact .inr (by omega)
    · rcases hb.1 with h | h
      · exact .inl h.1
      · exact .inr (by omega)
    · rcases h1.1 with h | h <;> rcases h2.1 with h' | h'
      · exact h12 _ h.1 h'.1
      · omega
      · omega
      · omega
  by_cases c6 : kd = 6
  · subst c6
    simp (disch := first | omega | (simp only [size_alloc, size_set, heap_dr] <;> omega) | assumption | exact oneC_slice | exact oneC_int | exact oneC_bool | exact oneC_ptr | exact oneC_iface | exact oneC_nil | exact oneC_str | exact oneC_map | exact oneC_func | rfl) only [gs_dec_pos, gs_dec_neg, bn_eql, oK_some, cell_eq, cellOf_some, heap_alloc_eq, heap_dr, bx_agg, List.getElem?_toArray, List.getElem?_cons_zero, List.getElem?_cons_succ, Nat.zero_add, true_and, and_true, eq_self, fa_72_0, ld_3, fa_72_2, fa_72_3]
    generalize w.alloc (.cells #[.int .i64 6, .int .i64 wh, .int .i64 dv, .int .i64 sl, .int .i64 n, vh, vb] 72) = wA at k0 b72 hz ⊢
    have kd0 : Kp none_ w (dr wA) := k0.dr
    refine bankSpoil_ok (hDb.kn kd0) (heB.kpNew (hk.trans kd0)) fun w1 k1 hD1 => ?_
    have hs1 := k1.1
    rw [heap_dr] at hs1 hD1
    have b72b := k1.blk (show (dr wA).heap[w.heap.size]? = _ from b72) (by omega)
    have hR1 := (hRb.kn kd0).kp k1 fun b hb hx => h12 _ hx.1 hb.1
    have k01 : Kp (fun b => F1 b ∨ F2 b) w w1 := (kd0.ofNone).trans (k1.mono fun x hx => .inl hx.1)
    have kw1 : Kp none_ w0 w1 := hk.trans' k01 fun x hx => .inr (hx.elim (h01 x) (h02 x))
    simp (disch := first | omega | (simp only [size_alloc, size_set, heap_dr] <;> omega) | assumption | exact oneC_slice | exact oneC_int | exact oneC_bool | exact oneC_ptr | exact oneC_iface | exact oneC_nil | exact oneC_str | exact oneC_map | exact oneC_func | rfl) only [oK_some, cell_eq, cellOf_some, List.getElem?_toArray, List.getElem?_cons_zero, List.getElem?_cons_succ, Nat.zero_add, true_and, and_true, eq_self, ld_3, fa_72_2, fa_72_3, b72b]
    refine num_ok (he.kpNew kw1) bSpoil_mem fun w2 k2 => ?_
    have b72c := k2.blk b72b (fun h => h)
    have hs2 := k2.1
    simp (disch := first | omega | (simp only [size_alloc, size_set, heap_dr] <;> omega) | assumption | exact oneC_slice | exact oneC_int | exact oneC_bool | exact oneC_ptr | exact oneC_iface | exact oneC_nil | exact oneC_str | exact oneC_map | exact oneC_func | rfl) only [oK_some, cell_eq, cellOf_some, List.getElem?_toArray, List.getElem?_cons_zero, List.getElem?_cons_succ, Nat.zero_add, true_and, and_true, eq_self, ld_3, fa_72_2, fa_72_3, b72c]
    refine rSpoil_ok (hR1.kn k2) fun w3 k3 hR3 => ?_
    simp (disch := first | omega | (simp only [size_alloc, size_set, heap_dr] <;> omega) | assumption | exact oneC_slice | exact oneC_int | exact oneC_bool | exact oneC_ptr | exact oneC_iface | exact oneC_nil | exact oneC_str | exact oneC_map | exact oneC_func | rfl) only [bn_eql, true_and, and_true, eq_self, decide_true]
    have kk : Kp (fun b => F1 b ∨ F2 b) w w3 := (k01.trans k2.ofNone).trans (k3.mono fun x hx => .inr hx.1)
    have hs3 := k3.1
    refine hK w3 _ _ _ (hk.trans' kk fun x hx => .inr (hx.elim (h01 x) (h02 x))) kk ((hD1.bound.kn k2).kp k3 fun b hb hx => ?_) hR3.bound (fun b hb => ?_) (fun b hb => ?_) (fun b h1 h2 => ?_) hok.spoil.1
    · rcases hb.1 with h | h
      · exact h12 _ h.1 hx.1
      · omega
    · rcases hb.1 with h | h
      · exact .inl h.1
      · exact .inr (by omega)
    · rcases hb.1 with h | h
      · exact .inl h.1
      · exact .inr (by omega)
    · rcases h1.1 with h | h <;> rcases h2.1 with h' | h'
      · exact h12 _ h.1 h'.1
      · omega
      · omega
      · omega
  by_cases c7 : kd = 7
  · subst c7
    simp (disch := first | omega | (simp only [size_alloc, size_set, heap_dr] <;> omega) | assumption | exact oneC_slice | exact oneC_int | exact oneC_bool | exact oneC_ptr | exact oneC_iface | exact oneC_nil | exact oneC_str | exact oneC_map | exact oneC_func | rfl) only [gs_dec_pos, gs_dec_neg, bn_eql, oK_some, cell_eq, cellOf_some, heap_alloc_eq, heap_dr, bx_agg, List.getElem?_toArray, List.getElem?_cons_zero, List.getElem?_cons_succ, Nat.zero_add, true_and, and_true, eq_self, fa_72_0, ld_3, fa_72_4]
    generalize w.alloc (.cells #[.int .i64 7, .int .i64 wh, .int .i64 dv, .int .i64 sl, .int .i64 n, vh, vb] 72) = wA at k0 b72 hz ⊢
    have kd0 : Kp none_ w (dr wA) := k0.dr
    have fin : ∀ w1, Kp (fun x => x = d) (dr wA) w1 → BankAt w1 d (bArm s n).1 (fun b => F1 b ∧ b < w.heap.size) → (w1.heap[w.heap.size]? = some (.cells #[.int .i64 7, .int .i64 wh, .int .i64 dv, .int .i64 sl, .int .i64 n, vh, vb] 72 (0, 0)) ∧ Kp none_ w0 w1 ∧ Kp (fun b => F1 b ∨ F2 b) w w1 ∧ RBankAt w1 m s (fun b => F2 b ∧ b < w.heap.size)) := by
      intro w1 k1 hD1
      have k01 : Kp (fun b => F1 b ∨ F2 b) w w1 := (kd0.ofNone).trans (k1.mono fun x hx => .inl (hx ▸ hB.fb))
      exact ⟨k1.blk (show (dr wA).heap[w.heap.size]? = _ from b72) (by omega), hk.trans' k01 fun x hx => .inr (hx.elim (h01 x) (h02 x)), k01, (hRb.kn kd0).kp k1 fun b hb hx => h12 _ (hx ▸ hB.fb) hb.1⟩
    have okA : BOk s.drives.length s.slots (bArm s n).1 := by unfold bArm; split; exact hok; exact ⟨rfl, rfl⟩
    have last : ∀ w3, Kp none_ w0 w3 → Kp (fun b => F1 b ∨ F2 b) w w3 → BankAt w3 d (bArm s n).1 (fun b => F1 b ∧ b < w.heap.size) → RBankAt w3 m (bArm s n).1 (fun b => F2 b ∧ b < w.heap.size) → K (.bool true) w3 := fun w3 a b c e => hK w3 _ _ _ a b c e (fun b hb => .inl hb.1) (fun b hb => .inl hb.1) (fun b h1 h2 => h12 b h1.1 h2.1) okA
    generalize hr : bArm s n = r at fin okA last
    refine bankArm_ok (hDb.kn kd0) ((heB.kpNew (hk.trans kd0)).at_ 3 (by decide)) (fun hn => ?_) (fun hn w1 k1 hD1 => ?_)
    · have hA : bArm s n = (s, some 3) := by unfold bArm; rw [if_pos hn]
      rw [hA] at hr
      subst hr
      obtain ⟨q1, q2, q3, q4⟩ := fin _ .refl (hDb.kn kd0)
      simp (disch := first | omega | (simp only [size_alloc, size_set, heap_dr] <;> omega) | assumption | exact oneC_slice | exact oneC_int | exact oneC_bool | exact oneC_ptr | exact oneC_iface | exact oneC_nil | exact oneC_str | exact oneC_map | exact oneC_func | rfl) only [oK_some, cell_eq, cellOf_some, heap_dr, List.getElem?_toArray, List.getElem?_cons_zero, List.getElem?_cons_succ, Nat.zero_add, true_and, and_true, eq_self, ld_3, fa_72_4, b72]
      refine num_ok (he.kpNew q2) (fun g h => by cases h; decide) fun w2 k2 => ?_
      have b72c := k2.blk q1 (fun h => h)
      simp (disch := first | omega | (simp only [size_alloc, size_set, heap_dr] <;> omega) | assumption | exact oneC_slice | exact oneC_int | exact oneC_bool | exact oneC_ptr | exact oneC_iface | exact oneC_nil | exact oneC_str | exact oneC_map | exact oneC_func | rfl) only [oK_some, cell_eq, cellOf_some, List.getElem?_toArray, List.getElem?_cons_zero, List.getElem?_cons_succ, Nat.zero_add, true_and, and_true, eq_self, ld_3, fa_72_4, b72c]
      refine rArm_ok (q4.kn k2) fun w3 k3 hR3 => ?_
      rw [hA] at hR3 ⊢
      simp (disch := first | omega | (simp only [size_alloc, size_set, heap_dr] <;> omega) | assumption | exact oneC_slice | exact oneC_int | exact oneC_bool | exact oneC_ptr | exact oneC_iface | exact oneC_nil | exact oneC_str | exact oneC_map | exact oneC_func | rfl) only [bn_eql, true_and, and_true, eq_self, decide_true]
      refine last _ ((q2.trans k2).trans' k3 fun x hx => .inr (hx ▸ h02 _ hR.fb)) ((q3.trans k2.ofNone).trans (k3.mono fun x hx => .inr (hx ▸ hR.fb))) (((hDb.kn kd0).kn k2).kp k3 fun b hb hx => h12 _ hb.1 (hx ▸ hR.fb)) hR3
    · have hA : bArm s n = ({ s with armed := true, left := n }, none) := by unfold bArm; rw [if_neg (by omega)]
      rw [hA] at hr
      subst hr
      obtain ⟨q1, q2, q3, q4⟩ := fin _ k1 hD1
      simp (disch := first | omega | (simp only [size_alloc, size_set, heap_dr] <;> omega) | assumption | exact oneC_slice | exact oneC_int | exact oneC_bool | exact oneC_ptr | exact oneC_iface | exact oneC_nil | exact oneC_str | exact oneC_map | exact oneC_func | rfl) only [oK_some, cell_eq, cellOf_some, List.getElem?_toArray, List.getElem?_cons_zero, List.getElem?_cons_succ, Nat.zero_add, true_and, and_true, eq_self, ld_3, fa_72_4, q1]
      refine num_ok (a := none) (he.kpNew q2) (fun g h => by cases h) fun w2 k2 => ?_
      have b72c := k2.blk q1 (fun h => h)
      simp (disch := first | omega | (simp only [size_alloc, size_set, heap_dr] <;> omega) | assumption | exact oneC_slice | exact oneC_int | exact oneC_bool | exact oneC_ptr | exact oneC_iface | exact oneC_nil | exact oneC_str | exact oneC_map | exact oneC_func | rfl) only [oK_some, cell_eq, cellOf_some, List.getElem?_toArray, List.getElem?_cons_zero, List.getElem?_cons_succ, Nat.zero_add, true_and, and_true, eq_self, ld_3, fa_72_4, b72c]
      refine rArm_ok (q4.kn k2) fun w3 k3 hR3 => ?_
      rw [hA] at hR3 ⊢
      simp (disch := first | omega | (simp only [size_alloc, size_set, heap_dr] <;> omega) | assumption | exact oneC_slice | exact oneC_int | exact oneC_bool | exact oneC_ptr | exact oneC_iface | exact oneC_nil | exact oneC_str | exact oneC_map | exact oneC_func | rfl) only [bn_eql, true_and, and_true, eq_self, decide_true]
      refine last _ ((q2.trans k2).trans' k3 fun x hx => .inr (hx ▸ h02 _ hR.fb)) ((q3.trans k2.ofNone).trans (k3.mono fun x hx => .inr (hx ▸ hR.fb))) ((hD1.kn k2).kp k3 fun b hb hx => h12 _ hb.1 (hx ▸ hR.fb)) hR3
  by_cases c8 : kd = 8
  · subst c8
    simp (disch := first | omega | (simp only [size_alloc, size_set, heap_dr] <;> omega) | assumption | exact oneC_slice | exact oneC_int | exact oneC_bool | exact oneC_ptr | exact oneC_iface | exact oneC_nil | exact oneC_str | exact oneC_map | exact oneC_func | rfl) only [gs_dec_pos, gs_dec_neg, bn_eql, oK_some, cell_eq, cellOf_some, heap_alloc_eq, bx_agg, List.getElem?_toArray, List.getElem?_cons_zero, and_true, eq_self, fa_72_0, ld_3]
    generalize w.alloc (.cells #[.int .i64 8, .int .i64 wh, .int .i64 dv, .int .i64 sl, .int .i64 n, vh, vb] 72) = wA at k0 b72 hz ⊢
    refine bankUp_ok (hDb.kn k0) fun w1 k1 hD1 => ?_
    refine rUp_ok ((hRb.kn k0).kp k1 fun b hb hx => h12 _ (hx ▸ hB.fb) hb.1) fun w2 k2 hR2 => ?_
    have k02 : Kp (fun b => F1 b ∨ F2 b) w w2 := ((k0.ofNone).trans (k1.mono fun x hx => .inl (hx ▸ hB.fb))).trans (k2.mono fun x hx => .inr (hx ▸ hR.fb))
    have hD2 := hD1.kp k2 fun b hb hx => h12 _ hb.1 (hx ▸ hR.fb)
    have kw2 : Kp none_ w0 w2 := hk.trans' k02 fun x hx => .inr (hx.elim (h01 x) (h02 x))
    refine ask16_ok h0 (s := bUp s) hD2 hR2 ?_
    exact hK _ (bUp s) _ _ kw2.dr k02.dr (hD2.kn Kp.refl.dr) (hR2.kn Kp.refl.dr) (fun b hb => .inl hb.1) (fun b hb => .inl hb.1) (fun b h1 h2 => h12 b h1.1 h2.1) ⟨rfl, rfl⟩
  · simp (disch := first | omega | (simp only [size_alloc, size_set, heap_dr] <;> omega) | assumption | exact oneC_slice | exact oneC_int | exact oneC_bool | exact oneC_ptr | exact oneC_iface | exact oneC_nil | exact oneC_str | exact oneC_map | exact oneC_func | rfl) only [gs_dec_neg, bn_eql, oK_some, cell_eq, cellOf_some, heap_alloc_eq, bx_agg, List.getElem?_toArray, List.getElem?_cons_zero, and_true, fa_72_0, ld_3]
    exact ask16_ok h0 (hDb.kn k0) (hRb.kn k0) (same _ k0.dr)
end Go.Proofs.YtfiakplgifimkaaDoor
