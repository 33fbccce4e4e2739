/- play: one call by a drive and by the document's drive. No statement of the seat is proved in this text. -/
import Derived.Test.YtfiakplgifimkaaDoorPlay
namespace Go.Proofs.YtfiakplgifimkaaDoor
open Go.TS
set_option maxRecDepth 20000

theorem asks_mem {cl : List Cel} {s : Int} (g : Nat) (h : asks cl s = some g) : g ∈ L25 := by
  have := asks_some h
  simp only [List.mem_cons, List.not_mem_nil, or_false] at this
  rcases this with rfl | rfl | rfl <;> decide
theorem slot_mem {b : Bool} (g : Nat) (h : (if b then none else some 2 : Option Nat) = some g) : g ∈ L25 := by
  cases b
  · cases h; decide
  · cases h

theorem apart4 {F1 F2 : Nat → Prop} {n l1 h1 l2 h2 : Nat} (h12 : ∀ b, F1 b → ¬ F2 b) (ha : n ≤ l1) (hb : n ≤ l2) (hab : h1 ≤ l2 ∨ h2 ≤ l1) : ∀ b, ((F1 b ∧ b < n) ∨ (l1 ≤ b ∧ b < h1)) → ¬ ((F2 b ∧ b < n) ∨ (l2 ≤ b ∧ b < h2)) := by
  rintro b (⟨x, _⟩ | ⟨x, y⟩) (⟨x', _⟩ | ⟨x', y'⟩)
  · exact h12 b x x'
  · omega
  · omega
  · omega
/-- One call by both. -/
theorem play15_ok {w0 w : World} {E : Nat → Addr} {d a m : Nat} {rd : Int} {cl : List Cel} {F1 F2 : Nat → Prop} {kd wh s : Int} {vh vb : Value} {hs bs : List UInt8} {G : Nat → Prop} {K : Value → World → Prop}
    (hk : Kp none_ w0 w) (he : Errs w0 E L25) (hh0 : By w0 vh hs G) (hb0 : By w0 vb bs G) (hD : DriveAt w d a rd cl F1) (hR : RefAt w m rd cl F2) (h01 : ∀ b, F1 b → w0.heap.size ≤ b) (h02 : ∀ b, F2 b → w0.heap.size ≤ b) (h12 : ∀ b, F1 b → ¬ F2 b)
    (hK : ∀ w' a' rd' cl' F1' F2', Kp none_ w0 w' → Kp (fun b => F1 b ∨ F2 b) w w' → DriveAt w' d a' rd' cl' F1' → RefAt w' m rd' cl' F2' → (∀ b, F1' b → F1 b ∨ w.heap.size ≤ b) → (∀ b, F2' b → F2 b ∨ w.heap.size ≤ b) → (∀ b, F1' b → ¬ F2' b) → cl'.length = cl.length → K (.bool true) w') :
    call Tryd.prog 24 #[.pointer (some ⟨d, 0, none⟩), .pointer (some ⟨m, 0, none⟩), .agg #[.int .i64 kd, .int .i64 wh, .int .i64 s, vh, vb]] w K := by
  have hh := hh0.bound
  have hb := hb0.bound
  have e1 := hh.one
  have e2 := hb.one
  have hDb := hD.bound
  have hRb := hR.bound
  have k0 : Kp none_ w (w.alloc (.cells #[.int .i64 kd, .int .i64 wh, .int .i64 s, vh, vb] 35)) := Kp.refl.alloc _
  have b35 : (w.alloc (.cells #[.int .i64 kd, .int .i64 wh, .int .i64 s, vh, vb] 35)).heap[w.heap.size]? = some (.cells #[.int .i64 kd, .int .i64 wh, .int .i64 s, vh, vb] 35 (0, 0)) := heap_alloc_eq rfl
  have hz : (w.alloc (.cells #[.int .i64 kd, .int .i64 wh, .int .i64 s, vh, vb] 35)).heap.size = w.heap.size + 1 := size_alloc
  have hs0 := hk.1
  -- nothing turned
  have same : ∀ W, Kp none_ w W → K (.bool true) W := fun W hW => hK W a rd cl _ _ (hk.trans hW) hW.ofNone (hDb.kn hW) (hRb.kn hW) (fun b hb => .inl hb.1) (fun b hb => .inl hb.1) (fun b h1 h2 => h12 b h1.1 h2.1) rfl
  refine F24_ok fun X h0 => ?_
  unfold F24_s
  by_cases c1 : kd = 1
  · subst c1
    simp (disch := first | omega | (simp only [size_alloc, size_set, heap_dr] <;> omega) | assumption | exact oneC_slice | exact oneC_int | exact oneC_bool | exact oneC_ptr | exact oneC_iface | exact oneC_nil | exact oneC_str | exact oneC_map | exact oneC_func | rfl) only [gs_dec_pos, bn_eql, oK_some, cell_eq, cellOf_some, heap_alloc_eq, heap_dr, bx_agg, List.getElem?_toArray, List.getElem?_cons_zero, List.getElem?_cons_succ, Nat.zero_add, true_and, and_true, Nat.reduceAdd, eq_self, fa_35_0, ld_3, fa_35_3, fa_33_0, ld_31, fa_33_1]
    have k0' := k0.dr
    generalize w.alloc (.cells #[.int .i64 1, .int .i64 wh, .int .i64 s, vh, vb] 35) = wA at k0 k0' b35 hz ⊢
    have kA := hk.trans k0'
    refine bytes_ok (hh.kn kA) fun t34 w1 k1 m1 => ?_
    have b35a := k1.blk b35 (fun h => h)
    have k01 := kA.trans k1
    simp (disch := first | omega | (simp only [size_alloc, size_set, heap_dr] <;> omega) | assumption | exact oneC_slice | exact oneC_int | exact oneC_bool | exact oneC_ptr | exact oneC_iface | exact oneC_nil | exact oneC_str | exact oneC_map | exact oneC_func | rfl) only [oK_some, cell_eq, cellOf_some, List.getElem?_toArray, List.getElem?_cons_zero, List.getElem?_cons_succ, Nat.zero_add, true_and, and_true, Nat.reduceAdd, eq_self, fa_35_3, ld_31, fa_33_1, b35a]
    refine bytes_ok (hb.kn k01) fun t38 w2 k2 m2 => ?_
    have m1' := m1.bound.kn k2
    have b35b := k2.blk b35a (fun h => h)
    have k02 := k01.trans k2
    have kw2 : Kp none_ w w2 := (k0'.trans k1).trans k2
    have e3 := m1'.bo.by.one
    have e4 := m2.bo.by.one
    simp (disch := first | omega | (simp only [size_alloc, size_set, heap_dr] <;> omega) | assumption | exact oneC_slice | exact oneC_int | exact oneC_bool | exact oneC_ptr | exact oneC_iface | exact oneC_nil | exact oneC_str | exact oneC_map | exact oneC_func | rfl) only [oK_some, cell_eq, cellOf_some, List.getElem?_toArray, List.getElem?_cons_zero, List.getElem?_cons_succ, Nat.zero_add, and_true, ld_3, fa_35_2, bld_33_0_1, b35b]
    have hE2 := he.kpNew k02
    have hs1 : w.heap.size + 1 ≤ w1.heap.size := by have := k1.1; rw [heap_dr] at this; omega
    have hs2 := k2.1
    refine write_ok (G := fun _ => True) (hDb.kn kw2) (hE2.at_ 2 (by decide)) (m1'.bo.by.mono fun _ _ => trivial) (m2.bo.by.mono fun _ _ => trivial) fun w3 k3 hD3 => ?_
    have hal : a < w.heap.size := hDb.fa.2
    have ha0 := h01 _ hDb.fa.1
    have b35c := k3.blk b35b (by omega)
    have k03 : Kp none_ w0 w3 := k02.trans' k3 fun x hx => .inr (by omega)
    have m13 := m1'.kp k3 fun b hb hx => by rw [heap_dr] at hb; omega
    have m23 := m2.bound.kp k3 fun b hb hx => by omega
    have hR3 := (hRb.kn kw2).kp k3 fun b hb hx => by subst hx; exact h12 _ hDb.fa.1 hb.1
    simp (disch := first | omega | (simp only [size_alloc, size_set, heap_dr] <;> omega) | assumption | exact oneC_slice | exact oneC_int | exact oneC_bool | exact oneC_ptr | exact oneC_iface | exact oneC_nil | exact oneC_str | exact oneC_map | exact oneC_func | rfl) only [oK_some, cell_eq, cellOf_some, heap_dr, List.getElem?_toArray, List.getElem?_cons_zero, List.getElem?_cons_succ, Nat.zero_add, true_and, and_true, Nat.reduceAdd, eq_self, ld_3, fa_35_3, fa_35_2, ld_33, b35c]
    refine num_ok ((he.kpNew k03).kpNew Kp.refl.dr) (fun g h => slot_mem g h) fun w4 k4 => ?_
    have k34 : Kp none_ w3 w4 := Kp.refl.dr.trans k4
    have b35d := k34.blk b35c (fun h => h)
    simp (disch := first | omega | (simp only [size_alloc, size_set, heap_dr] <;> omega) | assumption | exact oneC_slice | exact oneC_int | exact oneC_bool | exact oneC_ptr | exact oneC_iface | exact oneC_nil | exact oneC_str | exact oneC_map | exact oneC_func | rfl) only [oK_some, cell_eq, cellOf_some, List.getElem?_toArray, List.getElem?_cons_zero, List.getElem?_cons_succ, Nat.zero_add, true_and, and_true, Nat.reduceAdd, eq_self, ld_3, fa_35_3, fa_35_2, ld_33, b35d]
    have k04 := k03.trans k34
    refine refWrite_ok (hR3.kn k34) (hh.kn k04) (hb.kn k04) (fun b hb hx => by have := h02 _ hx.1; omega) fun w5 k5 hR5 => ?_
    have hs3 := k3.1
    have hs4 := k34.1
    have hs5 := k5.1
    have b35e := k5.blk b35d (fun h => by omega)
    have k05 : Kp none_ w0 w5 := k04.trans' k5 fun x hx => .inr (h02 _ hx.1)
    have m15 := (m13.kn k34).kp k5 fun b hb hx => by rw [heap_dr] at hb; omega
    have m25 := (m23.kn k34).kp k5 fun b hb hx => by omega
    have hD5 := (hD3.bound.kn k34).kp k5 fun b hb hx => by
      rcases hb.1 with h | h
      · exact h12 _ h.1 hx.1
      · omega
    simp (disch := first | omega | (simp only [size_alloc, size_set, heap_dr] <;> omega) | assumption | exact oneC_slice | exact oneC_int | exact oneC_bool | exact oneC_ptr | exact oneC_iface | exact oneC_nil | exact oneC_str | exact oneC_map | exact oneC_func | rfl) only [gs_true, bn_eql, oK_some, cell_eq, cellOf_some, List.getElem?_toArray, List.getElem?_cons_zero, List.getElem?_cons_succ, Nat.zero_add, true_and, and_true, eq_self, fa_35_3, fa_33_0, ld_31, decide_true, b35e]
    refine kept_ok m15 (hh.kn k05) fun w6 k6 => ?_
    have b35f := k6.blk b35e (fun h => h)
    simp (disch := first | omega | (simp only [size_alloc, size_set, heap_dr] <;> omega) | assumption | exact oneC_slice | exact oneC_int | exact oneC_bool | exact oneC_ptr | exact oneC_iface | exact oneC_nil | exact oneC_str | exact oneC_map | exact oneC_func | rfl) only [pick_bool, gs_true, oK_some, cell_eq, cellOf_some, List.getElem?_toArray, List.getElem?_cons_zero, List.getElem?_cons_succ, Nat.zero_add, true_and, and_true, cond_true, Nat.reduceAdd, eq_self, fa_35_3, ld_31, fa_33_1, b35f]
    refine kept_ok (m25.kn k6) ((hb.kn k05).kn k6) fun w7 k7 => ?_
    simp (disch := first | omega | (simp only [size_alloc, size_set, heap_dr] <;> omega) | assumption | exact oneC_slice | exact oneC_int | exact oneC_bool | exact oneC_ptr | exact oneC_iface | exact oneC_nil | exact oneC_str | exact oneC_map | exact oneC_func | rfl) only [pick_bool, true_and, and_true, cond_true, eq_self]
    refine h0 _ _ _ _ ?_
    unfold F24_0
    have k57 := k6.trans k7
    refine Bo.spoil (m15.kn k57).bo fun w8 k8 => ?_
    refine Bo.spoil ((m25.kn k57).kp k8 fun b hb hx => by rw [heap_dr] at hx; omega).bo fun w9 k9 => ?_
    have k79 : Kp (fun b => w.heap.size ≤ b ∧ b < w2.heap.size) w7 w9 := (k8.mono fun x hx => by rw [heap_dr] at hx; omega).trans (k9.mono fun x hx => by omega)
    have kk : Kp (fun b => F1 b ∨ F2 b) w w7 := ((((kw2.ofNone).trans (k3.mono fun x hx => .inl (hx ▸ hDb.fa.1))).trans k34.ofNone).trans (k5.mono fun x hx => .inr hx.1)).trans k57.ofNone
    have kk9 : Kp (fun b => F1 b ∨ F2 b) w w9 := kk.trans' k79 fun x hx => .inr hx.1
    refine hK w9 _ _ _ _ _ (hk.trans' kk9 fun x hx => .inr (hx.elim (h01 x) (h02 x))) kk9 ((hD5.kn k57).kp k79 fun b hb hx => by omega) ((hR5.bound.kn k57).kp k79 fun b hb hx => by omega) (fun b hb => ?_) (fun b hb => ?_) (fun b h1 h2 => ?_) (by split <;> simp)
    · rcases hb.1 with h | h
      · exact .inl h.1
      · exact .inr (by omega)
    · rcases hb.1 with h | h
      · exact .inl h.1
      · exact .inr (by omega)
    · rcases h1.1 with h | h <;> rcases h2.1 with h' | h'
      · exact h12 _ h.1 h'.1
      · omega
      · omega
      · omega
  by_cases c2 : kd = 2
  · subst c2
    simp (disch := first | omega | (simp only [size_alloc, size_set, heap_dr] <;> omega) | assumption | exact oneC_slice | exact oneC_int | exact oneC_bool | exact oneC_ptr | exact oneC_iface | exact oneC_nil | exact oneC_str | exact oneC_map | exact oneC_func | rfl) only [gs_dec_pos, gs_dec_neg, bn_eql, oK_some, cell_eq, cellOf_some, heap_alloc_eq, bx_agg, List.getElem?_toArray, List.getElem?_cons_zero, List.getElem?_cons_succ, Nat.zero_add, and_true, eq_self, fa_35_0, ld_3, fa_35_2]
    generalize w.alloc (.cells #[.int .i64 2, .int .i64 wh, .int .i64 s, vh, vb] 35) = wA at k0 b35 hz ⊢
    have heA := he.kpNew (hk.trans k0)
    refine head_ok (hDb.kn k0) (heA.at_ 0 (by decide)) (heA.at_ 1 (by decide)) (heA.at_ 2 (by decide)) fun v w1 k1 hv => ?_
    have b35b := k1.blk b35 (fun h => h)
    simp (disch := first | omega | (simp only [size_alloc, size_set, heap_dr] <;> omega) | assumption | exact oneC_slice | exact oneC_int | exact oneC_bool | exact oneC_ptr | exact oneC_iface | exact oneC_nil | exact oneC_str | exact oneC_map | exact oneC_func | rfl) only [ext_0, ext_1, oK_some, cell_eq, cellOf_some, List.getElem?_toArray, List.getElem?_cons_zero, List.getElem?_cons_succ, Nat.zero_add, and_true, ld_3, fa_35_2, b35b]
    have k01 := k0.trans k1
    refine refHead_ok (hRb.kn k01) fun v2 hv2 => ?_
    simp (disch := first | omega | (simp only [size_alloc, size_set, heap_dr] <;> omega) | assumption | exact oneC_slice | exact oneC_int | exact oneC_bool | exact oneC_ptr | exact oneC_iface | exact oneC_nil | exact oneC_str | exact oneC_map | exact oneC_func | rfl) only [ext_0, ext_1, and_true]
    have he1 := he.kpNew (hk.trans k01)
    refine num_ok he1 (fun g h => asks_mem g h) fun w2 k2 => ?_
    have hv' := hv.by.kn k2
    have hv2' := hv2.kn k2
    simp (disch := first | omega | (simp only [size_alloc, size_set, heap_dr] <;> omega) | assumption | exact oneC_slice | exact oneC_int | exact oneC_bool | exact oneC_ptr | exact oneC_iface | exact oneC_nil | exact oneC_str | exact oneC_map | exact oneC_func | rfl) only [pick_bool, gs_true, bn_eql, and_true, eq_self, shr_eq, decide_true, str_of hv', str_of hv2', bn_str_eql]
    refine Bo.spoil (hv.kn k2) fun w3 k3 => ?_
    simp only [cond_true, decide_true]
    exact same _ ((k01.trans k2).trans' k3 fun x hx => .inr (by omega))
  by_cases c3 : kd = 3
  · subst c3
    simp (disch := first | omega | (simp only [size_alloc, size_set, heap_dr] <;> omega) | assumption | exact oneC_slice | exact oneC_int | exact oneC_bool | exact oneC_ptr | exact oneC_iface | exact oneC_nil | exact oneC_str | exact oneC_map | exact oneC_func | rfl) only [gs_dec_pos, gs_dec_neg, bn_eql, oK_some, cell_eq, cellOf_some, heap_alloc_eq, bx_agg, List.getElem?_toArray, List.getElem?_cons_zero, List.getElem?_cons_succ, Nat.zero_add, and_true, eq_self, fa_35_0, ld_3, fa_35_2]
    generalize w.alloc (.cells #[.int .i64 3, .int .i64 wh, .int .i64 s, vh, vb] 35) = wA at k0 b35 hz ⊢
    have heA := he.kpNew (hk.trans k0)
    have hdl := hDb.fd.2
    refine body_ok (hDb.kn k0) (heA.at_ 0 (by decide)) (heA.at_ 1 (by decide)) (heA.at_ 2 (by decide)) fun v w1 k1 hD1 hv => ?_
    have b35b := k1.blk b35 (by omega)
    simp (disch := first | omega | (simp only [size_alloc, size_set, heap_dr] <;> omega) | assumption | exact oneC_slice | exact oneC_int | exact oneC_bool | exact oneC_ptr | exact oneC_iface | exact oneC_nil | exact oneC_str | exact oneC_map | exact oneC_func | rfl) only [ext_0, ext_1, oK_some, cell_eq, cellOf_some, List.getElem?_toArray, List.getElem?_cons_zero, List.getElem?_cons_succ, Nat.zero_add, and_true, ld_3, fa_35_2, b35b]
    have hRA := hRb.kn k0
    have hR1 := hRA.kp k1 fun b hb hx => by subst hx; exact h12 _ hDb.fd.1 hb.1
    obtain ⟨hb1, bb1, fb1, db1, q1, _⟩ := hR1.ex
    have hml : m < w.heap.size := by obtain ⟨_, _, _, _, q, _⟩ := hR.ex; exact blk_lt q
    have hmd : m ≠ d := fun h => by obtain ⟨_, _, _, _, _, _, _, f0, _⟩ := hR.ex; exact h12 _ hDb.fd.1 (h ▸ f0)
    refine refBody_ok hR1 fun v2 w2 k2 hR2 hv2 => ?_
    have k02 : Kp (fun b => b = d ∨ b = m) w w2 := ((k0.ofNone).trans (k1.mono fun x hx => .inl hx)).trans (k2.mono fun x hx => .inr hx)
    have hd1 := h01 _ hDb.fd.1
    have hm1 : w0.heap.size ≤ m := by obtain ⟨_, _, _, _, _, _, _, f0, _⟩ := hR.ex; exact h02 _ f0
    have kw2 : Kp none_ w0 w2 := hk.trans' k02 fun x hx => .inr (by omega)
    simp (disch := first | omega | (simp only [size_alloc, size_set, heap_dr] <;> omega) | assumption | exact oneC_slice | exact oneC_int | exact oneC_bool | exact oneC_ptr | exact oneC_iface | exact oneC_nil | exact oneC_str | exact oneC_map | exact oneC_func | rfl) only [ext_0, ext_1, and_true]
    refine num_ok ((he.kpNew kw2).kpNew Kp.refl.dr) (fun g h => asks_mem g h) fun w3 k3 => ?_
    have k23 : Kp none_ w2 w3 := Kp.refl.dr.trans k3
    have hv3 := (hv.kp k2 fun b hb hx => by omega).kn k23
    have hv23 := hv2.kn k23
    have hD3 := (hD1.kp k2 fun b hb hx => by subst hx; exact h12 _ hb.1 (by obtain ⟨_, _, _, _, _, _, _, f0, _⟩ := hR.ex; exact f0)).kn k23
    have hR3 := hR2.kn k23
    obtain ⟨hb3, bb3, fb3, db3, q3, _⟩ := hR3.ex
    simp (disch := first | omega | (simp only [size_alloc, size_set, heap_dr] <;> omega) | assumption | exact oneC_slice | exact oneC_int | exact oneC_bool | exact oneC_ptr | exact oneC_iface | exact oneC_nil | exact oneC_str | exact oneC_map | exact oneC_func | rfl) only [ck_ptr, pick_bool, gs_true, bn_eql, oK_some, cell_eq, cellOf_some, List.getElem?_toArray, List.getElem?_cons_zero, List.getElem?_cons_succ, Nat.zero_add, true_and, and_true, cond_true, eq_self, ld_3, fa_48_0, fa_97_4, decide_true, str_of hv3.by, str_of hv23, bn_str_eql, q3]
    refine meter_ok hD3 ?_
    simp (disch := first | omega | (simp only [size_alloc, size_set, heap_dr] <;> omega) | assumption | exact oneC_slice | exact oneC_int | exact oneC_bool | exact oneC_ptr | exact oneC_iface | exact oneC_nil | exact oneC_str | exact oneC_map | exact oneC_func | rfl) only [ck_ptr, pick_bool, bn_eql, oK_some, cell_eq, cellOf_some, List.getElem?_toArray, List.getElem?_cons_zero, List.getElem?_cons_succ, Nat.zero_add, true_and, and_true, eq_self, ld_3, fa_97_4, q3]
    refine Bo.spoil hv3 fun w4 k4 => ?_
    have kk : Kp (fun b => F1 b ∨ F2 b) w w3 := (k02.mono fun x hx => by
      rcases hx with rfl | rfl
      · exact .inl hDb.fd.1
      · obtain ⟨_, _, _, _, _, _, _, f0, _⟩ := hR.ex; exact .inr f0).trans k23.ofNone
    have kk4 := kk.trans' k4 fun x hx => .inr (by omega)
    simp only [cond_true, decide_true]
    refine hK w4 _ _ _ _ _ (hk.trans' kk4 fun x hx => .inr (hx.elim (h01 x) (h02 x))) kk4 (hD3.kp k4 fun b hb hx => by omega) (hR3.kp k4 fun b hb hx => by omega) (fun b hb => .inl hb.1) (fun b hb => .inl hb.1) (fun b h1 h2 => h12 b h1.1 h2.1) rfl
  by_cases c4 : kd = 4
  · subst c4
    simp (disch := first | omega | (simp only [size_alloc, size_set, heap_dr] <;> omega) | assumption | exact oneC_slice | exact oneC_int | exact oneC_bool | exact oneC_ptr | exact oneC_iface | exact oneC_nil | exact oneC_str | exact oneC_map | exact oneC_func | rfl) only [gs_dec_pos, gs_dec_neg, bn_eql, oK_some, cell_eq, cellOf_some, heap_alloc_eq, bx_agg, List.getElem?_toArray, List.getElem?_cons_zero, List.getElem?_cons_succ, Nat.zero_add, and_true, eq_self, fa_35_0, ld_3, fa_35_2]
    generalize w.alloc (.cells #[.int .i64 4, .int .i64 wh, .int .i64 s, vh, vb] 35) = wA at k0 b35 hz ⊢
    refine look_ok (hDb.kn k0) fun uh ub w1 mm k1 hmm huh hub => ?_
    have b35b := k1.blk b35 (fun h => h)
    have e3 := huh.by.one
    have e4 := hub.by.one
    have k01 := k0.trans k1
    simp (disch := first | omega | (simp only [size_alloc, size_set, heap_dr] <;> omega) | assumption | exact oneC_slice | exact oneC_int | exact oneC_bool | exact oneC_ptr | exact oneC_iface | exact oneC_nil | exact oneC_str | exact oneC_map | exact oneC_func | rfl) only [ext_0, ext_1, cell_eq, Nat.zero_add, and_true, ld_3, fa_35_2, ↓alst_33]
    have ka : Kp none_ w1 (w1.alloc (.cells #[uh, ub] 33)) := Kp.refl.alloc _
    have k02 := k01.trans ka
    have bu : (w1.alloc (.cells #[uh, ub] 33)).heap[w1.heap.size]? = some (.cells #[uh, ub] 33 (0, 0)) := heap_alloc_eq rfl
    have b35c := ka.blk b35b (fun h => h)
    have huh2 := huh.bound.kn ka
    have hub2 := hub.bound.kn ka
    have hz2 : (w1.alloc (.cells #[uh, ub] 33)).heap.size = w1.heap.size + 1 := size_alloc
    generalize w1.alloc (.cells #[uh, ub] 33) = w2 at ka k02 bu b35c huh2 hub2 hz2 ⊢
    simp (disch := first | omega | (simp only [size_alloc, size_set, heap_dr] <;> omega) | assumption | exact oneC_slice | exact oneC_int | exact oneC_bool | exact oneC_ptr | exact oneC_iface | exact oneC_nil | exact oneC_str | exact oneC_map | exact oneC_func | rfl) only [oK_some, cellOf_some, List.getElem?_toArray, List.getElem?_cons_zero, List.getElem?_cons_succ, and_true, b35c]
    refine refLook_ok (hRb.kn k02) fun xh xb w3 k3 hxh hxb => ?_
    have e5 := hxh.one
    have e6 := hxb.one
    have b3 := k3.blk bu (fun h => h)
    have hs3 := k3.1
    simp (disch := first | omega | (simp only [size_alloc, size_set, heap_dr] <;> omega) | assumption | exact oneC_slice | exact oneC_int | exact oneC_bool | exact oneC_ptr | exact oneC_iface | exact oneC_nil | exact oneC_str | exact oneC_map | exact oneC_func | rfl) only [ext_0, ext_1, oK_some, cell_eq, cellOf_some, heap_alloc_lt, heap_alloc_eq, List.getElem?_toArray, List.getElem?_cons_zero, List.getElem?_cons_succ, Nat.zero_add, and_true, ld_33, ↓alst_33, b3]
    have k34 : Kp none_ w3 (w3.alloc (.cells #[xh, xb] 33)) := Kp.refl.alloc _
    have k24 := k3.trans k34
    refine same15_ok (F := fun _ => True) ((huh2.kn k24).by.mono fun _ _ => trivial) ((hub2.kn k24).by.mono fun _ _ => trivial) ((hxh.kn k34).mono fun _ _ => trivial) ((hxb.kn k34).mono fun _ _ => trivial) fun w5 k5 => ?_
    have k25 := k24.trans k5
    have b5 := k25.blk bu (fun h => h)
    simp (disch := first | omega | (simp only [size_alloc, size_set, heap_dr] <;> omega) | assumption | exact oneC_slice | exact oneC_int | exact oneC_bool | exact oneC_ptr | exact oneC_iface | exact oneC_nil | exact oneC_str | exact oneC_map | exact oneC_func | rfl) only [oK_some, cell_eq, cellOf_some, List.getElem?_toArray, List.getElem?_cons_zero, and_true, fa_33_0, ld_31, b5]
    refine Bo.spoil (huh2.kn k25) fun w6 k6 => ?_
    have hs25 := k25.1
    have hs1 := k1.1
    have b6 := k6.blk b5 (by omega)
    simp (disch := first | omega | (simp only [size_alloc, size_set, heap_dr] <;> omega) | assumption | exact oneC_slice | exact oneC_int | exact oneC_bool | exact oneC_ptr | exact oneC_iface | exact oneC_nil | exact oneC_str | exact oneC_map | exact oneC_func | rfl) only [oK_some, cell_eq, cellOf_some, List.getElem?_toArray, List.getElem?_cons_zero, List.getElem?_cons_succ, Nat.zero_add, and_true, ld_31, fa_33_1, b6]
    refine Bo.spoil ((hub2.kn k25).kp k6 fun b hb hx => by omega) fun w7 k7 => ?_
    exact same _ (((k02.trans k25).trans' k6 fun x hx => .inr (by omega)).trans' k7 fun x hx => .inr (by omega))
  by_cases c5 : kd = 5
  · subst c5
    simp (disch := first | omega | (simp only [size_alloc, size_set, heap_dr] <;> omega) | assumption | exact oneC_slice | exact oneC_int | exact oneC_bool | exact oneC_ptr | exact oneC_iface | exact oneC_nil | exact oneC_str | exact oneC_map | exact oneC_func | rfl) only [gs_dec_pos, gs_dec_neg, bn_eql, oK_some, cell_eq, cellOf_some, heap_alloc_eq, bx_agg, List.getElem?_toArray, List.getElem?_cons_zero, and_true, eq_self, fa_35_0, ld_3]
    generalize w.alloc (.cells #[.int .i64 5, .int .i64 wh, .int .i64 s, vh, vb] 35) = wA at k0 b35 hz ⊢
    refine wipe_ok (hDb.kn k0) fun w1 a' k1 hD1 => ?_
    have hR1 := (hRb.kn k0).kp k1 fun b hb hx => by subst hx; exact h12 _ hDb.fd.1 hb.1
    simp (disch := first | omega | (simp only [size_alloc, size_set, heap_dr] <;> omega) | assumption | exact oneC_slice | exact oneC_int | exact oneC_bool | exact oneC_ptr | exact oneC_iface | exact oneC_nil | exact oneC_str | exact oneC_map | exact oneC_func | rfl) only [and_true]
    refine refWipe_ok hR1 fun w2 k2 hR2 => ?_
    have hD1' := hD1.bound
    have hs1 := k1.1
    have hs2 := k2.1
    have hD2 := hD1'.kp k2 fun b hb hx => by
      rcases hb.1 with h | h
      · exact h12 _ h.1 hx.1
      · omega
    have kk : Kp (fun b => F1 b ∨ F2 b) w w2 := ((k0.ofNone).trans (k1.mono fun x hx => .inl (hx ▸ hDb.fd.1))).trans (k2.mono fun x hx => .inr hx.1)
    refine hK w2 _ _ _ _ _ (hk.trans' kk fun x hx => .inr (hx.elim (h01 x) (h02 x))) kk hD2 (by simpa [empties] using hR2.bound) (fun b hb => ?_) (fun b hb => ?_) (fun b h1 h2 => ?_) (by simp [empties])
    · rcases hb.1 with h | h
      · exact .inl h.1
      · exact .inr (by omega)
    · rcases hb.1 with h | h
      · exact .inl h.1
      · exact .inr (by omega)
    · rcases h1.1 with h | h <;> rcases h2.1 with h' | h'
      · exact h12 _ h.1 h'.1
      · omega
      · omega
      · omega
  by_cases c6 : kd = 6
  · subst c6
    simp (disch := first | omega | (simp only [size_alloc, size_set, heap_dr] <;> omega) | assumption | exact oneC_slice | exact oneC_int | exact oneC_bool | exact oneC_ptr | exact oneC_iface | exact oneC_nil | exact oneC_str | exact oneC_map | exact oneC_func | rfl) only [gs_dec_pos, gs_dec_neg, bn_eql, oK_some, cell_eq, cellOf_some, heap_alloc_eq, bx_agg, List.getElem?_toArray, List.getElem?_cons_zero, List.getElem?_cons_succ, Nat.zero_add, and_true, eq_self, fa_35_0, ld_3, fa_35_2]
    generalize w.alloc (.cells #[.int .i64 6, .int .i64 wh, .int .i64 s, vh, vb] 35) = wA at k0 b35 hz ⊢
    have heA := he.kpNew (hk.trans k0)
    refine spoil_ok (hDb.kn k0) (heA.at_ 2 (by decide)) fun w1 k1 hD1 => ?_
    have hal : a < w.heap.size := by have := hDb.fa; exact this.2
    have b35b := k1.blk b35 (by omega)
    have hR1 := (hRb.kn k0).kp k1 fun b hb hx => by subst hx; exact h12 _ hDb.fa.1 hb.1
    simp (disch := first | omega | (simp only [size_alloc, size_set, heap_dr] <;> omega) | assumption | exact oneC_slice | exact oneC_int | exact oneC_bool | exact oneC_ptr | exact oneC_iface | exact oneC_nil | exact oneC_str | exact oneC_map | exact oneC_func | rfl) only [oK_some, cell_eq, cellOf_some, heap_dr, List.getElem?_toArray, List.getElem?_cons_zero, List.getElem?_cons_succ, Nat.zero_add, true_and, and_true, eq_self, ld_3, fa_35_2, b35b]
    have ha0 := h01 _ hDb.fa.1
    have kw1 : Kp none_ w0 w1 := (hk.trans k0).trans' k1 fun x hx => .inr (by omega)
    refine num_ok ((he.kpNew kw1).kpNew Kp.refl.dr) (fun g h => slot_mem g h) fun w2 k2 => ?_
    have k12 : Kp none_ w1 w2 := Kp.refl.dr.trans k2
    have b35c := k12.blk b35b (fun h => h)
    simp (disch := first | omega | (simp only [size_alloc, size_set, heap_dr] <;> omega) | assumption | exact oneC_slice | exact oneC_int | exact oneC_bool | exact oneC_ptr | exact oneC_iface | exact oneC_nil | exact oneC_str | exact oneC_map | exact oneC_func | rfl) only [oK_some, cell_eq, cellOf_some, List.getElem?_toArray, List.getElem?_cons_zero, List.getElem?_cons_succ, Nat.zero_add, true_and, and_true, eq_self, ld_3, fa_35_2, b35c]
    refine refSpoil_ok (hR1.kn k12) fun w3 k3 hR3 => ?_
    simp (disch := first | omega | (simp only [size_alloc, size_set, heap_dr] <;> omega) | assumption | exact oneC_slice | exact oneC_int | exact oneC_bool | exact oneC_ptr | exact oneC_iface | exact oneC_nil | exact oneC_str | exact oneC_map | exact oneC_func | rfl) only [bn_eql, true_and, and_true, eq_self, decide_true]
    have kk : Kp (fun b => F1 b ∨ F2 b) w w3 := (((k0.ofNone).trans (k1.mono fun x hx => .inl (hx ▸ hDb.fa.1))).trans k12.ofNone).trans (k3.mono fun x hx => .inr hx.1)
    refine hK w3 _ _ _ _ _ (hk.trans' kk fun x hx => .inr (hx.elim (h01 x) (h02 x))) kk ((hD1.kn k12).kp k3 fun b hb hx => h12 _ hb.1 hx.1) hR3 (fun b hb => .inl hb.1) (fun b hb => .inl hb.1) (fun b h1 h2 => h12 b h1.1 h2.1) (by unfold spoilt; split <;> simp)
  by_cases c7 : kd = 7
  · subst c7
    have hDA := hDb.kn k0
    obtain ⟨hb1, bb1, fb1, db1, q1, _⟩ := hR.ex
    have q1' := k0.blk q1 (fun h => h)
    have hml := blk_lt q1
    simp (disch := first | omega | (simp only [size_alloc, size_set, heap_dr] <;> omega) | assumption | exact oneC_slice | exact oneC_int | exact oneC_bool | exact oneC_ptr | exact oneC_iface | exact oneC_nil | exact oneC_str | exact oneC_map | exact oneC_func | rfl) only [ck_ptr, gs_dec_pos, gs_dec_neg, bn_eql, oK_some, cell_eq, cellOf_some, heap_alloc_lt, heap_alloc_eq, heap_dr, bx_agg, List.getElem?_toArray, List.getElem?_cons_zero, List.getElem?_cons_succ, Nat.zero_add, true_and, and_true, eq_self, fa_35_0, ld_3, fa_48_0, fa_97_4, q1]
    generalize w.alloc (.cells #[.int .i64 7, .int .i64 wh, .int .i64 s, vh, vb] 35) = wA at k0 b35 hz hDA q1' ⊢
    refine meter_ok (hDA.kn Kp.refl.dr) ?_
    simp (disch := first | omega | (simp only [size_alloc, size_set, heap_dr] <;> omega) | assumption | exact oneC_slice | exact oneC_int | exact oneC_bool | exact oneC_ptr | exact oneC_iface | exact oneC_nil | exact oneC_str | exact oneC_map | exact oneC_func | rfl) only [ck_ptr, gs_true, bn_eql, oK_some, cell_eq, cellOf_some, heap_dr, List.getElem?_toArray, List.getElem?_cons_zero, List.getElem?_cons_succ, Nat.zero_add, true_and, and_true, eq_self, ld_3, fa_97_4, fa_97_2, ld_95, len_95, q1', decide_true]
    refine slots_ok (hDA.kn Kp.refl.dr) ?_
    simp (disch := first | omega | (simp only [size_alloc, size_set, heap_dr] <;> omega) | assumption | exact oneC_slice | exact oneC_int | exact oneC_bool | exact oneC_ptr | exact oneC_iface | exact oneC_nil | exact oneC_str | exact oneC_map | exact oneC_func | rfl) only [ck_ptr, pick_bool, gs_true, bn_eql, oK_some, cell_eq, cellOf_some, heap_dr, List.getElem?_toArray, List.getElem?_cons_zero, List.getElem?_cons_succ, Nat.zero_add, true_and, and_true, cond_true, eq_self, fa_97_2, ld_95, len_95, q1', decide_true]
    refine used_ok (hDA.kn Kp.refl.dr) fun u1 w1 k1 hu1 => ?_
    refine refUsed_ok ((hRb.kn k0).kn (Kp.refl.dr.trans k1)) fun u2 w2 k2 hu2 => ?_
    have hlen := hD.len
    refine sameInts_ok (hu1.kn k2).in hu2.in (by have := usedFrom_len (cl := cl) (i := cl.length); omega) fun w3 k3 => ?_
    simp (disch := first | omega | (simp only [size_alloc, size_set, heap_dr] <;> omega) | assumption | exact oneC_slice | exact oneC_int | exact oneC_bool | exact oneC_ptr | exact oneC_iface | exact oneC_nil | exact oneC_str | exact oneC_map | exact oneC_func | rfl) only [pick_bool, true_and, and_true, cond_true, eq_self, decide_true]
    exact same _ ((((k0.trans Kp.refl.dr).trans k1).trans k2).trans k3)
  · simp (disch := first | omega | (simp only [size_alloc, size_set, heap_dr] <;> omega) | assumption | exact oneC_slice | exact oneC_int | exact oneC_bool | exact oneC_ptr | exact oneC_iface | exact oneC_nil | exact oneC_str | exact oneC_map | exact oneC_func | rfl) only [gs_dec_neg, bn_eql, oK_some, cell_eq, cellOf_some, heap_alloc_eq, bx_agg, List.getElem?_toArray, List.getElem?_cons_zero, and_true, fa_35_0, ld_3]
    exact same _ k0
end Go.Proofs.YtfiakplgifimkaaDoor
