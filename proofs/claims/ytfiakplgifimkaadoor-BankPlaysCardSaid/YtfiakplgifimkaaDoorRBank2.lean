/- The document's bank: what goes to a drive. No statement of the seat is proved in this text. -/
import Derived.Test.YtfiakplgifimkaaDoorRBank
namespace Go.Proofs.YtfiakplgifimkaaDoor
open Go.TS
set_option maxRecDepth 20000

theorem getb_asks {f : Cel → List UInt8} {s : BS} {d sl : Int} (h : bRead s d sl = asks (bcl s d) sl) : getb f s d sl = getc f (bcl s d) sl := by
  unfold getb
  rw [h]
  split
  · rfl
  · rename_i hn; unfold getc; rw [if_neg hn]
section
variable {w : World} {b : Nat} {s : BS} {F : Nat → Prop} {d sl : Int} {K : Value → World → Prop}
theorem rHead_ok (h : RBankAt w b s F) (hK : ∀ v, By w v (getb Cel.head s d sl) F → K (.tuple #[v, .int .i64 (numOf (bRead s d sl))]) w) :
    call Tryd.prog 61 #[.pointer (some ⟨b, 0, none⟩), .int .i64 d, .int .i64 sl] w K := by
  refine F61_ok fun X h0 => ?_
  unfold F61_s
  refine rThere_ok h ?_
  cases ht : bThere s d sl with
  | some e =>
    have hr : bRead s d sl = some e := by unfold bRead; rw [ht]
    have hg : getb Cel.head s d sl = [] := by unfold getb; rw [hr]; rfl
    rw [hr, hg] at hK
    simp (disch := first | omega | (simp only [size_alloc, size_set, heap_dr] <;> omega) | assumption | exact oneC_slice | exact oneC_int | exact oneC_bool | exact oneC_ptr | exact oneC_iface | exact oneC_nil | exact oneC_str | exact oneC_map | exact oneC_func | rfl) only [pick_bool, gs_false, bn_eql, and_true, cond_false, shr_eq, numOf_ne]
    refine h0 _ _ _ _ _ ?_
    unfold F61_0
    simp (disch := first | omega | (simp only [size_alloc, size_set, heap_dr] <;> omega) | assumption | exact oneC_slice | exact oneC_int | exact oneC_bool | exact oneC_ptr | exact oneC_iface | exact oneC_nil | exact oneC_str | exact oneC_map | exact oneC_func | rfl) only [gs_true, bn_neq, and_true, numOf_ne, Bool.not_false]
    exact hK _ Bo.nil.by
  | none =>
    obtain ⟨i, j, hi, hj, rfl, rfl⟩ := bThere_none ht
    obtain ⟨dd, a, db, o, k, cs, Fi, h1, q4, qc, hD, hlen, hFi, upd⟩ := h.drive hi
    unfold bankCells at h1
    cases hdn : s.down with
    | true =>
      have hr : bRead s (i : Int) (j : Int) = some 4 := by unfold bRead; rw [ht, hdn]; rfl
      have hg : getb Cel.head s (i : Int) (j : Int) = [] := by unfold getb; rw [hr]; rfl
      rw [hr, hg] at hK
      simp only [num4] at hK
      rw [hdn] at h1
      simp (disch := first | omega | (simp only [size_alloc, size_set, heap_dr] <;> omega) | assumption | exact oneC_slice | exact oneC_int | exact oneC_bool | exact oneC_ptr | exact oneC_iface | exact oneC_nil | exact oneC_str | exact oneC_map | exact oneC_func | rfl) only [ck_ptr, pick_bool, gs_true, bn_eql, oK_some, cell_eq, cellOf_some, List.getElem?_toArray, List.getElem?_cons_zero, List.getElem?_cons_succ, Nat.zero_add, and_true, cond_true, eq_self, shr_eq, fa_85_3, ld_4, num0, h1, decide_true]
      refine h0 _ _ _ _ _ ?_
      unfold F61_0
      simp (disch := first | omega | (simp only [size_alloc, size_set, heap_dr] <;> omega) | assumption | exact oneC_slice | exact oneC_int | exact oneC_bool | exact oneC_ptr | exact oneC_iface | exact oneC_nil | exact oneC_str | exact oneC_map | exact oneC_func | rfl) only [gs_dec_neg, gs_not, bn_neq, and_true]
      exact hK _ Bo.nil.by
    | false =>
      have hr : bRead s (i : Int) (j : Int) = asks s.drives[i].2 j := by unfold bRead; rw [ht, hdn, bcl_in hi]; rfl
      have hg : getb Cel.head s (i : Int) (j : Int) = getc Cel.head s.drives[i].2 j := by rw [getb_asks (by rw [hr, bcl_in hi]), bcl_in hi]
      rw [hr, hg] at hK
      rw [hdn] at h1
      simp (disch := first | omega | (simp only [size_alloc, size_set, heap_dr] <;> omega) | assumption | exact oneC_slice | exact oneC_int | exact oneC_bool | exact oneC_ptr | exact oneC_iface | exact oneC_nil | exact oneC_str | exact oneC_map | exact oneC_func | rfl) only [ck_ptr, pick_bool, gs_true, gs_false, bn_eql, oK_some, cell_eq, cellOf_some, List.getElem?_toArray, List.getElem?_cons_zero, List.getElem?_cons_succ, Nat.zero_add, and_true, cond_true, eq_self, shr_eq, fa_85_3, ld_4, num0, h1, decide_true]
      refine h0 _ _ _ _ _ ?_
      unfold F61_0
      simp (disch := first | omega | (simp only [size_alloc, size_set, heap_dr] <;> omega) | assumption | exact oneC_slice | exact oneC_int | exact oneC_bool | exact oneC_ptr | exact oneC_iface | exact oneC_nil | exact oneC_str | exact oneC_map | exact oneC_func | rfl) only [ck_ptr, gs_false, bn_neq, oK_some, cell_eq, cellOf_some, List.getElem?_toArray, List.getElem?_cons_zero, Int.toNat_natCast, and_true, eq_self, fa_85_0, ld_83, ia_83, ld_56, decide_true, Bool.not_true, h1, q4, qc]
      refine refHead_ok hD fun v hv => ?_
      simp (disch := first | omega | (simp only [size_alloc, size_set, heap_dr] <;> omega) | assumption | exact oneC_slice | exact oneC_int | exact oneC_bool | exact oneC_ptr | exact oneC_iface | exact oneC_nil | exact oneC_str | exact oneC_map | exact oneC_func | rfl) only [ext_0, ext_1, and_true]
      exact hK v (hv.mono fun x hx => (hFi x hx).1)
theorem rBody_ok (h : RBankAt w b s F) (hK : ∀ v w', Kp F w w' → RBankAt w' b (bBody s d sl) (fun x => F x ∨ w.heap.size ≤ x) → By w' v (getb Cel.body s d sl) F → K (.tuple #[v, .int .i64 (numOf (bRead s d sl))]) w') :
    call Tryd.prog 62 #[.pointer (some ⟨b, 0, none⟩), .int .i64 d, .int .i64 sl] w K := by
  refine F62_ok fun X h0 => ?_
  unfold F62_s
  refine rThere_ok h ?_
  cases ht : bThere s d sl with
  | some e =>
    have hr : bRead s d sl = some e := by unfold bRead; rw [ht]
    have hg : getb Cel.body s d sl = [] := by unfold getb; rw [hr]; rfl
    have hW : bBody s d sl = s := by unfold bBody; rw [ht]; simp
    rw [hr, hg, hW] at hK
    simp (disch := first | omega | (simp only [size_alloc, size_set, heap_dr] <;> omega) | assumption | exact oneC_slice | exact oneC_int | exact oneC_bool | exact oneC_ptr | exact oneC_iface | exact oneC_nil | exact oneC_str | exact oneC_map | exact oneC_func | rfl) only [pick_bool, gs_false, bn_eql, and_true, cond_false, shr_eq, numOf_ne]
    refine h0 _ _ _ _ _ ?_
    unfold F62_0
    simp (disch := first | omega | (simp only [size_alloc, size_set, heap_dr] <;> omega) | assumption | exact oneC_slice | exact oneC_int | exact oneC_bool | exact oneC_ptr | exact oneC_iface | exact oneC_nil | exact oneC_str | exact oneC_map | exact oneC_func | rfl) only [gs_true, bn_neq, and_true, numOf_ne, Bool.not_false]
    exact hK _ _ .refl (h.mono fun x hx => .inl hx) Bo.nil.by
  | none =>
    obtain ⟨i, j, hi, hj, rfl, rfl⟩ := bThere_none ht
    obtain ⟨dd, a, db, o, k, cs, Fi, h1, q4, qc, hD, hlen, hFi, upd⟩ := h.drive hi
    unfold bankCells at h1
    cases hdn : s.down with
    | true =>
      have hr : bRead s (i : Int) (j : Int) = some 4 := by unfold bRead; rw [ht, hdn]; rfl
      have hg : getb Cel.body s (i : Int) (j : Int) = [] := by unfold getb; rw [hr]; rfl
      have hW : bBody s (i : Int) (j : Int) = s := by unfold bBody; rw [hdn]; simp
      rw [hr, hg, hW] at hK
      simp only [num4] at hK
      rw [hdn] at h1
      simp (disch := first | omega | (simp only [size_alloc, size_set, heap_dr] <;> omega) | assumption | exact oneC_slice | exact oneC_int | exact oneC_bool | exact oneC_ptr | exact oneC_iface | exact oneC_nil | exact oneC_str | exact oneC_map | exact oneC_func | rfl) only [ck_ptr, pick_bool, gs_true, bn_eql, oK_some, cell_eq, cellOf_some, List.getElem?_toArray, List.getElem?_cons_zero, List.getElem?_cons_succ, Nat.zero_add, and_true, cond_true, eq_self, shr_eq, fa_85_3, ld_4, num0, h1, decide_true]
      refine h0 _ _ _ _ _ ?_
      unfold F62_0
      simp (disch := first | omega | (simp only [size_alloc, size_set, heap_dr] <;> omega) | assumption | exact oneC_slice | exact oneC_int | exact oneC_bool | exact oneC_ptr | exact oneC_iface | exact oneC_nil | exact oneC_str | exact oneC_map | exact oneC_func | rfl) only [gs_dec_neg, gs_not, bn_neq, and_true]
      exact hK _ _ .refl (h.mono fun x hx => .inl hx) Bo.nil.by
    | false =>
      have hr : bRead s (i : Int) (j : Int) = asks s.drives[i].2 j := by unfold bRead; rw [ht, hdn, bcl_in hi]; rfl
      have hg : getb Cel.body s (i : Int) (j : Int) = getc Cel.body s.drives[i].2 j := by rw [getb_asks (by rw [hr, bcl_in hi]), bcl_in hi]
      have hW : bBody s (i : Int) (j : Int) = { s with drives := s.drives.set i (IntKind.i64.wrap (s.drives[i].1 + (getc Cel.body s.drives[i].2 (j : Int)).length), s.drives[i].2) } := by
        unfold bBody; rw [ht, hdn, if_pos ⟨rfl, rfl⟩, brd_in hi, bcl_in hi, Int.toNat_natCast]
      rw [hr, hg, hW] at hK
      have h1' := h1
      rw [hdn] at h1'
      simp (disch := first | omega | (simp only [size_alloc, size_set, heap_dr] <;> omega) | assumption | exact oneC_slice | exact oneC_int | exact oneC_bool | exact oneC_ptr | exact oneC_iface | exact oneC_nil | exact oneC_str | exact oneC_map | exact oneC_func | rfl) only [ck_ptr, pick_bool, gs_true, gs_false, bn_eql, oK_some, cell_eq, cellOf_some, List.getElem?_toArray, List.getElem?_cons_zero, List.getElem?_cons_succ, Nat.zero_add, and_true, cond_true, eq_self, shr_eq, fa_85_3, ld_4, num0, h1', decide_true]
      refine h0 _ _ _ _ _ ?_
      unfold F62_0
      simp (disch := first | omega | (simp only [size_alloc, size_set, heap_dr] <;> omega) | assumption | exact oneC_slice | exact oneC_int | exact oneC_bool | exact oneC_ptr | exact oneC_iface | exact oneC_nil | exact oneC_str | exact oneC_map | exact oneC_func | rfl) only [ck_ptr, gs_false, bn_neq, oK_some, cell_eq, cellOf_some, List.getElem?_toArray, List.getElem?_cons_zero, Int.toNat_natCast, and_true, eq_self, fa_85_0, ld_83, ia_83, ld_56, decide_true, Bool.not_true, h1', q4, qc]
      refine refBody_ok hD fun v w' hk hD' hv => ?_
      simp (disch := first | omega | (simp only [size_alloc, size_set, heap_dr] <;> omega) | assumption | exact oneC_slice | exact oneC_int | exact oneC_bool | exact oneC_ptr | exact oneC_iface | exact oneC_nil | exact oneC_str | exact oneC_map | exact oneC_func | rfl) only [ext_0, ext_1, and_true]
      obtain ⟨_, _, _, _, _, _, _, f0, _⟩ := RefAt.ex hD
      exact hK v w' (hk.mono fun x hx => hx ▸ (hFi _ f0).1) (upd w' a _ _ _ hk (fun x hx => hx ▸ f0) (hD'.mono fun x hx => .inl hx) hlen) (hv.mono fun x hx => (hFi x hx).1)
theorem rLook_ok (h : RBankAt w b s F) (hK : ∀ vh vb w', Kp none_ w w' → By w' vh (getbl Cel.head s d sl) F → By w' vb (getbl Cel.body s d sl) F → K (.tuple #[.agg #[vh, vb], .bool (bFull s d sl)]) w') :
    call Tryd.prog 63 #[.pointer (some ⟨b, 0, none⟩), .int .i64 d, .int .i64 sl] w K := by
  have ka : Kp none_ w (w.alloc (.cells #[.slice none 0 0, .slice none 0 0] 33)) := Kp.refl.alloc _
  refine F63_ok ?_
  unfold F63
  simp (disch := first | omega | (simp only [size_alloc, size_set, heap_dr] <;> omega) | assumption | exact oneC_slice | exact oneC_int | exact oneC_bool | exact oneC_ptr | exact oneC_iface | exact oneC_nil | exact oneC_str | exact oneC_map | exact oneC_func | rfl) only [and_true, alc_33]
  refine rThere_ok (h.kn ka) ?_
  cases ht : bThere s d sl with
  | some e =>
    have hf : bFull s d sl = false := by unfold bFull; rw [ht]; rfl
    have hg : ∀ f, getbl f s d sl = [] := fun f => by unfold getbl; rw [hf]; rfl
    rw [hf, hg, hg] at hK
    simp (disch := first | omega | (simp only [size_alloc, size_set, heap_dr] <;> omega) | assumption | exact oneC_slice | exact oneC_int | exact oneC_bool | exact oneC_ptr | exact oneC_iface | exact oneC_nil | exact oneC_str | exact oneC_map | exact oneC_func | rfl) only [gs_true, bn_neq, oK_some, cell_eq, frozen_eq, cellOf_some, frozenOf_some, setOf_some, heap_set_same, heap_alloc_eq, stc, resCell_eq, List.getElem?_toArray, List.getElem?_cons_zero, List.getElem?_cons_succ, List.setIfInBounds_toArray, List.set_cons_zero, List.set_cons_succ, Nat.zero_add, Nat.add_zero, true_and, and_true, Bool.false_eq_true, if_false, eq_self, bld_33, st_33, ld_33, numOf_ne, Bool.not_false]
    have hset : Kp (fun x => x = w.heap.size) (w.alloc (.cells #[.slice none 0 0, .slice none 0 0] 33)) (((w.alloc (.cells #[.slice none 0 0, .slice none 0 0] 33)).setCell ⟨w.heap.size, 0, none⟩ (.slice none 0 0)).setCell ⟨w.heap.size, 1, none⟩ (.slice none 0 0)) := Kp.set1.trans Kp.set1
    exact hK _ _ _ (ka.trans' hset fun x hx => .inr (by omega)) Bo.nil.by Bo.nil.by
  | none =>
    obtain ⟨i, j, hi, hj, rfl, rfl⟩ := bThere_none ht
    obtain ⟨dd, a, db, o, k, cs, Fi, h1, q4, qc, hD, hlen, hFi, upd⟩ := h.drive hi
    unfold bankCells at h1
    have hbl := blk_lt h1
    have hdl := blk_lt q4
    have hf : bFull s (i : Int) (j : Int) = isFull s.drives[i].2 j := by unfold bFull; rw [ht, bcl_in hi]; rfl
    have hg : ∀ f, getbl f s (i : Int) (j : Int) = getl f s.drives[i].2 j := fun f => by
      unfold getbl
      rw [hf, bcl_in hi]
      split
      · rfl
      · rename_i hn; unfold getl; rw [if_neg hn]
    rw [hf, hg, hg] at hK
    simp (disch := first | omega | (simp only [size_alloc, size_set, heap_dr] <;> omega) | assumption | exact oneC_slice | exact oneC_int | exact oneC_bool | exact oneC_ptr | exact oneC_iface | exact oneC_nil | exact oneC_str | exact oneC_map | exact oneC_func | rfl) only [ck_ptr, gs_false, bn_neq, oK_some, cell_eq, cellOf_some, heap_alloc_lt, List.getElem?_toArray, List.getElem?_cons_zero, Int.toNat_natCast, and_true, eq_self, fa_85_0, ld_83, ia_83, ld_56, num0, decide_true, Bool.not_true, h1, q4, qc]
    refine refLook_ok (hD.bound.kn ka) fun vh vb w1 hk hvh hvb => ?_
    have bw := hk.blk (heap_alloc_eq (w := w) (o := .cells #[.slice none 0 0, .slice none 0 0] 33) rfl) (fun h => h)
    have e1 := hvh.one
    have e2 := hvb.one
    simp (disch := first | omega | (simp only [size_alloc, size_set, heap_dr] <;> omega) | assumption | exact oneC_slice | exact oneC_int | exact oneC_bool | exact oneC_ptr | exact oneC_iface | exact oneC_nil | exact oneC_str | exact oneC_map | exact oneC_func | rfl) only [ext_0, ext_1, oK_some, cell_eq, frozen_eq, cellOf_some, frozenOf_some, setOf_some, heap_set_same, stc, resCell_eq, List.getElem?_toArray, List.getElem?_cons_zero, List.getElem?_cons_succ, List.setIfInBounds_toArray, List.set_cons_zero, List.set_cons_succ, Nat.zero_add, Nat.add_zero, true_and, and_true, Bool.false_eq_true, if_false, eq_self, st_33, ld_33, bw]
    have hset : Kp (fun x => x = w.heap.size) w1 ((w1.setCell ⟨w.heap.size, 0, none⟩ vh).setCell ⟨w.heap.size, 1, none⟩ vb) := Kp.set1.trans Kp.set1
    exact hK _ _ _ ((ka.trans hk).trans' hset fun x hx => .inr (by omega)) ((hvh.kp hset fun x hx hx' => by omega).mono fun x hx => (hFi x hx.1).1) ((hvb.kp hset fun x hx hx' => by omega).mono fun x hx => (hFi x hx.1).1)
theorem rWipe_ok (h : RBankAt w b s F) (hs : 0 < s.slots) (hK : ∀ w', Kp F w w' → RBankAt w' b (bWipe s d).1 (fun x => F x ∨ w.heap.size ≤ x) → K (.int .i64 (numOf (bWipe s d).2)) w') :
    call Tryd.prog 64 #[.pointer (some ⟨b, 0, none⟩), .int .i64 d] w K := by
  obtain ⟨dd0, a0, Fr0, v0, Fd0, g1, g2, _⟩ := h.ex
  obtain ⟨av, cv, rfl⟩ := g2.val
  unfold bankCells at g1
  refine F64_ok ?_
  unfold F64
  by_cases c1 : d < 0 ∨ s.drives.length ≤ d
  · have ht : bThere s d 0 = some 5 := by unfold bThere; rw [if_pos c1]
    have hW : bWipe s d = (s, some 5) := by unfold bWipe; rw [ht]
    rw [hW] at hK
    simp only [num5] at hK
    by_cases c2 : d < 0
    · simp (disch := first | omega | (simp only [size_alloc, size_set, heap_dr] <;> omega) | assumption | exact oneC_slice | exact oneC_int | exact oneC_bool | exact oneC_ptr | exact oneC_iface | exact oneC_nil | exact oneC_str | exact oneC_map | exact oneC_func | rfl) only [pick_bool, gs_true, gs_dec_pos, bn_lss, and_true, cond_true, shr_eq]
      exact hK _ .refl (h.mono fun x hx => .inl hx)
    · have c3 : (s.drives.length : Int) ≤ d := c1.resolve_left c2
      simp (disch := first | omega | (simp only [size_alloc, size_set, heap_dr] <;> omega) | assumption | exact oneC_slice | exact oneC_int | exact oneC_bool | exact oneC_ptr | exact oneC_iface | exact oneC_nil | exact oneC_str | exact oneC_map | exact oneC_func | rfl) only [ck_ptr, pick_bool, gs_dec_pos, gs_dec_neg, bn_lss, bn_geq, oK_some, cell_eq, cellOf_some, List.getElem?_toArray, List.getElem?_cons_zero, and_true, cond_false, shr_eq, fa_85_0, ld_83, len_83, g1]
      exact hK _ .refl (h.mono fun x hx => .inl hx)
  · have c2 : ¬ d < 0 := fun h => c1 (.inl h)
    have c3 : ¬ (s.drives.length : Int) ≤ d := fun h => c1 (.inr h)
    have ht : bThere s d 0 = none := by unfold bThere; rw [if_neg c1, if_neg (by omega)]
    obtain ⟨i, j, hi, hj, rfl, hj0⟩ := bThere_none ht
    obtain ⟨dd, a, db, o, k, cs, Fi, h1, q4, qc, hD, hlen, hFi, upd⟩ := h.drive hi
    unfold bankCells at h1
    have hW : bWipe s (i : Int) = ({ s with drives := s.drives.set i (s.drives[i].1, empties s.drives[i].2.length) }, none) := by unfold bWipe; rw [ht, bcl_in hi, brd_in hi, Int.toNat_natCast]
    rw [hW] at hK
    simp only [num0] at hK
    simp (disch := first | omega | (simp only [size_alloc, size_set, heap_dr] <;> omega) | assumption | exact oneC_slice | exact oneC_int | exact oneC_bool | exact oneC_ptr | exact oneC_iface | exact oneC_nil | exact oneC_str | exact oneC_map | exact oneC_func | rfl) only [ck_ptr, pick_bool, gs_dec_neg, bn_lss, bn_geq, oK_some, cell_eq, cellOf_some, List.getElem?_toArray, List.getElem?_cons_zero, Int.toNat_natCast, and_true, cond_false, shr_eq, fa_85_0, ld_83, len_83, ia_83, ld_56, h1, q4, qc]
    refine refWipe_ok hD fun w' hk hD' => ?_
    exact hK _ (hk.mono fun x hx => (hFi x hx).1) (upd w' a _ _ _ hk (fun x hx => hx) hD' (by simpa [empties] using hlen))
theorem rSpoil_ok (h : RBankAt w b s F) (hK : ∀ w', Kp F w w' → RBankAt w' b (bSpoil s d sl).1 (fun x => F x ∨ w.heap.size ≤ x) → K (.int .i64 (numOf (bSpoil s d sl).2)) w') :
    call Tryd.prog 65 #[.pointer (some ⟨b, 0, none⟩), .int .i64 d, .int .i64 sl] w K := by
  refine F65_ok ?_
  unfold F65
  refine rThere_ok h ?_
  cases ht : bThere s d sl with
  | some e =>
    have hW : bSpoil s d sl = (s, some e) := by unfold bSpoil; rw [ht]
    rw [hW] at hK
    simp (disch := first | omega | (simp only [size_alloc, size_set, heap_dr] <;> omega) | assumption | exact oneC_slice | exact oneC_int | exact oneC_bool | exact oneC_ptr | exact oneC_iface | exact oneC_nil | exact oneC_str | exact oneC_map | exact oneC_func | rfl) only [gs_true, bn_neq, and_true, numOf_ne, Bool.not_false]
    exact hK _ .refl (h.mono fun x hx => .inl hx)
  | none =>
    obtain ⟨i, j, hi, hj, rfl, rfl⟩ := bThere_none ht
    obtain ⟨dd, a, db, o, k, cs, Fi, h1, q4, qc, hD, hlen, hFi, upd⟩ := h.drive hi
    unfold bankCells at h1
    have hW : bSpoil s (i : Int) (j : Int) = ({ s with drives := s.drives.set i (s.drives[i].1, spoilt s.drives[i].2 j) }, none) := by unfold bSpoil; rw [ht, bcl_in hi, brd_in hi, Int.toNat_natCast]
    have hin : inr s.drives[i].2 (j : Int) = true := decide_eq_true (by rw [hlen]; omega)
    rw [hW] at hK
    simp (disch := first | omega | (simp only [size_alloc, size_set, heap_dr] <;> omega) | assumption | exact oneC_slice | exact oneC_int | exact oneC_bool | exact oneC_ptr | exact oneC_iface | exact oneC_nil | exact oneC_str | exact oneC_map | exact oneC_func | rfl) only [ck_ptr, gs_false, bn_neq, oK_some, cell_eq, cellOf_some, List.getElem?_toArray, List.getElem?_cons_zero, Int.toNat_natCast, and_true, eq_self, fa_85_0, ld_83, ia_83, ld_56, num0, decide_true, Bool.not_true, h1, q4, qc]
    refine refSpoil_ok hD fun w' hk hD' => ?_
    rw [hin]
    exact hK _ (hk.mono fun x hx => (hFi x hx).1) (upd w' a _ _ _ hk (fun x hx => hx) (hD'.mono fun x hx => .inl hx) (by unfold spoilt; split <;> simpa using hlen))
theorem rMeter_ok (h : RBankAt w b s F) (hK : K (.int .i64 (bankMeter s)) w) : call Tryd.prog 68 #[.pointer (some ⟨b, 0, none⟩)] w K := by
  obtain ⟨dd, a, Fr, v, Fd, h1, h2, h3, h4, h5, h6⟩ := h.ex
  obtain ⟨av, cv, rfl⟩ := h2.val
  unfold bankCells at h1
  have hn := h.n16
  refine F68_ok fun X h0 => ?_
  have loop : ∀ (m i : Nat) (acc : Int), i + m = s.drives.length → (s.drives.drop i).foldl (fun acc p => IntKind.i64.wrap (acc + p.1)) acc = bankMeter s → X 0 [.int .i64 acc, .slice av s.drives.length cv, .int .i64 s.drives.length, .int .i64 i] w := by
    intro m
    induction m with
    | zero =>
      intro i acc hi hf
      obtain rfl : i = s.drives.length := by omega
      refine h0 _ _ _ _ _ ?_
      unfold F68_0
      simp (disch := first | omega | (simp only [size_alloc, size_set, heap_dr] <;> omega) | assumption | exact oneC_slice | exact oneC_int | exact oneC_bool | exact oneC_ptr | exact oneC_iface | exact oneC_nil | exact oneC_str | exact oneC_map | exact oneC_func | rfl) only [gs_dec_neg, bn_lss, and_true]
      rw [List.drop_length] at hf
      rw [← hf] at hK
      exact hK
    | succ m ih =>
      intro i acc hi hf
      have hil : i < s.drives.length := by omega
      obtain ⟨db, o, k, cs, e1, _, _, _, q4, _, q6⟩ := h2.open_ (by intro hn; have := ptrs_len (d := dd) (n := s.drives.length); rw [hn] at this; simp at this; omega)
      cases e1
      have hc : cs[o + i]? = some (.pointer (some ⟨dd i, 0, none⟩)) := (q6 i (by rw [ptrs_len]; exact hil)).trans (ptrs_get hil)
      obtain ⟨_, _, _, _, r1, _⟩ := RefAt.ex (h4 i hil).1
      refine h0 _ _ _ _ _ ?_
      unfold F68_0
      rw [List.drop_eq_getElem_cons hil, List.foldl_cons] at hf
      have hw : IntKind.i64.wrap ((i : Int) + 1) = ((i + 1 : Nat) : Int) := wrap64 (by omega) (by omega)
      simp (disch := first | omega | (simp only [size_alloc, size_set, heap_dr] <;> omega) | assumption | exact oneC_slice | exact oneC_int | exact oneC_bool | exact oneC_ptr | exact oneC_iface | exact oneC_nil | exact oneC_str | exact oneC_map | exact oneC_func | rfl) only [ck_ptr, gs_dec_pos, bn_add, bn_lss, oK_some, cell_eq, cellOf_some, List.getElem?_toArray, List.getElem?_cons_zero, List.getElem?_cons_succ, Nat.zero_add, Int.toNat_natCast, and_true, ia_83, ld_56, fa_97_4, ld_3, q4, hc, r1, hw]
      exact ih (i + 1) _ (by omega) hf
  unfold F68_s
  simp (disch := first | omega | (simp only [size_alloc, size_set, heap_dr] <;> omega) | assumption | exact oneC_slice | exact oneC_int | exact oneC_bool | exact oneC_ptr | exact oneC_iface | exact oneC_nil | exact oneC_str | exact oneC_map | exact oneC_func | rfl) only [ck_ptr, oK_some, cell_eq, cellOf_some, List.getElem?_toArray, List.getElem?_cons_zero, and_true, fa_85_0, ld_83, len_83, h1]
  exact loop s.drives.length 0 0 (by omega) (by rw [List.drop_zero]; rfl)
end
end Go.Proofs.YtfiakplgifimkaaDoor
