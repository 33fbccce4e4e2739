/- Contracts of package disk, third part: Look, Slots, Used. No statement of the seat is proved in this text. -/
import Derived.Test.YtfiakplgifimkaaDoorErr
namespace Go.Proofs.YtfiakplgifimkaaDoor
open Go.TS
set_option maxRecDepth 20000

/-- Does a slot hold a block? -/
def isFull (cl : List Cel) (s : Int) : Bool := if h : 0 ≤ s ∧ s < cl.length then (cl[s.toNat]'(by omega)).full else false
def getl (f : Cel → List UInt8) (cl : List Cel) (s : Int) : List UInt8 := if isFull cl s then ((cl[s.toNat]?).map f).getD [] else []
theorem isFull_in {cl : List Cel} {i : Nat} (hi : i < cl.length) : isFull cl (i : Int) = cl[i].full := by
  unfold isFull
  rw [dif_pos ⟨by omega, by omega⟩]
  simp only [Int.toNat_natCast]
theorem isFull_out {cl : List Cel} {s : Int} (h : ¬ (0 ≤ s ∧ s < cl.length)) : isFull cl s = false := by unfold isFull; rw [dif_neg h]

/-- Look. -/
theorem look_ok {w : World} {d a : Nat} {rd : Int} {cl : List Cel} {F : Nat → Prop} {s : Int} {K : Value → World → Prop} (h : DriveAt w d a rd cl F)
    (hK : ∀ vh vb w' m, Kp none_ w w' → w.heap.size ≤ m → Bo w' vh (getl Cel.head cl s) (fun b => w.heap.size ≤ b ∧ b < m) → Bo w' vb (getl Cel.body cl s) (fun b => m ≤ b) → K (.tuple #[.agg #[vh, vb], .bool (isFull cl s)]) w') :
    call Tryd.prog 18 #[.pointer (some ⟨d, 0, none⟩), .int .i64 s] w K := by
  have hd := h.blk
  have hdl := blk_lt hd
  have hka : Kp none_ w (w.alloc (.cells #[.slice none 0 0, .slice none 0 0] 33)) := Kp.refl.alloc _
  have hfin : isFull cl s = false → ∀ W : World, Kp (fun x => x = w.heap.size) (w.alloc (.cells #[.slice none 0 0, .slice none 0 0] 33)) W → K (.tuple #[.agg #[.slice none 0 0, .slice none 0 0], .bool false]) W := by
    intro hg W hW
    have := hK (.slice none 0 0) (.slice none 0 0) W w.heap.size (hka.trans' hW fun x hx => .inr (by omega)) (Nat.le_refl _)
    unfold getl at this
    rw [hg] at this
    exact this Bo.nil Bo.nil
  refine F18_ok fun X h0 => ?_
  unfold F18_s
  simp (disch := first | omega | (simp only [size_alloc, size_set, heap_dr] <;> omega) | assumption | exact oneC_slice | exact oneC_int | exact oneC_bool | exact oneC_ptr | exact oneC_iface | exact oneC_nil | exact oneC_str | exact oneC_map | exact oneC_func | rfl) only [and_true, alc_33]
  refine has_ok (h.kp hka fun _ _ h => h) ?_
  by_cases hs : 0 ≤ s ∧ s < cl.length
  · obtain ⟨i, rfl⟩ := Int.eq_ofNat_of_zero_le hs.1
    have hi : i < cl.length := by omega
    obtain ⟨cs, hc1, hc2, hc3⟩ := h.cells
    have hcl := blk_lt hc1
    obtain ⟨vh, vb, g1, g2, g3, g4, g5, g6⟩ := hc3 i hi
    rw [isFull_in hi] at hfin
    simp (disch := first | omega | (simp only [size_alloc, size_set, heap_dr] <;> omega) | assumption | exact oneC_slice | exact oneC_int | exact oneC_bool | exact oneC_ptr | exact oneC_iface | exact oneC_nil | exact oneC_str | exact oneC_map | exact oneC_func | rfl) only [ck_ptr, pick_bool, gs_dec_pos, gs_not, un_not, oK_some, cell_eq, cellOf_some, heap_alloc_lt, List.getElem?_toArray, List.getElem?_cons_zero, List.getElem?_cons_succ, Nat.zero_add, Int.toNat_natCast, and_true, cond_false, shr_eq, fa_48_1, ld_46, ia_46, fa_89_1, ld_4, hd, hc1, g3]
    refine h0 _ _ _ _ _ ?_
    unfold F18_0
    cases hf : cl[i].full with
    | false =>
      simp (disch := first | omega | (simp only [size_alloc, size_set, heap_dr] <;> omega) | assumption | exact oneC_slice | exact oneC_int | exact oneC_bool | exact oneC_ptr | exact oneC_iface | exact oneC_nil | exact oneC_str | exact oneC_map | exact oneC_func | rfl) only [gs_true, oK_some, cell_eq, frozen_eq, cellOf_some, frozenOf_some, setOf_some, heap_set_same, heap_alloc_eq, stc, resCell_eq, List.getElem?_toArray, List.getElem?_cons_zero, List.getElem?_cons_succ, List.setIfInBounds_toArray, List.set_cons_zero, List.set_cons_succ, Nat.zero_add, Nat.add_zero, true_and, and_true, Bool.false_eq_true, if_false, eq_self, bld_33, st_33, ld_33, Bool.not_false]
      exact hfin hf _ (Kp.set1.trans Kp.set1)
    | true =>
      simp (disch := first | omega | (simp only [size_alloc, size_set, heap_dr] <;> omega) | assumption | exact oneC_slice | exact oneC_int | exact oneC_bool | exact oneC_ptr | exact oneC_iface | exact oneC_nil | exact oneC_str | exact oneC_map | exact oneC_func | rfl) only [ck_ptr, gs_false, oK_some, cell_eq, cellOf_some, heap_alloc_lt, List.getElem?_toArray, List.getElem?_cons_zero, List.getElem?_cons_succ, Nat.zero_add, Int.toNat_natCast, and_true, fa_48_1, ld_46, ia_46, fa_89_0, ld_33, hd, hc1, g1, g2, Bool.not_true]
      refine copied_ok (g5.by.kp hka fun _ _ h => h) (g6.by.kp hka fun _ _ h => h) fun vh' vb' w' m hk hm hoh hob => ?_
      have hw : w'.heap[w.heap.size]? = some (.cells #[.slice none 0 0, .slice none 0 0] 33 (0, 0)) := hk.blk (heap_alloc_eq rfl) (fun h => h)
      have e1 := hoh.by.one
      have e2 := hob.by.one
      simp (disch := first | omega | (simp only [size_alloc, size_set, heap_dr] <;> omega) | assumption | exact oneC_slice | exact oneC_int | exact oneC_bool | exact oneC_ptr | exact oneC_iface | exact oneC_nil | exact oneC_str | exact oneC_map | exact oneC_func | rfl) only [oK_some, cell_eq, frozen_eq, cellOf_some, frozenOf_some, setOf_some, heap_set_same, stc, resCell_eq, List.getElem?_toArray, List.getElem?_cons_zero, List.getElem?_cons_succ, List.setIfInBounds_toArray, List.set_cons_zero, List.set_cons_succ, Nat.zero_add, Nat.add_zero, true_and, and_true, Bool.false_eq_true, if_false, eq_self, st_33, ld_33, hw]
      rw [size_alloc] at hm
      have hset : Kp (fun x => x = w.heap.size) w' ((w'.setCell ⟨w.heap.size, 0, none⟩ vh').setCell ⟨w.heap.size, 1, none⟩ vb') := Kp.set1.trans Kp.set1
      have hg : ∀ f : Cel → List UInt8, getl f cl (i : Int) = f cl[i] := fun f => by
        unfold getl; rw [isFull_in hi]; simp [hf, hi]
      have := hK vh' vb' _ m ((hka.trans hk).trans' hset fun x hx => .inr (by omega)) (by omega)
      rw [hg, hg, isFull_in hi, hf] at this
      exact this ((hoh.kp hset fun b h1 h2 => by rw [size_alloc] at h1; omega).mono fun b h1 => by rw [size_alloc] at h1; omega) (hob.kp hset fun b h1 h2 => by omega)
  · have hn := isFull_out hs
    simp (disch := first | omega | (simp only [size_alloc, size_set, heap_dr] <;> omega) | assumption | exact oneC_slice | exact oneC_int | exact oneC_bool | exact oneC_ptr | exact oneC_iface | exact oneC_nil | exact oneC_str | exact oneC_map | exact oneC_func | rfl) only [pick_bool, gs_dec_neg, gs_not, un_not, and_true, cond_true, shr_eq]
    refine h0 _ _ _ _ _ ?_
    unfold F18_0
    simp (disch := first | omega | (simp only [size_alloc, size_set, heap_dr] <;> omega) | assumption | exact oneC_slice | exact oneC_int | exact oneC_bool | exact oneC_ptr | exact oneC_iface | exact oneC_nil | exact oneC_str | exact oneC_map | exact oneC_func | rfl) only [gs_true, oK_some, cell_eq, frozen_eq, cellOf_some, frozenOf_some, setOf_some, heap_set_same, heap_alloc_eq, stc, resCell_eq, List.getElem?_toArray, List.getElem?_cons_zero, List.getElem?_cons_succ, List.setIfInBounds_toArray, List.set_cons_zero, List.set_cons_succ, Nat.zero_add, Nat.add_zero, true_and, and_true, Bool.false_eq_true, if_false, eq_self, bld_33, st_33, ld_33]
    exact hfin hn _ (Kp.set1.trans Kp.set1)

/-- Slots. -/
theorem slots_ok {w : World} {d a : Nat} {rd : Int} {cl : List Cel} {F : Nat → Prop} {K : Value → World → Prop} (h : DriveAt w d a rd cl F) (hK : K (.int .i64 cl.length) w) : call Tryd.prog 56 #[.pointer (some ⟨d, 0, none⟩)] w K := by
  have hd := h.blk
  refine F56_ok ?_
  unfold F56
  simp (disch := first | omega | (simp only [size_alloc, size_set, heap_dr] <;> omega) | assumption | exact oneC_slice | exact oneC_int | exact oneC_bool | exact oneC_ptr | exact oneC_iface | exact oneC_nil | exact oneC_str | exact oneC_map | exact oneC_func | rfl) only [ck_ptr, oK_some, cell_eq, cellOf_some, List.getElem?_toArray, List.getElem?_cons_zero, List.getElem?_cons_succ, Nat.zero_add, and_true, fa_48_1, ld_46, len_46, hd]
  exact hK

/-! ### Lists of numbers -/
def ints (is : List Int) : List Value := is.map (.int .i64)
theorem ints_len {is : List Int} : (ints is).length = is.length := by simp [ints]
theorem ints_one {is : List Int} : ∀ x ∈ ints is, oneC x = true := by intro x hx; obtain ⟨b, _, rfl⟩ := List.mem_map.1 hx; rfl
/-- Numbers that can be read at v; numbers of one's own. -/
def In (w : World) (v : Value) (is : List Int) (F : Nat → Prop) : Prop := Rd w 3 1 v is.length (ints is) F
def Io (w : World) (v : Value) (is : List Int) (F : Nat → Prop) : Prop := Own w 3 1 v is.length (ints is) F
theorem Io.in {w : World} {v : Value} {is : List Int} {F : Nat → Prop} (h : Io w v is F) : In w v is F := h.rd
theorem In.val {w : World} {v : Value} {is : List Int} {F : Nat → Prop} (h : In w v is F) : ∃ a c, v = .slice a is.length c := by obtain ⟨a, c, h, _⟩ := h; exact ⟨a, c, h⟩
/-- One number behind the others. -/
theorem app1_ok {w : World} {v : Value} {is : List Int} {x : Int} {F : Nat → Prop} {K : Value → World → Prop} {tx : Nat} (h : Io w v is F) (hl : is.length < 17592186044000) (ht : Tryd.prog.underlying tx = some (.slice 3))
    (hK : ∀ v' w', Kp F w w' → Io w' v' (is ++ [x]) (fun b => F b ∨ w.heap.size ≤ b) → K v' w') : bsl Tryd.prog tx 1 [(0, .int .i64 x)] w (fun t w => bAppend Tryd.prog #[tx, tx] tx [v, t] w K) := by
  have hb := bsl_vals (w := w) (K := fun t w => bAppend Tryd.prog #[tx, tx] tx [v, t] w K) (P := Tryd.prog) (e := 3) (n := 1) (vs := [.int .i64 x]) (z := .int .i64 0) ht (by kernel_rfl) (by kernel_rfl) rfl (by simp) (by omega) (by omega) (by simp [oneC])
  simp only [List.zipIdx_cons, List.zipIdx_nil, List.map_cons, List.map_nil] at hb
  rw [hb]
  have hk : Kp none_ w (w.alloc (.cells #[.int .i64 x] 3)) := Kp.refl.alloc _
  have ho := h.bound.kp hk fun _ _ h => h
  have hr : Rd (w.alloc (.cells #[.int .i64 x] 3)) 3 1 (.slice (some ⟨w.heap.size, 0, none⟩) 1 1) 1 [.int .i64 x] (fun b => b = w.heap.size) := (Own.made (n := 1) (sz := 1) (F := fun b => b = w.heap.size) (cs := #[.int .i64 x]) (heap_alloc_eq rfl) rfl rfl (by simp [oneC])).rd
  refine app_ok (e := 3) (sz := 1) (z := .int .i64 0) (by_ := 8) ht ht (by kernel_rfl) (by kernel_rfl) (by kernel_rfl) rfl (by omega) ho hr (by omega) (by omega) fun v' w' hk' hn => ?_
  refine hK v' w' ((hk.ofNone).trans' hk' fun b hb => .inl hb.1) ?_
  have e1 : ints (is ++ [x]) = ints is ++ [.int .i64 x] := by simp [ints]
  unfold Io
  rw [e1]
  simpa using hn.mono fun b hb => by
    rcases hb with h | h
    · exact .inl h.1
    · rw [size_alloc] at h; exact .inr (by omega)

/-- The slots that hold a block, from one on. -/
def usedFrom (cl : List Cel) (i : Nat) : List Int := ((List.range i).filter fun (j : Nat) => isFull cl (j : Int)).map fun (j : Nat) => (j : Int)
theorem usedFrom_succ {cl : List Cel} {i : Nat} : usedFrom cl (i + 1) = usedFrom cl i ++ (if isFull cl (i : Int) then [(i : Int)] else []) := by
  unfold usedFrom
  rw [List.range_succ, List.filter_append, List.map_append]
  cases h : isFull cl (i : Int) <;> simp [h]
theorem usedFrom_len {cl : List Cel} {i : Nat} : (usedFrom cl i).length ≤ i := by
  unfold usedFrom
  rw [List.length_map]
  exact Nat.le_trans (List.length_filter_le _ _) (by simp)

/-- Used. -/
theorem used_ok {w : World} {d a : Nat} {rd : Int} {cl : List Cel} {F : Nat → Prop} {K : Value → World → Prop} (h : DriveAt w d a rd cl F)
    (hK : ∀ v w', Kp none_ w w' → Io w' v (usedFrom cl cl.length) (fun b => w.heap.size ≤ b) → K v w') : call Tryd.prog 22 #[.pointer (some ⟨d, 0, none⟩)] w K := by
  have hd := h.blk
  have hlen := h.len
  refine F22_ok fun X h0 => ?_
  have loop : ∀ (m i : Nat) (v : Value) (w1 : World), i + m = cl.length → Kp none_ w w1 → Io w1 v (usedFrom cl i) (fun b => w.heap.size ≤ b) → X 0 [v, .slice (some ⟨a, 0, none⟩) cl.length cl.length, .int .i64 cl.length, .int .i64 i] w1 := by
    intro m
    induction m with
    | zero =>
      intro i v w1 hi hk ho
      obtain rfl : i = cl.length := by omega
      refine h0 _ _ _ _ _ ?_
      unfold F22_0
      simp (disch := first | omega | (simp only [size_alloc, size_set, heap_dr] <;> omega) | assumption | exact oneC_slice | exact oneC_int | exact oneC_bool | exact oneC_ptr | exact oneC_iface | exact oneC_nil | exact oneC_str | exact oneC_map | exact oneC_func | rfl) only [gs_dec_neg, bn_lss, and_true]
      exact hK v w1 hk ho
    | succ m ih =>
      intro i v w1 hi hk ho
      have hil : i < cl.length := by omega
      have h1 := h.kp hk fun _ _ h => h
      obtain ⟨cs, hc1, hc2, hc3⟩ := h1.cells
      obtain ⟨vh, vb, g1, g2, g3, g4, g5, g6⟩ := hc3 i hil
      have hcl := blk_lt hc1
      have e1 := g5.by.one
      have e2 := g6.by.one
      refine h0 _ _ _ _ _ ?_
      unfold F22_0
      have hw1 : Kp none_ w1 (w1.alloc (.cells #[vh, vb, .bool cl[i].full, .bool cl[i].bad] 89)) := Kp.refl.alloc _
      have ho1 := ho.kp hw1 fun _ _ h => h
      have hs := hk.1
      have hsu := usedFrom_succ (cl := cl) (i := i)
      rw [isFull_in hil] at hsu
      cases hf : cl[i].full with
      | false =>
        rw [hf] at hsu g3
        simp (disch := first | omega | (simp only [size_alloc, size_set, heap_dr] <;> omega) | assumption | exact oneC_slice | exact oneC_int | exact oneC_bool | exact oneC_ptr | exact oneC_iface | exact oneC_nil | exact oneC_str | exact oneC_map | exact oneC_func | rfl) only [gs_false, gs_dec_pos, bn_add, bn_lss, wrap64, oK_some, cell_eq, cellOf_some, heap_alloc_eq, List.getElem?_toArray, List.getElem?_cons_zero, List.getElem?_cons_succ, Nat.zero_add, Int.toNat_natCast, and_true, ia_46, ld_89, ↓alst_89, fa_89_1, ld_4, hc1, g1, g2, g3, g4]
        refine ih (i + 1) _ _ (by omega) (hk.alloc _) ?_
        rw [hsu]
        rw [show usedFrom cl i ++ (if false = true then [(i : Int)] else []) = usedFrom cl i from by simp]
        exact Own.kn ho (Kp.refl.alloc _)
      | true =>
        rw [hf] at hsu g3
        simp (disch := first | omega | (simp only [size_alloc, size_set, heap_dr] <;> omega) | assumption | exact oneC_slice | exact oneC_int | exact oneC_bool | exact oneC_ptr | exact oneC_iface | exact oneC_nil | exact oneC_str | exact oneC_map | exact oneC_func | rfl) only [gs_true, gs_dec_pos, bn_lss, oK_some, cell_eq, cellOf_some, heap_alloc_eq, List.getElem?_toArray, List.getElem?_cons_zero, List.getElem?_cons_succ, Nat.zero_add, Int.toNat_natCast, and_true, ia_46, ld_89, ↓alst_89, fa_89_1, ld_4, hc1, g1, g2, g3, g4]
        have hul := usedFrom_len (cl := cl) (i := i)
        refine app1_ok (F := fun b => w.heap.size ≤ b) (Own.kn ho (Kp.refl.alloc _)) (by omega) (by kernel_rfl) fun v' w' hk' ho' => ?_
        simp (disch := first | omega | (simp only [size_alloc, size_set, heap_dr] <;> omega) | assumption | exact oneC_slice | exact oneC_int | exact oneC_bool | exact oneC_ptr | exact oneC_iface | exact oneC_nil | exact oneC_str | exact oneC_map | exact oneC_func | rfl) only [bn_add, wrap64, and_true]
        refine ih (i + 1) _ _ (by omega) ((hk.alloc _).trans' hk' fun b hb => .inr hb) ?_
        rw [hsu]
        refine ho'.mono fun b hb => ?_
        rcases hb with hb | hb
        · exact hb
        · rw [size_alloc] at hb; omega
  unfold F22_s
  simp (disch := first | omega | (simp only [size_alloc, size_set, heap_dr] <;> omega) | assumption | exact oneC_slice | exact oneC_int | exact oneC_bool | exact oneC_ptr | exact oneC_iface | exact oneC_nil | exact oneC_str | exact oneC_map | exact oneC_func | rfl) only [ck_ptr, oK_some, cell_eq, cellOf_some, List.getElem?_toArray, List.getElem?_cons_zero, List.getElem?_cons_succ, Nat.zero_add, and_true, fa_48_1, ld_46, len_46, hd]
  exact loop cl.length 0 _ _ (by omega) .refl (show Own _ 3 1 _ 0 [] _ from Own.nil)
end Go.Proofs.YtfiakplgifimkaaDoor
