/- Copies with marked room behind; lists written over. No statement of the seat is proved in this text. -/
import Derived.Test.YtfiakplgifimkaaDoorRef3
namespace Go.Proofs.YtfiakplgifimkaaDoor
open Go.TS
set_option maxRecDepth 20000

def marks : List Value := [.int .u8 201, .int .u8 202, .int .u8 203, .int .u8 204, .int .u8 205, .int .u8 206]
/-- A copy with marked room behind. -/
def Mk (w : World) (v : Value) (bs : List UInt8) (F : Nat → Prop) : Prop := ∃ a c, v = .slice a bs.length c ∧ bs.length ≤ MAXB ∧ Own w 5 1 (.slice a (bs.length + 6) c) (bs.length + 6) (u8s bs ++ marks) F
theorem Mk.bo {w : World} {v : Value} {bs : List UInt8} {F : Nat → Prop} (h : Mk w v bs F) : Bo w v bs F := by
  obtain ⟨a, c, rfl, h2, h3⟩ := h
  have := h3.pre (k := bs.length) (by omega)
  rw [Nat.mul_one, List.take_append_of_le_length (by simp [u8s]), List.take_of_length_le (by simp [u8s])] at this
  exact ⟨this, h2⟩
theorem Mk.kp {w w' : World} {v : Value} {bs : List UInt8} {F S : Nat → Prop} (h : Mk w v bs F) (hk : Kp S w w') (hd : ∀ b, F b → ¬ S b) : Mk w' v bs F := by
  obtain ⟨a, c, h1, h2, h3⟩ := h
  exact ⟨a, c, h1, h2, h3.kp hk hd⟩
theorem Mk.kn {w w' : World} {v : Value} {bs : List UInt8} {F : Nat → Prop} (h : Mk w v bs F) (hk : Kp none_ w w') : Mk w' v bs F := h.kp hk fun _ _ h => h
theorem Mk.mono {w : World} {v : Value} {bs : List UInt8} {F G : Nat → Prop} (h : Mk w v bs F) (hF : ∀ b, F b → G b) : Mk w v bs G := by
  obtain ⟨a, c, h1, h2, h3⟩ := h
  exact ⟨a, c, h1, h2, h3.mono hF⟩
theorem Mk.bound {w : World} {v : Value} {bs : List UInt8} {F : Nat → Prop} (h : Mk w v bs F) : Mk w v bs (fun b => F b ∧ b < w.heap.size) := by
  obtain ⟨a, c, h1, h2, h3⟩ := h
  exact ⟨a, c, h1, h2, h3.bound⟩

/-- Bytes. -/
theorem bytes_ok {w : World} {v : Value} {bs : List UInt8} {G : Nat → Prop} {K : Value → World → Prop} (h : By w v bs G) (hK : ∀ v' w', Kp none_ w w' → Mk w' v' bs (fun b => w.heap.size ≤ b) → K v' w') : call Tryd.prog 46 #[v] w K := by
  have hm := h.2
  unfold MAXB at hm
  obtain ⟨av, cv, rfl⟩ := h.val
  refine F46_ok ?_
  unfold F46
  simp (disch := first | omega | (simp only [size_alloc, size_set, heap_dr] <;> omega) | assumption | exact oneC_slice | exact oneC_int | exact oneC_bool | exact oneC_ptr | exact oneC_iface | exact oneC_nil | exact oneC_str | exact oneC_map | exact oneC_func | rfl) only [bn_add, wrap64, and_true, len_31]
  have hmk : ∀ K' : Value → World → Prop, _ := fun K' => mkS2_ok (K := K') (P := Tryd.prog) (w := w) (t := 31) (e := 5) (l := 0) (c := bs.length + 6) (sz := 1) (by_ := 1) (z := .int .u8 0) (by kernel_rfl) (by kernel_rfl) (by kernel_rfl) (by kernel_rfl) rfl (by omega) (by omega) (by omega)
  refine Eq.mpr (hmk _) ?_
  have k1 : Kp none_ w (w.alloc (.cells (madeCells (Value.int IntKind.u8 0).cells ((bs.length + 6) * 1)) 5)) := Kp.refl.alloc _
  have o1 : Own (w.alloc (.cells (madeCells (Value.int IntKind.u8 0).cells ((bs.length + 6) * 1)) 5)) 5 1 (.slice (some ⟨w.heap.size, 0, none⟩) 0 (bs.length + 6)) 0 [] (fun b => w.heap.size ≤ b) := Own.room (heap_alloc_eq rfl) (Nat.le_refl _) (size_madeCells _ _)
  generalize w.alloc (.cells (madeCells (Value.int IntKind.u8 0).cells ((bs.length + 6) * 1)) 5) = w1 at k1 o1 ⊢
  refine app_ok (e := 5) (sz := 1) (z := .int .u8 0) (by_ := 1) (by kernel_rfl) (by kernel_rfl) (by kernel_rfl) (by kernel_rfl) (by kernel_rfl) rfl (by omega) o1 (h.kn k1).1 (by omega) (by omega) fun v2 w2 k2 o2 => ?_
  have hs1 := k1.1
  have k02 : Kp none_ w w2 := k1.trans' k2 fun x hx => .inr hx
  have hb := bsl_vals (w := w2) (P := Tryd.prog) (t := 31) (e := 5) (n := 6) (vs := marks) (z := .int .u8 0) (K := fun t10 w => bAppend Tryd.prog #[31, 31] 31 [v2, t10] w fun t11 w => bLen Tryd.prog #[31] 3 [Value.slice av bs.length cv] w fun t14 w => slc Tryd.prog 31 t11 none (some t14) none w fun t15 w => K t15 w) (by kernel_rfl) (by kernel_rfl) (by kernel_rfl) rfl rfl (by omega) (by omega) (by simp [marks, oneC])
  refine Eq.mpr hb ?_
  have k3 : Kp none_ w2 (w2.alloc (.cells marks.toArray 5)) := Kp.refl.alloc _
  have r3 : Rd (w2.alloc (.cells marks.toArray 5)) 5 1 (.slice (some ⟨w2.heap.size, 0, none⟩) 6 6) 6 marks (fun b => b = w2.heap.size) := (Own.made (n := 6) (sz := 1) (cs := marks.toArray) (F := fun b => b = w2.heap.size) (heap_alloc_eq rfl) rfl rfl (by simp [marks, oneC])).rd
  have hs2 := k2.1
  have o2' := (o2.bound).kn k3
  have hz3 : (w2.alloc (.cells marks.toArray 5)).heap.size = w2.heap.size + 1 := size_alloc
  generalize w2.alloc (.cells marks.toArray 5) = w3 at k3 r3 o2' hz3 ⊢
  refine app_ok (e := 5) (sz := 1) (z := .int .u8 0) (by_ := 1) (by kernel_rfl) (by kernel_rfl) (by kernel_rfl) (by kernel_rfl) (by kernel_rfl) rfl (by omega) o2' r3 (by omega) (by omega) fun v4 w4 k4 o4 => ?_
  obtain ⟨a4, c4, rfl⟩ := o4.val
  simp (disch := first | omega | (simp only [size_alloc, size_set, heap_dr] <;> omega) | assumption | exact oneC_slice | exact oneC_int | exact oneC_bool | exact oneC_ptr | exact oneC_iface | exact oneC_nil | exact oneC_str | exact oneC_map | exact oneC_func | rfl) only [Nat.zero_add, and_true, len_31]
  have hc4 : 0 + bs.length + 6 ≤ c4 := by
    obtain ⟨_, _, e1, e2, _⟩ := o4
    cases e1
    exact e2
  rw [slc_h (e := 5) (s := 1) (by kernel_rfl) (by kernel_rfl) (by omega) (by omega), Int.toNat_natCast]
  refine hK _ _ ((k02.trans k3).trans' k4 fun x hx => .inr ?_) ⟨a4, c4, rfl, h.2, ?_⟩
  · rcases hx.1 with h | h
    · exact h
    · omega
  · rw [Nat.zero_add] at o4
    refine o4.mono fun b hb => ?_
    rcases hb with ⟨h | h, _⟩ | h
    · exact h
    · omega
    · omega

/-- Kept. -/
theorem kept_ok {w : World} {v vw : Value} {bs : List UInt8} {F G : Nat → Prop} {K : Value → World → Prop} (h : Mk w v bs F) (hw : By w vw bs G) (hK : ∀ w', Kp none_ w w' → K (.bool true) w') : call Tryd.prog 48 #[v, vw] w K := by
  obtain ⟨aw, cw, rfl⟩ := hw.val
  obtain ⟨a, c, rfl, hm, ho⟩ := id h
  have hbo := h.bo
  unfold MAXB at hm
  obtain ⟨b, o, c', cs, e1, e2, hF, hbl, hblk, hsz, hel⟩ := ho.open_ (by simp [marks])
  cases e1
  refine F48_ok fun X h0 => ?_
  unfold F48_s
  have loop : ∀ (m i : Nat) (w1 : World), i + m = 6 → Kp none_ w w1 → X 0 [.slice aw bs.length cw, .slice (some ⟨b, o, none⟩) c c, .int .i64 i] w1 := by
    intro m
    induction m with
    | zero =>
      intro i w1 hi hk
      obtain rfl : i = 6 := by omega
      refine h0 _ _ _ _ ?_
      unfold F48_0
      simp (disch := first | omega | (simp only [size_alloc, size_set, heap_dr] <;> omega) | assumption | exact oneC_slice | exact oneC_int | exact oneC_bool | exact oneC_ptr | exact oneC_iface | exact oneC_nil | exact oneC_str | exact oneC_map | exact oneC_func | rfl) only [gs_dec_neg, bn_lss, and_true]
      exact hK _ hk
    | succ m ih =>
      intro i w1 hi hk
      have hb1 := hk.blk hblk (fun h => h)
      have hi6 : i < 6 := by omega
      have hcell : cs[o + (bs.length + i)]? = some (.int .u8 (201 + i)) := by
        rw [hel (bs.length + i) (by simp [u8s, marks]; omega), List.getElem?_append_right (by simp [u8s])]
        simp only [u8s, List.length_map, Nat.add_sub_cancel_left]
        match i, hi6 with
        | 0, _ => rfl
        | 1, _ => rfl
        | 2, _ => rfl
        | 3, _ => rfl
        | 4, _ => rfl
        | 5, _ => rfl
      have hn : ((bs.length : Int) + (i : Int)).toNat = bs.length + i := by omega
      have hwr : IntKind.u8.wrap (201 + (i : Int)) = 201 + i := wrap8 (by omega) (by omega)
      refine h0 _ _ _ _ ?_
      unfold F48_0
      simp (disch := first | omega | (simp only [size_alloc, size_set, heap_dr] <;> omega) | assumption | exact oneC_slice | exact oneC_int | exact oneC_bool | exact oneC_ptr | exact oneC_iface | exact oneC_nil | exact oneC_str | exact oneC_map | exact oneC_func | rfl) only [gs_false, gs_dec_pos, bn_add, bn_lss, bn_neq, wrap64, oK_some, cell_eq, cellOf_some, and_true, eq_self, len_31, ia_31, ld_5, cnv_3_5, hb1, hn, hcell, hwr, decide_true, Bool.not_true]
      exact ih (i + 1) _ (by omega) hk
  have q1 : ∀ (w : World) (n c : Nat) (h : Int) (K' : Value → World → Prop), 0 ≤ h → h ≤ c → slc Tryd.prog 31 (.slice (some ⟨b, o, none⟩) n c) none (some (.int .i64 h)) none w K' = K' (.slice (some ⟨b, o, none⟩) h.toNat c) w := fun w n c h K' h1 h2 => slc_h (e := 5) (s := 1) (by kernel_rfl) (by kernel_rfl) h1 h2
  simp (disch := first | omega | (simp only [size_alloc, size_set, heap_dr] <;> omega) | assumption | exact oneC_slice | exact oneC_int | exact oneC_bool | exact oneC_ptr | exact oneC_iface | exact oneC_nil | exact oneC_str | exact oneC_map | exact oneC_func | rfl) only [pick_bool, gs_false, gs_dec_neg, bn_add, bn_lss, wrap64, Int.toNat_natCast, true_and, and_true, cond_false, eq_self, len_31, bCap_ok (e := 5) (show Tryd.prog.underlying 31 = some (.slice 5) from by kernel_rfl), q1, str_of (hbo.by.kn Kp.refl.dr), str_of (hw.kn Kp.refl.dr), bn_str_neq, decide_true, Bool.not_true]
  exact loop 6 0 _ (by omega) Kp.refl.dr

/-- A list appended to and written over. -/
theorem spoil15_ok {w : World} {v : Value} {n : Nat} {xs : List Value} {F : Nat → Prop} {K : Value → World → Prop} (ho : Own w 5 1 v n xs F) (hx : ∀ x ∈ xs, ∃ y : Int, x = .int .u8 y) (hn : n ≤ MAXB) (hK : ∀ w', Kp F w w' → K (.tuple #[]) w') : call Tryd.prog 49 #[v] w K := by
  unfold MAXB at hn
  refine F49_ok fun X h0 => ?_
  unfold F49_s
  have hb : ∀ K' : Value → World → Prop, bsl Tryd.prog 31 3 ((([.int .u8 1, .int .u8 2, .int .u8 3] : List Value).zipIdx).map fun p => (p.2, p.1)) w K' = _ := fun K' =>
    bsl_vals (w := w) (P := Tryd.prog) (t := 31) (e := 5) (n := 3) (vs := [.int .u8 1, .int .u8 2, .int .u8 3]) (z := .int .u8 0) (K := K') (by kernel_rfl) (by kernel_rfl) (by kernel_rfl) rfl rfl (by omega) (by omega) (by simp [oneC])
  refine Eq.mpr (hb _) ?_
  have k1 : Kp none_ w (w.alloc (.cells ([.int .u8 1, .int .u8 2, .int .u8 3] : List Value).toArray 5)) := Kp.refl.alloc _
  have r1 : Rd (w.alloc (.cells ([.int .u8 1, .int .u8 2, .int .u8 3] : List Value).toArray 5)) 5 1 (.slice (some ⟨w.heap.size, 0, none⟩) 3 3) 3 [.int .u8 1, .int .u8 2, .int .u8 3] (fun b => b = w.heap.size) :=
    (Own.made (n := 3) (sz := 1) (cs := ([.int .u8 1, .int .u8 2, .int .u8 3] : List Value).toArray) (F := fun b => b = w.heap.size) (heap_alloc_eq rfl) rfl rfl (by simp [oneC])).rd
  have o1 := ho.bound.kn k1
  have hz1 : (w.alloc (.cells ([.int .u8 1, .int .u8 2, .int .u8 3] : List Value).toArray 5)).heap.size = w.heap.size + 1 := size_alloc
  generalize w.alloc (.cells ([.int .u8 1, .int .u8 2, .int .u8 3] : List Value).toArray 5) = w1 at k1 r1 o1 hz1 ⊢
  refine app_ok (e := 5) (sz := 1) (z := .int .u8 0) (by_ := 1) (by kernel_rfl) (by kernel_rfl) (by kernel_rfl) (by kernel_rfl) (by kernel_rfl) rfl (by omega) o1 r1 (by omega) (by omega) fun v2 w2 k2 o2 => ?_
  have k02 : Kp (fun b => F b ∨ w.heap.size ≤ b) w w2 := (k1.ofNone).trans (k2.mono fun b hb => .inl hb.1)
  have o2' : Own w2 5 1 v2 (n + 3) (xs ++ [.int .u8 1, .int .u8 2, .int .u8 3]) (fun b => F b ∨ w.heap.size ≤ b) := o2.mono fun b hb => by
    rcases hb with h | h
    · exact .inl h.1
    · exact .inr (by omega)
  obtain ⟨b, o, c, cs, rfl, _⟩ := o2'.open_ (by simp)
  have hx2 : ∀ x ∈ xs ++ ([.int .u8 1, .int .u8 2, .int .u8 3] : List Value), ∃ y : Int, x = .int .u8 y := by
    intro x h
    rcases List.mem_append.1 h with h | h
    · exact hx x h
    · simp at h
      rcases h with rfl | rfl | rfl <;> exact ⟨_, rfl⟩
  have hlen : (xs ++ ([.int .u8 1, .int .u8 2, .int .u8 3] : List Value)).length = n + 3 := by
    obtain ⟨_, _, _, _, h, _⟩ := o2'
    omega
  generalize xs ++ ([.int .u8 1, .int .u8 2, .int .u8 3] : List Value) = ys at o2' hx2 hlen
  have loop : ∀ (m i : Nat) (ys : List Value) (w3 : World), i + m = n + 3 → ys.length = n + 3 → (∀ x ∈ ys, ∃ y : Int, x = .int .u8 y) → Kp (fun b => F b ∨ w.heap.size ≤ b) w w3 → Own w3 5 1 (.slice (some ⟨b, o, none⟩) (n + 3) c) (n + 3) ys (fun b => F b ∨ w.heap.size ≤ b) →
      X 0 [.slice (some ⟨b, o, none⟩) (n + 3) c, .int .i64 ((n + 3 : Nat) : Int), .int .i64 i] w3 := by
    intro m
    induction m with
    | zero =>
      intro i ys w3 hi hl hy hk hO
      obtain rfl : i = n + 3 := by omega
      refine h0 _ _ _ _ ?_
      unfold F49_0
      simp (disch := first | omega | (simp only [size_alloc, size_set, heap_dr] <;> omega) | assumption | exact oneC_slice | exact oneC_int | exact oneC_bool | exact oneC_ptr | exact oneC_iface | exact oneC_nil | exact oneC_str | exact oneC_map | exact oneC_func | rfl) only [gs_dec_neg, bn_lss, and_true]
      exact hK _ (Kp.refl.trans' hk fun x hx => hx)
    | succ m ih =>
      intro i ys w3 hi hl hy hk hO
      obtain ⟨b', o', c', cs', e1, _, hF, _, hblk, _, hel⟩ := hO.open_ (by intro h; rw [h] at hl; simp at hl)
      cases e1
      have hil : i < ys.length := by omega
      obtain ⟨y, hy1⟩ := hy ys[i] (List.getElem_mem hil)
      have hc : cs'[o + i]? = some (.int .u8 y) := by rw [hel i hil, List.getElem?_eq_getElem hil, hy1]
      refine h0 _ _ _ _ ?_
      unfold F49_0
      simp (disch := first | omega | (simp only [size_alloc, size_set, heap_dr] <;> omega) | assumption | exact oneC_slice | exact oneC_int | exact oneC_bool | exact oneC_ptr | exact oneC_iface | exact oneC_nil | exact oneC_str | exact oneC_map | exact oneC_func | rfl) only [gs_dec_pos, bn_add, bn_lss, wrap64, oK_some, cell_eq, frozen_eq, cellOf_some, frozenOf_some, Int.toNat_natCast, and_true, Bool.false_eq_true, if_false, ia_31, ld_5, st_5, bn_xor, hblk, hc]
      refine ih (i + 1) (ys.set i _) _ (by omega) (by simpa using hl) ?_ (hk.set (.inl hF)) (hO.setCell hil rfl)
      intro x hx
      rcases List.mem_or_eq_of_mem_set hx with hx | rfl
      · exact hy x hx
      · exact ⟨_, rfl⟩
  simp (disch := first | omega | (simp only [size_alloc, size_set, heap_dr] <;> omega) | assumption | exact oneC_slice | exact oneC_int | exact oneC_bool | exact oneC_ptr | exact oneC_iface | exact oneC_nil | exact oneC_str | exact oneC_map | exact oneC_func | rfl) only [and_true, len_31]
  exact loop (n + 3) 0 ys _ (by omega) hlen hx2 k02 o2'
theorem Bo.spoil {w : World} {v : Value} {bs : List UInt8} {F : Nat → Prop} {K : Value → World → Prop} (h : Bo w v bs F) (hK : ∀ w', Kp F w w' → K (.tuple #[]) w') : call Tryd.prog 49 #[v] w K :=
  spoil15_ok h.1 (fun x hx => by obtain ⟨b, _, rfl⟩ := List.mem_map.1 hx; exact ⟨_, rfl⟩) h.2 hK

/-- same: two blocks that are the same. -/
theorem same15_ok {w : World} {vh vb uh ub : Value} {hs bs : List UInt8} {f : Bool} {F : Nat → Prop} {K : Value → World → Prop} (h1 : By w vh hs F) (h2 : By w vb bs F) (h3 : By w uh hs F) (h4 : By w ub bs F) (hK : ∀ w', Kp none_ w w' → K (.bool true) w') :
    call Tryd.prog 53 #[.agg #[vh, vb], .bool f, .agg #[uh, ub], .bool f] w K := by
  refine F53_ok ?_
  unfold F53
  have k2 : Kp none_ w ((w.alloc (.cells #[vh, vb] 33)).alloc (.cells #[uh, ub] 33)) := (Kp.refl.alloc _).alloc _
  have e1 := h1.one
  have e2 := h2.one
  have e3 := h3.one
  have e4 := h4.one
  simp (disch := first | omega | (simp only [size_alloc, size_set, heap_dr] <;> omega) | assumption | exact oneC_slice | exact oneC_int | exact oneC_bool | exact oneC_ptr | exact oneC_iface | exact oneC_nil | exact oneC_str | exact oneC_map | exact oneC_func | rfl) only [pick_bool, gs_true, oK_some, cell_eq, cellOf_some, heap_alloc_lt, heap_alloc_eq, size_alloc, bx_agg, List.getElem?_toArray, List.getElem?_cons_zero, List.getElem?_cons_succ, Nat.zero_add, and_true, cond_true, eq_self, shr_eq, fa_33_0, ld_31, fa_33_1, bn_bool_eql (t := 4) (show Tryd.prog.underlying 4 = some .bool from by kernel_rfl), beq_self_eq_true, str_of (h1.kn k2), str_of (h2.kn k2), str_of (h3.kn k2), str_of (h4.kn k2), bn_str_eql, decide_true]
  exact hK _ k2
end Go.Proofs.YtfiakplgifimkaaDoor
