/- play: one call by a bank and by the document's bank. No statement of the seat is proved in this text. -/
import Derived.Test.YtfiakplgifimkaaDoorRBank3
import Derived.Test.YtfiakplgifimkaaDoorBMeter
import Derived.Test.YtfiakplgifimkaaDoorArms2
import Derived.Test.YtfiakplgifimkaaDoorPlay
namespace Go.Proofs.YtfiakplgifimkaaDoor
open Go.TS
set_option maxRecDepth 20000

theorem bThere_mem {s : BS} {d sl : Int} : ∀ g, bThere s d sl = some g → g ∈ L25 := by
  intro g h
  unfold bThere at h
  split at h
  · cases h; decide
  · split at h
    · cases h; decide
    · cases h
theorem LB_L25 : ∀ g ∈ LB, g ∈ L25 := by decide
theorem bWrite_mem {s : BS} {d sl : Int} {hs bs : List UInt8} : ∀ g, (bWrite s d sl hs bs).2 = some g → g ∈ L25 := by
  intro g h
  unfold bWrite at h
  split at h
  · rename_i e ht
    cases h
    exact bThere_mem _ ht
  · split at h
    · cases h; decide
    · cases h
theorem bWipe_mem {s : BS} {d : Int} : ∀ g, (bWipe s d).2 = some g → g ∈ L25 := by
  intro g h
  unfold bWipe at h
  split at h
  · rename_i e ht
    cases h
    exact bThere_mem _ ht
  · cases h
theorem bSpoil_mem {s : BS} {d sl : Int} : ∀ g, (bSpoil s d sl).2 = some g → g ∈ L25 := by
  intro g h
  unfold bSpoil at h
  split at h
  · rename_i e ht
    cases h
    exact bThere_mem _ ht
  · cases h
theorem bArm_mem {s : BS} {n : Int} : ∀ g, (bArm s n).2 = some g → g ∈ L25 := by
  intro g h
  unfold bArm at h
  split at h
  · cases h; decide
  · cases h
theorem BankAt.blkm {w : World} {b : Nat} {s : BS} {F : Nat → Prop} (h : BankAt w b s F) : F b ∧ b < w.heap.size := ⟨h.fb, by obtain ⟨_, _, _, _, _, h1, _⟩ := h.ex; exact blk_lt h1⟩
theorem RBankAt.blkm {w : World} {b : Nat} {s : BS} {F : Nat → Prop} (h : RBankAt w b s F) : F b ∧ b < w.heap.size := ⟨h.fb, by obtain ⟨_, _, _, _, _, h1, _⟩ := h.ex; exact blk_lt h1⟩
/-- The two new regions lie apart. -/
theorem apart16 {F1 F2 : Nat → Prop} {n k : Nat} {G1 G2 : Nat → Prop} (h12 : ∀ b, F1 b → ¬ F2 b) (hn : n ≤ k) (h1 : ∀ b, G1 b → (F1 b ∧ b < n) ∨ (n ≤ b ∧ b < k)) (h2 : ∀ b, G2 b → (F2 b ∧ b < n) ∨ k ≤ b) : ∀ b, G1 b → ¬ G2 b := by
  intro b x y
  rcases h1 b x with ⟨p, q⟩ | ⟨p, q⟩ <;> rcases h2 b y with ⟨r, t⟩ | r
  · exact h12 b p r
  · omega
  · omega
  · omega
section
variable {w : World} {X : Nat → List Value → World → Prop} {K : Value → World → Prop}
/-- What was read or handed in is written over. -/
theorem xor3_ok (h3 : ∀ t7 t10 t73 t74 w, F41_3 K X t7 t10 t73 t74 w → X 3 [t7, t10, t73, t74] w) {v : Value} {bs : List UInt8} {G : Nat → Prop} {r : Value} (h : Bo w v bs G) (hK : ∀ w', Kp G w w' → K r w') : X 3 [v, r, .int .i64 bs.length, .int .i64 0] w := by
  have hm := h.2
  unfold MAXB at hm
  obtain ⟨a, c, rfl⟩ := h.by.val
  have loop : ∀ (m i : Nat) (ys : List Value) (w3 : World), i + m = bs.length → ys.length = bs.length → (∀ x ∈ ys, ∃ y : Int, x = .int .u8 y) → Kp G w w3 → Own w3 5 1 (.slice a bs.length c) bs.length ys G → X 3 [.slice a bs.length c, r, .int .i64 bs.length, .int .i64 i] w3 := by
    intro m
    induction m with
    | zero =>
      intro i ys w3 hi hl hy hk hO
      obtain rfl : i = bs.length := by omega
      refine h3 _ _ _ _ _ ?_
      unfold F41_3
      simp (disch := first | omega | (simp only [size_alloc, size_set, heap_dr] <;> omega) | assumption | exact oneC_slice | exact oneC_int | exact oneC_bool | exact oneC_ptr | exact oneC_iface | exact oneC_nil | exact oneC_str | exact oneC_map | exact oneC_func | rfl) only [gs_dec_neg, bn_lss, and_true]
      exact hK _ hk
    | succ m ih =>
      intro i ys w3 hi hl hy hk hO
      obtain ⟨b', o', c', cs', e1, _, hF, _, hblk, _, hel⟩ := hO.open_ (by intro h; rw [h] at hl; simp at hl; omega)
      cases e1
      have hil : i < ys.length := by omega
      have hib : i < bs.length := by omega
      obtain ⟨y, hy1⟩ := hy ys[i] (List.getElem_mem hil)
      have hc : cs'[o' + i]? = some (.int .u8 y) := by rw [hel i hil, List.getElem?_eq_getElem hil, hy1]
      refine h3 _ _ _ _ _ ?_
      unfold F41_3
      simp (disch := first | omega | (simp only [size_alloc, size_set, heap_dr] <;> omega) | assumption | exact oneC_slice | exact oneC_int | exact oneC_bool | exact oneC_ptr | exact oneC_iface | exact oneC_nil | exact oneC_str | exact oneC_map | exact oneC_func | rfl) only [gs_dec_pos, bn_add, bn_lss, wrap64, oK_some, cell_eq, frozen_eq, cellOf_some, frozenOf_some, Int.toNat_natCast, and_true, Bool.false_eq_true, if_false, ia_31, ld_5, st_5, bn_xor, hblk, hc]
      refine ih (i + 1) (ys.set i _) _ (by omega) (by simpa using hl) ?_ (hk.set (.inl hF)) (hO.setCell hil rfl)
      intro x hx
      rcases List.mem_or_eq_of_mem_set hx with hx | rfl
      · exact hy x hx
      · exact ⟨_, rfl⟩
  exact loop bs.length 0 (u8s bs) w (by omega) u8s_len (fun x hx => by obtain ⟨b, _, rfl⟩ := List.mem_map.1 hx; exact ⟨_, rfl⟩) .refl h.1
theorem xor4_ok (h3 : ∀ t12 t16 t117 t118 w, F41_4 K X t12 t16 t117 t118 w → X 4 [t12, t16, t117, t118] w) {v : Value} {bs : List UInt8} {G : Nat → Prop} {r : Value} (h : Bo w v bs G) (hK : ∀ w', Kp G w w' → K r w') : X 4 [v, r, .int .i64 bs.length, .int .i64 0] w := by
  have hm := h.2
  unfold MAXB at hm
  obtain ⟨a, c, rfl⟩ := h.by.val
  have loop : ∀ (m i : Nat) (ys : List Value) (w3 : World), i + m = bs.length → ys.length = bs.length → (∀ x ∈ ys, ∃ y : Int, x = .int .u8 y) → Kp G w w3 → Own w3 5 1 (.slice a bs.length c) bs.length ys G → X 4 [.slice a bs.length c, r, .int .i64 bs.length, .int .i64 i] w3 := by
    intro m
    induction m with
    | zero =>
      intro i ys w3 hi hl hy hk hO
      obtain rfl : i = bs.length := by omega
      refine h3 _ _ _ _ _ ?_
      unfold F41_4
      simp (disch := first | omega | (simp only [size_alloc, size_set, heap_dr] <;> omega) | assumption | exact oneC_slice | exact oneC_int | exact oneC_bool | exact oneC_ptr | exact oneC_iface | exact oneC_nil | exact oneC_str | exact oneC_map | exact oneC_func | rfl) only [gs_dec_neg, bn_lss, and_true]
      exact hK _ hk
    | succ m ih =>
      intro i ys w3 hi hl hy hk hO
      obtain ⟨b', o', c', cs', e1, _, hF, _, hblk, _, hel⟩ := hO.open_ (by intro h; rw [h] at hl; simp at hl; omega)
      cases e1
      have hil : i < ys.length := by omega
      have hib : i < bs.length := by omega
      obtain ⟨y, hy1⟩ := hy ys[i] (List.getElem_mem hil)
      have hc : cs'[o' + i]? = some (.int .u8 y) := by rw [hel i hil, List.getElem?_eq_getElem hil, hy1]
      refine h3 _ _ _ _ _ ?_
      unfold F41_4
      simp (disch := first | omega | (simp only [size_alloc, size_set, heap_dr] <;> omega) | assumption | exact oneC_slice | exact oneC_int | exact oneC_bool | exact oneC_ptr | exact oneC_iface | exact oneC_nil | exact oneC_str | exact oneC_map | exact oneC_func | rfl) only [gs_dec_pos, bn_add, bn_lss, wrap64, oK_some, cell_eq, frozen_eq, cellOf_some, frozenOf_some, Int.toNat_natCast, and_true, Bool.false_eq_true, if_false, ia_31, ld_5, st_5, bn_xor, hblk, hc]
      refine ih (i + 1) (ys.set i _) _ (by omega) (by simpa using hl) ?_ (hk.set (.inl hF)) (hO.setCell hil rfl)
      intro x hx
      rcases List.mem_or_eq_of_mem_set hx with hx | rfl
      · exact hy x hx
      · exact ⟨_, rfl⟩
  exact loop bs.length 0 (u8s bs) w (by omega) u8s_len (fun x hx => by obtain ⟨b, _, rfl⟩ := List.mem_map.1 hx; exact ⟨_, rfl⟩) .refl h.1
/-- What both tell when they're asked. -/
theorem ask16_ok (h0 : ∀ t0 t1 w, F41_0 K X t0 t1 w → X 0 [t0, t1] w) {d m : Nat} {s : BS} {F1 F2 : Nat → Prop} (hB : BankAt w d s F1) (hR : RBankAt w m s F2) (hK : K (.bool true) (dr w)) : X 0 [.pointer (some ⟨d, 0, none⟩), .pointer (some ⟨m, 0, none⟩)] w := by
  obtain ⟨_, _, _, v, _, h1, h2, _⟩ := hR.ex
  obtain ⟨av, cv, rfl⟩ := h2.val
  unfold bankCells at h1
  refine h0 _ _ _ ?_
  unfold F41_0
  simp (disch := first | omega | (simp only [size_alloc, size_set, heap_dr] <;> omega) | assumption | exact oneC_slice | exact oneC_int | exact oneC_bool | exact oneC_ptr | exact oneC_iface | exact oneC_nil | exact oneC_str | exact oneC_map | exact oneC_func | rfl) only [ck_ptr, oK_some, cell_eq, cellOf_some, heap_dr, List.getElem?_toArray, List.getElem?_cons_zero, List.getElem?_cons_succ, Nat.zero_add, true_and, and_true, eq_self, fa_85_3, ld_4, h1]
  have kd : Kp none_ w (dr w) := Kp.refl.dr
  refine bankDown_ok (hB.kn kd) ?_
  simp (disch := first | omega | (simp only [size_alloc, size_set, heap_dr] <;> omega) | assumption | exact oneC_slice | exact oneC_int | exact oneC_bool | exact oneC_ptr | exact oneC_iface | exact oneC_nil | exact oneC_str | exact oneC_map | exact oneC_func | rfl) only [ck_ptr, gs_true, oK_some, cell_eq, cellOf_some, heap_dr, List.getElem?_toArray, List.getElem?_cons_zero, List.getElem?_cons_succ, Nat.zero_add, true_and, and_true, eq_self, ld_3, fa_85_3, ld_4, fa_85_2, bn_bool_eql4, h1, beq_self_eq_true]
  refine bankWrites_ok (hB.kn kd) ?_
  simp (disch := first | omega | (simp only [size_alloc, size_set, heap_dr] <;> omega) | assumption | exact oneC_slice | exact oneC_int | exact oneC_bool | exact oneC_ptr | exact oneC_iface | exact oneC_nil | exact oneC_str | exact oneC_map | exact oneC_func | rfl) only [ck_ptr, pick_bool, gs_true, bn_eql, oK_some, cell_eq, cellOf_some, heap_dr, List.getElem?_toArray, List.getElem?_cons_zero, List.getElem?_cons_succ, Nat.zero_add, true_and, and_true, cond_true, eq_self, ld_3, fa_85_2, h1, decide_true]
  refine bankMeter_ok (hB.kn kd) ?_
  simp (disch := first | omega | (simp only [size_alloc, size_set, heap_dr] <;> omega) | assumption | exact oneC_slice | exact oneC_int | exact oneC_bool | exact oneC_ptr | exact oneC_iface | exact oneC_nil | exact oneC_str | exact oneC_map | exact oneC_func | rfl) only [and_true]
  refine rMeter_ok (hR.kn kd) ?_
  simp (disch := first | omega | (simp only [size_alloc, size_set, heap_dr] <;> omega) | assumption | exact oneC_slice | exact oneC_int | exact oneC_bool | exact oneC_ptr | exact oneC_iface | exact oneC_nil | exact oneC_str | exact oneC_map | exact oneC_func | rfl) only [ck_ptr, pick_bool, gs_true, bn_eql, oK_some, cell_eq, cellOf_some, heap_dr, List.getElem?_toArray, List.getElem?_cons_zero, true_and, and_true, cond_true, eq_self, fa_85_0, ld_83, len_83, h1, decide_true]
  refine bankDrives_ok (hB.kn kd) ?_
  simp (disch := first | omega | (simp only [size_alloc, size_set, heap_dr] <;> omega) | assumption | exact oneC_slice | exact oneC_int | exact oneC_bool | exact oneC_ptr | exact oneC_iface | exact oneC_nil | exact oneC_str | exact oneC_map | exact oneC_func | rfl) only [ck_ptr, pick_bool, gs_true, bn_eql, oK_some, cell_eq, cellOf_some, heap_dr, List.getElem?_toArray, List.getElem?_cons_zero, List.getElem?_cons_succ, Nat.zero_add, true_and, and_true, cond_true, eq_self, ld_3, fa_85_0, ld_83, len_83, fa_85_1, h1, decide_true]
  refine bankSlots_ok (hB.kn kd) ?_
  simp (disch := first | omega | (simp only [size_alloc, size_set, heap_dr] <;> omega) | assumption | exact oneC_slice | exact oneC_int | exact oneC_bool | exact oneC_ptr | exact oneC_iface | exact oneC_nil | exact oneC_str | exact oneC_map | exact oneC_func | rfl) only [ck_ptr, pick_bool, bn_eql, oK_some, cell_eq, cellOf_some, heap_dr, List.getElem?_toArray, List.getElem?_cons_zero, List.getElem?_cons_succ, Nat.zero_add, true_and, and_true, cond_true, eq_self, ld_3, fa_85_1, h1, decide_true]
  exact hK
end
end Go.Proofs.YtfiakplgifimkaaDoor
