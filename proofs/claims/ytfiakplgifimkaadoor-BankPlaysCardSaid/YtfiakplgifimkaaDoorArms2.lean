/- BankArms over memory. No statement of the seat is proved in this text. -/
import Derived.Test.YtfiakplgifimkaaDoorArms
import Derived.Test.YtfiakplgifimkaaDoorTsBit
import Derived.Test.YtfiakplgifimkaaDoorNum
namespace Go.Proofs.YtfiakplgifimkaaDoor
open Go.TS
set_option maxRecDepth 20000

section
variable {w : World} {K : Value → World → Prop} {ox oy : Operand}
theorem bn_shr8 {x : Int} : bn Tryd.prog .shr 3 ox oy (.int .i64 x) (.int .u64 8) w K = K (.int .i64 (x / 2 ^ 8)) w := bn_shr (by decide) (by decide)
theorem bn_bool_neq4 {x y : Bool} : bn Tryd.prog .neq 4 ox oy (.bool x) (.bool y) w K = K (.bool (!(x == y))) w := bn_bool_neq (by kernel_rfl)
theorem bn_bool_eql4 {x y : Bool} : bn Tryd.prog .eql 4 ox oy (.bool x) (.bool y) w K = K (.bool (x == y)) w := bn_bool_eql (by kernel_rfl)
theorem ix_ints {ls : List Int} {j : Nat} (h : j < ls.length) (hl : ls.length = 15) : ix Tryd.prog 64 (.agg (ints ls).toArray) (.int .i64 j) w K = K (.int .i64 ls[j]) w :=
  ix_one (l := 15) (e := 3) (by kernel_rfl) (by kernel_rfl) (by kernel_rfl) (by omega) (by simp [ints, h])
theorem ld_ints {ls : List Int} {c : Nat} {fr : Nat × Nat} (hl : ls.length = 15) (hc : w.heap[c]? = some (.cells (ints ls).toArray 64 fr)) : ld Tryd.prog 64 (.pointer (some ⟨c, 0, none⟩)) w K = K (.agg (ints ls).toArray) w := by
  match ls, hl with
  | [x0, x1, x2, x3, x4, x5, x6, x7, x8, x9, x10, x11, x12, x13, x14], _ =>
    simp only [ints, List.map_cons, List.map_nil] at hc ⊢
    simp (disch := first | omega | (simp only [size_alloc, size_set, heap_dr] <;> omega) | assumption | exact oneC_slice | exact oneC_int | exact oneC_bool | exact oneC_ptr | exact oneC_iface | exact oneC_nil | exact oneC_str | exact oneC_map | exact oneC_func | rfl) only [oK_some, cell_eq, cellOf_some, List.getElem?_toArray, List.getElem?_cons_zero, List.getElem?_cons_succ, Nat.zero_add, and_true, eq_self, ld_64, hc]
theorem ints_set {ls : List Int} {a : Nat} {x : Int} : (ints ls).toArray.setIfInBounds a (.int .i64 x) = (ints (ls.set a x)).toArray := by simp [ints, List.map_set]
end
theorem at15 (x : Int) : ∃ a : Nat, a < 15 ∧ (IntKind.i64.wrap (x.tmod 15 + 15)).tmod 15 = (a : Int) := by
  have h1 := Int.tmod_lt_of_pos x (show (0 : Int) < 15 by omega)
  have h2 := Int.lt_tmod_of_pos x (show (0 : Int) < 15 by omega)
  rw [wrap64 (by omega) (by omega), Int.tmod_eq_emod_of_nonneg (by omega)]
  exact ⟨((x.tmod 15 + 15) % 15).toNat, by omega, by omega⟩
theorem div5 (a : Nat) (h : a < 15) : IntKind.i64.wrap ((a : Int).tdiv 5) = ((a / 5 : Nat) : Int) := by
  rw [Int.tdiv_eq_ediv_of_nonneg (by omega), wrap64 (by omega) (by omega)]
  omega
theorem mod5 (a : Nat) : (a : Int).tmod 5 = ((a % 5 : Nat) : Int) := by
  rw [Int.tmod_eq_emod_of_nonneg (by omega)]
  omega
theorem bRead_none {s : BS} {d sl : Int} (h : bThere s d sl = none) (hd : s.down = false) : bRead s d sl = asks (bcl s d) sl := by
  unfold bRead
  rw [h]
  simp [hd]
theorem getb_none {f : Cel → List UInt8} {s : BS} {d sl : Int} (h : bRead s d sl = asks (bcl s d) sl) : getb f s d sl = getc f (bcl s d) sl := by
  unfold getb
  rw [h]
  split
  · rfl
  · rename_i hn; unfold getc; rw [if_neg hn]
theorem bRead_mem {s : BS} {d sl : Int} : ∀ g, bRead s d sl = some g → g ∈ LB := by
  intro g h
  unfold bRead bThere at h
  split at h
  · rename_i e he
    split at he
    · cases he; cases h; decide
    · split at he
      · cases he; cases h; decide
      · cases he
  · split at h
    · cases h; decide
    · unfold asks at h
      split at h
      · split at h
        · cases h; decide
        · split at h
          · cases h
          · cases h; decide
      · cases h; decide
theorem asks_no4 {cl : List Cel} {sl : Int} : ¬ asks cl sl = some 4 := by
  unfold asks
  split
  · split
    · simp
    · split <;> simp
  · simp
theorem bRead_four {s : BS} {d sl : Int} (h : bThere s d sl = none) : decide (bRead s d sl = some 4) = s.down := by
  unfold bRead
  rw [h]
  cases hd : s.down with
  | true => simp
  | false => simp [asks_no4]

theorem arms_ok {w : World} {E : Nat → Addr} {n : Int} {v : Value} {ws : List Int} {F : Nat → Prop} {K : Value → World → Prop} (he : Errs w E LB) (hv : In w v ws F) (hlen : ws.length ≤ 17592186044416) (hn2 : n ≤ 9223372036854775807) (hK : ∀ w', Kp none_ w w' → K (.bool true) w') :
    call Tryd.prog 7 #[.int .i64 n, v] w K := by
  refine F7_ok fun X h0 h1 h2 h3 => ?_
  unfold F7_s
  refine alive16_ok he fun w1 hk1 => ?_
  simp (disch := first | omega | (simp only [size_alloc, size_set, heap_dr] <;> omega) | assumption | exact oneC_slice | exact oneC_int | exact oneC_bool | exact oneC_ptr | exact oneC_iface | exact oneC_nil | exact oneC_str | exact oneC_map | exact oneC_func | rfl) only [gs_false, un_not, and_true, Bool.not_true]
  have he1 := he.kpNew hk1
  obtain ⟨av, cv, rfl⟩ := hv.len
  refine bankNew_ok he1 (fun e h => by cases h) fun m k hm hk _ _ _ _ _ w2 b hk2 hB2 => ?_
  obtain rfl : m = 3 := by omega
  obtain rfl : k = 5 := by omega
  have hk02 := hk1.trans hk2
  have s1 := hk1.1
  have hB2' : BankAt w2 b (bank0 3 5) (fun x => w.heap.size ≤ x) := hB2.mono fun x hx => by omega
  simp (disch := first | omega | (simp only [size_alloc, size_set, heap_dr] <;> omega) | assumption | exact oneC_slice | exact oneC_int | exact oneC_bool | exact oneC_ptr | exact oneC_iface | exact oneC_nil | exact oneC_str | exact oneC_map | exact oneC_func | rfl) only [pick_bool, gs_false, ext_0, ext_1, and_true, cond_false, shr_eq, nil_neq, ptr61_eql, Option.isNone_some]
  refine bankArm_new he hk02 hB2' fun w3 hk3 hB3 => ?_
  by_cases hn : n < 0
  · have hA : bArm (bank0 3 5) n = (bank0 3 5, some 3) := by unfold bArm; rw [if_pos hn]
    rw [hA] at hB3 ⊢
    have hE3 := he.kpNew hk3
    have e3 := hE3.at_ 3 (by decide)
    unfold ErrAt at e3
    simp (disch := first | omega | (simp only [size_alloc, size_set, heap_dr] <;> omega) | assumption | exact oneC_slice | exact oneC_int | exact oneC_bool | exact oneC_ptr | exact oneC_iface | exact oneC_nil | exact oneC_str | exact oneC_map | exact oneC_func | rfl) only [gs_true, gs_dec_pos, bn_lss, oK_some, cell_eq, and_true, eq_self, shr_eq, ld_26, e3, err_eql (a := some 3) (g := 3) hE3 (by simp [LB]) (by decide), decide_true]
    refine bankDown_ok hB3 ?_
    have hd : (bank0 3 5).down = false := rfl
    simp (disch := first | omega | (simp only [size_alloc, size_set, heap_dr] <;> omega) | assumption | exact oneC_slice | exact oneC_int | exact oneC_bool | exact oneC_ptr | exact oneC_iface | exact oneC_nil | exact oneC_str | exact oneC_map | exact oneC_func | rfl) only [pick_bool, un_not, and_true, cond_true, hd, Bool.not_false]
    exact hK _ hk3
  · have hA : bArm (bank0 3 5) n = ({ bank0 3 5 with armed := true, left := n }, none) := by unfold bArm; rw [if_neg hn]
    rw [hA] at hB3 ⊢
    have hI := ArmInv.start (n := n) (by omega)
    generalize ({ bank0 3 5 with armed := true, left := n } : BS) = s0 at hI hB3
    simp (disch := first | omega | (simp only [size_alloc, size_set, heap_dr] <;> omega) | assumption | exact oneC_slice | exact oneC_int | exact oneC_bool | exact oneC_ptr | exact oneC_iface | exact oneC_nil | exact oneC_str | exact oneC_map | exact oneC_func | rfl) only [gs_false, gs_dec_neg, bn_lss, and_true, alc_64, len_50, err_neq_nil, Option.isNone_none, Bool.not_true]
    have b4 : (w3.alloc (.cells #[.int .i64 0, .int .i64 0, .int .i64 0, .int .i64 0, .int .i64 0, .int .i64 0, .int .i64 0, .int .i64 0, .int .i64 0, .int .i64 0, .int .i64 0, .int .i64 0, .int .i64 0, .int .i64 0, .int .i64 0] 64)).heap[w3.heap.size]? = some (.cells (ints (List.replicate 15 0)).toArray 64 (0, 0)) := heap_alloc_eq rfl
    have k4 : Kp none_ w3 (w3.alloc (.cells #[.int .i64 0, .int .i64 0, .int .i64 0, .int .i64 0, .int .i64 0, .int .i64 0, .int .i64 0, .int .i64 0, .int .i64 0, .int .i64 0, .int .i64 0, .int .i64 0, .int .i64 0, .int .i64 0, .int .i64 0] 64)) := Kp.refl.alloc _
    generalize w3.alloc (.cells #[.int .i64 0, .int .i64 0, .int .i64 0, .int .i64 0, .int .i64 0, .int .i64 0, .int .i64 0, .int .i64 0, .int .i64 0, .int .i64 0, .int .i64 0, .int .i64 0, .int .i64 0, .int .i64 0, .int .i64 0] 64) = w4 at b4 k4 ⊢
    have hB4 : BankAt w4 b s0 (fun x => w.heap.size ≤ x ∧ x ≠ w3.heap.size) := (hB3.bound.kn k4).mono fun x hx => ⟨hx.1, by omega⟩
    have s3 := hk3.1
    have k04 := hk3.trans k4
    generalize w3.heap.size = c at b4 hB4 s3 ⊢
    have loop : ∀ (k i : Nat) (s : BS) (ls : List Int) (W : World), i + k = ws.length → ArmInv s ls n i → Kp none_ w W → BankAt W b s (fun x => w.heap.size ≤ x ∧ x ≠ c) → W.heap[c]? = some (.cells (ints ls).toArray 64 (0, 0)) →
        X 0 [.int .i64 n, .pointer (some ⟨b, 0, none⟩), .pointer (some ⟨c, 0, none⟩), .slice av ws.length cv, .int .i64 ws.length, .int .i64 i] W := by
      intro k
      induction k with
      | zero =>
        intro i s ls W hi hI hkW hB hc
        obtain rfl : i = ws.length := by omega
        refine h0 _ _ _ _ _ _ _ ?_
        unfold F7_0
        simp (disch := first | omega | (simp only [size_alloc, size_set, heap_dr] <;> omega) | assumption | exact oneC_slice | exact oneC_int | exact oneC_bool | exact oneC_ptr | exact oneC_iface | exact oneC_nil | exact oneC_str | exact oneC_map | exact oneC_func | rfl) only [gs_dec_neg, bn_lss, and_true]
        refine bankUp_ok hB fun W' hk' hB' => ?_
        have hc' := hk'.blk hc (fun h => hB.fb.2 h.symm)
        have hkW' : Kp none_ w W' := hkW.trans' hk' fun x hx => .inr (hx ▸ hB.fb.1)
        rw [ld_ints hI.ll hc']
        have loop2 : ∀ (k j : Nat) (W2 : World), j + k = 15 → Kp none_ W' W2 → X 2 [.pointer (some ⟨b, 0, none⟩), .agg (ints ls).toArray, .int .i64 j] W2 := by
          intro k
          induction k with
          | zero =>
            intro j W2 hj hk2
            obtain rfl : j = 15 := by omega
            refine h2 _ _ _ _ ?_
            unfold F7_2
            simp (disch := first | omega | (simp only [size_alloc, size_set, heap_dr] <;> omega) | assumption | exact oneC_slice | exact oneC_int | exact oneC_bool | exact oneC_ptr | exact oneC_iface | exact oneC_nil | exact oneC_str | exact oneC_map | exact oneC_func | rfl) only [gs_dec_neg, bn_lss, and_true]
            refine bankDown_ok (hB'.kn hk2) ?_
            simp (disch := first | omega | (simp only [size_alloc, size_set, heap_dr] <;> omega) | assumption | exact oneC_slice | exact oneC_int | exact oneC_bool | exact oneC_ptr | exact oneC_iface | exact oneC_nil | exact oneC_str | exact oneC_map | exact oneC_func | rfl) only [un_not, and_true, Bool.not_false]
            exact hK _ (hkW'.trans hk2)
          | succ k ih =>
            intro j W2 hj hk2
            have hj15 : j < 15 := by omega
            have hjl : j < ls.length := by rw [hI.ll]; exact hj15
            have hc5 := hI.cel j ls[j] (List.getElem?_eq_getElem hjl)
            have hr5 := hI.rng ls[j] (List.getElem_mem hjl)
            have ht := hI.there hj15
            have hd5 := div5 j hj15
            have hm5 := mod5 j
            have hE2 := he.kpNew (hkW'.trans hk2)
            have hlt : ((j / 5 : Nat) : Int) < 3 := by omega
            have hw : IntKind.i64.wrap ((j : Int) + 1) = ((j + 1 : Nat) : Int) := wrap64 (by omega) (by omega)
            refine h2 _ _ _ _ ?_
            unfold F7_2
            have hlj : (j : Int) < 15 := by omega
            simp (disch := first | omega | (simp only [size_alloc, size_set, heap_dr] <;> omega) | assumption | exact oneC_slice | exact oneC_int | exact oneC_bool | exact oneC_ptr | exact oneC_iface | exact oneC_nil | exact oneC_str | exact oneC_map | exact oneC_func | rfl) only [gs_dec_pos, bn_quo, bn_rem, bn_lss, and_true, ix_ints hjl hI.ll, hd5, hm5]
            have hrd : bRead { s with down := false, armed := false, left := 0 } ((j / 5 : Nat) : Int) ((j % 5 : Nat) : Int) = asks (bcl s ((j / 5 : Nat) : Int)) ((j % 5 : Nat) : Int) := bRead_none ht rfl
            have hgb : getb Cel.head { s with down := false, armed := false, left := 0 } ((j / 5 : Nat) : Int) ((j % 5 : Nat) : Int) = getc Cel.head (bcl s ((j / 5 : Nat) : Int)) ((j % 5 : Nat) : Int) := getb_none hrd
            obtain ⟨hql, hqc⟩ := List.getElem?_eq_some_iff.1 hc5
            refine bankHead_ok (hB'.kn hk2) hE2 fun vh W3 hk3 hvh => ?_
            rw [hgb] at hvh
            rw [hrd]
            have hE3 := hE2.kpNew hk3
            have e1 := hE3.at_ 1 (by decide)
            unfold ErrAt at e1
            by_cases hx0 : ls[j] = 0
            · rw [if_pos hx0] at hqc
              have ha : asks (bcl s ((j / 5 : Nat) : Int)) ((j % 5 : Nat) : Int) = some 1 := by rw [asks_in hql, hqc]; rfl
              rw [ha]
              simp (disch := first | omega | (simp only [size_alloc, size_set, heap_dr] <;> omega) | assumption | exact oneC_slice | exact oneC_int | exact oneC_bool | exact oneC_ptr | exact oneC_iface | exact oneC_nil | exact oneC_str | exact oneC_map | exact oneC_func | rfl) only [gs_true, gs_false, ext_0, ext_1, bn_add, bn_eql, oK_some, cell_eq, and_true, eq_self, ld_26, hx0, decide_true, e1, err_neq (a := some 1) (g := 1) hE3 (by simp [LB]) (by decide), Bool.not_true, hw]
              exact ih (j + 1) _ (by omega) (hk2.trans hk3)
            · rw [if_neg hx0] at hqc hc5
              have ha : asks (bcl s ((j / 5 : Nat) : Int)) ((j % 5 : Nat) : Int) = none := by rw [asks_in hql, hqc]; rfl
              have hg : getc Cel.head (bcl s ((j / 5 : Nat) : Int)) ((j % 5 : Nat) : Int) = b2 (ls[j] - 1) := by
                unfold getc
                rw [if_pos ha, Int.toNat_natCast, hc5]
                rfl
              rw [ha]
              rw [hg] at hvh
              have hw1 : IntKind.i64.wrap (ls[j] - 1) = ls[j] - 1 := wrap64 (by omega) (by omega)
              simp (disch := first | omega | (simp only [size_alloc, size_set, heap_dr] <;> omega) | assumption | exact oneC_slice | exact oneC_int | exact oneC_bool | exact oneC_ptr | exact oneC_iface | exact oneC_nil | exact oneC_str | exact oneC_map | exact oneC_func | rfl) only [gs_false, gs_dec_neg, ext_0, ext_1, bn_sub, bn_eql, and_true, shr_eq, cnv_3_5, err_neq_nil, bn_shr8, Option.isNone_none, Bool.not_true, str_of hvh.by, hw1]
              rw [bsl_2]
              have b5 : (W3.alloc (.cells (u8s (b2 (ls[j] - 1))).toArray 5)).heap[W3.heap.size]? = some (.cells (u8s (b2 (ls[j] - 1))).toArray 5 (0, 0)) := heap_alloc_eq rfl
              have k5 : Kp none_ W3 (W3.alloc (.cells (u8s (b2 (ls[j] - 1))).toArray 5)) := Kp.refl.alloc _
              generalize W3.alloc (.cells (u8s (b2 (ls[j] - 1))).toArray 5) = W5 at b5 k5 ⊢
              simp (disch := first | omega | (simp only [size_alloc, size_set, heap_dr] <;> omega) | assumption | exact oneC_slice | exact oneC_int | exact oneC_bool | exact oneC_ptr | exact oneC_iface | exact oneC_nil | exact oneC_str | exact oneC_map | exact oneC_func | rfl) only [pick_bool, gs_false, bn_add, and_true, cond_false, eq_self, bn_str_neq, str_of (lit_by (n := 2) (bs := b2 (ls[j] - 1)) b5 rfl (by decide)), decide_true, Bool.not_true, hw]
              exact ih (j + 1) _ (by omega) ((hk2.trans hk3).trans k5)
        exact loop2 15 0 W' (by omega) .refl
      | succ k ih =>
        intro i s ls W hi hI hkW hB hc
        have hil : i < ws.length := by omega
        obtain ⟨bw, ow, cw, csw, ew, frw, hvw, hblw, hbw, hcw⟩ := (hv.kn hkW).at_ hil
        cases hvw
        obtain ⟨a, ha15, hat⟩ := at15 ws[i]
        have hd5 := div5 a ha15
        have hm5 := mod5 a
        have hd3 : ((a / 5 : Nat) : Int) < 3 := by omega
        have hw : IntKind.i64.wrap ((i : Int) + 1) = ((i + 1 : Nat) : Int) := wrap64 (by omega) (by omega)
        have ht := hI.there ha15
        refine h0 _ _ _ _ _ _ _ ?_
        unfold F7_0
        simp (disch := first | omega | (simp only [size_alloc, size_set, heap_dr] <;> omega) | assumption | exact oneC_slice | exact oneC_int | exact oneC_bool | exact oneC_ptr | exact oneC_iface | exact oneC_nil | exact oneC_str | exact oneC_map | exact oneC_func | rfl) only [gs_dec_pos, bn_add, bn_quo, bn_rem, bn_lss, oK_some, cell_eq, cellOf_some, Int.toNat_natCast, and_true, ia_50, ld_3, cnv_3_5, bn_shr8, hbw, hcw, hat]
        rw [bsl_2]
        have b5 : (W.alloc (.cells (u8s (b2 i)).toArray 5)).heap[W.heap.size]? = some (.cells (u8s (b2 i)).toArray 5 (0, 0)) := heap_alloc_eq rfl
        have k5 : Kp none_ W (W.alloc (.cells (u8s (b2 i)).toArray 5)) := Kp.refl.alloc _
        generalize W.alloc (.cells (u8s (b2 i)).toArray 5) = W5 at b5 k5 ⊢
        have hk5 := hkW.trans k5
        have hby : By W5 (.slice (some ⟨W.heap.size, 0, none⟩) 2 2) (b2 i) (fun x => x = W.heap.size) := lit_by b5 rfl (by decide)
        simp (disch := first | omega | (simp only [size_alloc, size_set, heap_dr] <;> omega) | assumption | exact oneC_slice | exact oneC_int | exact oneC_bool | exact oneC_ptr | exact oneC_iface | exact oneC_nil | exact oneC_str | exact oneC_map | exact oneC_func | rfl) only [and_true, bld_33_0, hd5, hm5]
        refine bankWrite_ok (G := fun x => x = W.heap.size) (hB.bound.kn k5) (he.kpNew hk5) hby Bo.nil.by (fun x hx hx' => by omega) (fun g hg => ⟨fun hx => by have := (he.lt hg).1; omega, fun hx => by have := (he.lt hg).2; omega⟩) fun W6 hk6 hB6 => ?_
        have sW := hkW.1
        have s5 := k5.1
        have hcl := blk_lt hc
        have hk06 : Kp none_ w W6 := hk5.trans' hk6 fun x hx => .inr hx.1.1
        have hB6' := hB6.mono (G := fun x => w.heap.size ≤ x ∧ x ≠ c) fun x hx => hx.elim (fun h => h.1) (fun h => ⟨by omega, by omega⟩)
        have hc6 := hk6.blk (k5.blk hc (fun h => h)) (fun h => h.1.2 rfl)
        have hE6 := he.kpNew hk06
        have e4 := hE6.at_ 4 (by decide)
        unfold ErrAt at e4
        obtain ⟨st1, st2⟩ := hI.step ha15 (by omega) hn2 (by omega : i < 17592186044416)
        generalize bWrite s ((a / 5 : Nat) : Int) ((a % 5 : Nat) : Int) (b2 i) [] = r at st1 st2 hB6'
        obtain ⟨s', e'⟩ := r
        have tail : ∀ (ls' : List Int) (W7 : World), ArmInv s' ls' n (i + 1) → Kp none_ w W7 → BankAt W7 b s' (fun x => w.heap.size ≤ x ∧ x ≠ c) → W7.heap[c]? = some (.cells (ints ls').toArray 64 (0, 0)) →
            X 3 [.int .i64 n, .pointer (some ⟨b, 0, none⟩), .pointer (some ⟨c, 0, none⟩), .int .i64 a, .slice (some ⟨bw, ow, none⟩) ws.length cv, .int .i64 ws.length, .int .i64 i] W7 := by
          intro ls' W7 hI7 hk7 hB7 hc7
          have ht7 := hI7.there ha15
          refine h3 _ _ _ _ _ _ _ _ ?_
          unfold F7_3
          simp (disch := first | omega | (simp only [size_alloc, size_set, heap_dr] <;> omega) | assumption | exact oneC_slice | exact oneC_int | exact oneC_bool | exact oneC_ptr | exact oneC_iface | exact oneC_nil | exact oneC_str | exact oneC_map | exact oneC_func | rfl) only [bn_quo, bn_rem, and_true, hd5, hm5]
          refine bankHead_ok hB7 (he.kpNew hk7) fun vh W8 hk8 hvh => ?_
          have hk08 := hk7.trans hk8
          have hE8 := he.kpNew hk08
          have hE8d := hE8.kpNew (Kp.refl.dr : Kp none_ W8 (dr W8))
          have e8 := hE8.at_ 4 (by decide)
          unfold ErrAt at e8
          simp (disch := first | omega | (simp only [size_alloc, size_set, heap_dr] <;> omega) | assumption | exact oneC_slice | exact oneC_int | exact oneC_bool | exact oneC_ptr | exact oneC_iface | exact oneC_nil | exact oneC_str | exact oneC_map | exact oneC_func | rfl) only [ext_0, ext_1, oK_some, cell_eq, heap_dr, true_and, and_true, eq_self, ld_26, e8, err_eql (g := 4) hE8d bRead_mem (by decide)]
          refine bankDown_ok ((hB7.kn hk8).kn (Kp.refl.dr : Kp none_ W8 (dr W8))) ?_
          simp (disch := first | omega | (simp only [size_alloc, size_set, heap_dr] <;> omega) | assumption | exact oneC_slice | exact oneC_int | exact oneC_bool | exact oneC_ptr | exact oneC_iface | exact oneC_nil | exact oneC_str | exact oneC_map | exact oneC_func | rfl) only [gs_false, bn_add, oK_some, cell_eq, heap_dr, true_and, and_true, eq_self, ld_26, bn_bool_neq4, e8, err_eql (g := 4) hE8d bRead_mem (by decide), bRead_four ht7, beq_self_eq_true, Bool.not_true, hw]
          exact ih (i + 1) _ _ _ (by omega) hI7 hk08.dr ((hB7.kn hk8).kn (Kp.refl.dr : Kp none_ W8 (dr W8))) (hk8.blk hc7 (fun h => h))
        by_cases hin : (i : Int) < n
        · obtain ⟨hr, hI'⟩ := st1 hin
          simp only at hr hI' hB6'
          subst hr
          have hdn := hI'.down
          have hwr := hI'.writes
          rw [decide_eq_false (by omega)] at hdn
          rw [if_pos (by omega)] at hwr
          simp (disch := first | omega | (simp only [size_alloc, size_set, heap_dr] <;> omega) | assumption | exact oneC_slice | exact oneC_int | exact oneC_bool | exact oneC_ptr | exact oneC_iface | exact oneC_nil | exact oneC_str | exact oneC_map | exact oneC_func | rfl) only [pick_bool, gs_false, bn_lss, and_true, cond_false, shr_eq, err_eql_nil, err_neq_nil, bn_bool_neq4, Option.isNone_none, decide_eq_true hin, beq_self_eq_true, Bool.not_true]
          refine bankDown_ok hB6' ?_
          rw [hdn]
          simp (disch := first | omega | (simp only [size_alloc, size_set, heap_dr] <;> omega) | assumption | exact oneC_slice | exact oneC_int | exact oneC_bool | exact oneC_ptr | exact oneC_iface | exact oneC_nil | exact oneC_str | exact oneC_map | exact oneC_func | rfl) only [pick_bool, gs_false, bn_geq, and_true, cond_false, shr_eq, bn_bool_neq4, decide_eq_false (show ¬ n ≤ (i : Int) by omega), beq_self_eq_true, Bool.not_true]
          refine bankWrites_ok hB6' ?_
          rw [hwr]
          simp (disch := first | omega | (simp only [size_alloc, size_set, heap_dr] <;> omega) | assumption | exact oneC_slice | exact oneC_int | exact oneC_bool | exact oneC_ptr | exact oneC_iface | exact oneC_nil | exact oneC_str | exact oneC_map | exact oneC_func | rfl) only [pick_bool, bn_add, bn_neq, min_int, and_true, cond_false, eq_self, hw, if_neg (show ¬ n < ((i + 1 : Nat) : Int) by omega), decide_true, Bool.not_true]
          refine h1 _ _ _ _ _ _ _ _ _ _ _ ?_
          unfold F7_1
          have hal : a < (ints ls).length := by rw [ints_len, hI.ll]; exact ha15
          have hg6 : (ints ls)[a]? = some (.int .i64 (ls[a]'(by rw [hI.ll]; exact ha15))) := by simp [ints, show a < ls.length by rw [hI.ll]; exact ha15]
          simp (disch := first | omega | (simp only [size_alloc, size_set, heap_dr] <;> omega) | assumption | exact oneC_slice | exact oneC_int | exact oneC_bool | exact oneC_ptr | exact oneC_iface | exact oneC_nil | exact oneC_str | exact oneC_map | exact oneC_func | rfl) only [gs_true, gs_false, bn_add, oK_some, cell_eq, frozen_eq, cellOf_some, frozenOf_some, List.getElem?_toArray, Nat.zero_add, Int.toNat_natCast, and_true, Bool.false_eq_true, if_false, ia_64, st_3, err_eql_nil, Option.isNone_none, hat, hc6, hw, hg6]
          have hset : Kp (fun x => x = c) W6 (W6.setCell ⟨c, a, none⟩ (.int .i64 ((i + 1 : Nat) : Int))) := Kp.set1
          refine tail (ls.set a (i + 1)) _ hI' (hk06.trans' hset fun x hx => .inr (by omega)) (hB6'.kp hset fun x hx hx' => hx.2 hx') ?_
          rw [heap_set_same, hc6, setOf_some, ints_set]
          rfl
        · obtain ⟨hr, hI'⟩ := st2 (by omega)
          simp only at hr hI' hB6'
          subst hr
          have hdn := hI'.down
          have hwr := hI'.writes
          rw [decide_eq_true (by omega)] at hdn
          rw [if_neg (by omega)] at hwr
          simp (disch := first | omega | (simp only [size_alloc, size_set, heap_dr] <;> omega) | assumption | exact oneC_slice | exact oneC_int | exact oneC_bool | exact oneC_ptr | exact oneC_iface | exact oneC_nil | exact oneC_str | exact oneC_map | exact oneC_func | rfl) only [pick_bool, gs_true, gs_false, bn_lss, oK_some, cell_eq, and_true, cond_true, cond_false, eq_self, shr_eq, ld_26, err_eql_nil, err_neq_nil, bn_bool_neq4, Option.isNone_some, decide_eq_false hin, beq_self_eq_true, Bool.not_true, Bool.not_false, e4, err_neq (a := some 4) (g := 4) hE6 (by simp [LB]) (by decide), decide_true]
          refine bankDown_ok hB6' ?_
          rw [hdn]
          simp (disch := first | omega | (simp only [size_alloc, size_set, heap_dr] <;> omega) | assumption | exact oneC_slice | exact oneC_int | exact oneC_bool | exact oneC_ptr | exact oneC_iface | exact oneC_nil | exact oneC_str | exact oneC_map | exact oneC_func | rfl) only [pick_bool, gs_false, bn_geq, and_true, cond_false, shr_eq, bn_bool_neq4, decide_eq_true (show n ≤ (i : Int) by omega), beq_self_eq_true, Bool.not_true]
          refine bankWrites_ok hB6' ?_
          rw [hwr]
          simp (disch := first | omega | (simp only [size_alloc, size_set, heap_dr] <;> omega) | assumption | exact oneC_slice | exact oneC_int | exact oneC_bool | exact oneC_ptr | exact oneC_iface | exact oneC_nil | exact oneC_str | exact oneC_map | exact oneC_func | rfl) only [pick_bool, bn_add, bn_neq, min_int, and_true, cond_false, eq_self, hw, if_pos (show n < ((i + 1 : Nat) : Int) by omega), decide_true, Bool.not_true]
          refine h1 _ _ _ _ _ _ _ _ _ _ _ ?_
          unfold F7_1
          simp (disch := first | omega | (simp only [size_alloc, size_set, heap_dr] <;> omega) | assumption | exact oneC_slice | exact oneC_int | exact oneC_bool | exact oneC_ptr | exact oneC_iface | exact oneC_nil | exact oneC_str | exact oneC_map | exact oneC_func | rfl) only [gs_false, and_true, err_eql_nil, Option.isNone_some, hat]
          exact tail ls _ hI' hk06 hB6' hc6
    exact loop ws.length 0 s0 _ w4 (by omega) hI k04 hB4 b4
end Go.Proofs.YtfiakplgifimkaaDoor
