/- A script of calls on drives, as it is read of memory. No statement of the seat is proved in this text. -/
import Derived.Test.YtfiakplgifimkaaDoorDisk3
namespace Go.Proofs.YtfiakplgifimkaaDoor
open Go.TS
set_option maxRecDepth 20000

/-- One call of a script. -/
structure OpD where
  kind : Int
  which : Int
  slot : Int
  head : List UInt8
  body : List UInt8
/-- A script that can be read at v. -/
def Ops (w : World) (v : Value) (ops : List OpD) (F : Nat → Prop) : Prop :=
  ∃ a c, v = .slice a ops.length c ∧ ops.length ≤ 17592186044416 ∧ (ops = [] ∨ ∃ b o cs e fr, a = some ⟨b, o, none⟩ ∧ F b ∧ w.heap[b]? = some (.cells cs e fr) ∧
    ∀ i (h : i < ops.length), ∃ vh vb, cs[o + i * 5]? = some (.int .i64 ops[i].kind) ∧ cs[o + i * 5 + 1]? = some (.int .i64 ops[i].which) ∧ cs[o + i * 5 + 2]? = some (.int .i64 ops[i].slot) ∧
      cs[o + i * 5 + 3]? = some vh ∧ cs[o + i * 5 + 4]? = some vb ∧ By w vh ops[i].head F ∧ By w vb ops[i].body F)
theorem Ops.kp {w w' : World} {v : Value} {ops : List OpD} {F S : Nat → Prop} (h : Ops w v ops F) (hk : Kp S w w') (hd : ∀ b, F b → ¬ S b) : Ops w' v ops F := by
  obtain ⟨a, c, h1, h2, h3⟩ := h
  refine ⟨a, c, h1, h2, h3.imp id fun ⟨b, o, cs, e, fr, h4, h5, h6, h7⟩ => ⟨b, o, cs, e, fr, h4, h5, hk.blk h6 (hd b h5), fun i hi => ?_⟩⟩
  obtain ⟨vh, vb, g1, g2, g3, g4, g5, g6, g7⟩ := h7 i hi
  exact ⟨vh, vb, g1, g2, g3, g4, g5, g6.kp hk hd, g7.kp hk hd⟩
theorem Ops.kn {w w' : World} {v : Value} {ops : List OpD} {F : Nat → Prop} (h : Ops w v ops F) (hk : Kp none_ w w') : Ops w' v ops F := h.kp hk fun _ _ h => h
theorem Ops.at_ {w : World} {v : Value} {ops : List OpD} {F : Nat → Prop} (h : Ops w v ops F) {i : Nat} (hi : i < ops.length) : ∃ b o c cs e fr vh vb, v = .slice (some ⟨b, o, none⟩) ops.length c ∧ b < w.heap.size ∧ w.heap[b]? = some (.cells cs e fr) ∧
    cs[o + i * 5]? = some (.int .i64 ops[i].kind) ∧ cs[o + i * 5 + 1]? = some (.int .i64 ops[i].which) ∧ cs[o + i * 5 + 2]? = some (.int .i64 ops[i].slot) ∧
      cs[o + i * 5 + 3]? = some vh ∧ cs[o + i * 5 + 4]? = some vb ∧ By w vh ops[i].head F ∧ By w vb ops[i].body F := by
  obtain ⟨a, c, h1, h2, h3⟩ := h
  rcases h3 with rfl | ⟨b, o, cs, e, fr, rfl, h5, h6, h7⟩
  · simp at hi
  · obtain ⟨vh, vb, g⟩ := h7 i hi
    exact ⟨b, o, c, cs, e, fr, vh, vb, h1, blk_lt h6, h6, g⟩
theorem Ops.len {w : World} {v : Value} {ops : List OpD} {F : Nat → Prop} (h : Ops w v ops F) : ∃ a c, v = .slice a ops.length c ∧ ops.length ≤ 17592186044416 := by
  obtain ⟨a, c, h1, h2, _⟩ := h
  exact ⟨a, c, h1, h2⟩

/-- DiskMeters. -/
theorem meters_ok {w : World} {E : Nat → Addr} {s : Int} {v : Value} {ops : List OpD} {F : Nat → Prop} {K : Value → World → Prop} (he : Errs w E [0, 1, 2]) (ho : Ops w v ops F) (hK : ∀ w', Kp none_ w w' → K (.bool true) w') :
    call Tryd.prog 4 #[.int .i64 s, v] w K := by
  refine F4_ok fun X h0 h1 => ?_
  unfold F4_s
  refine alive15_ok he fun w1 hk1 => ?_
  simp (disch := first | omega | (simp only [size_alloc, size_set, heap_dr] <;> omega) | assumption | exact oneC_slice | exact oneC_int | exact oneC_bool | exact oneC_ptr | exact oneC_iface | exact oneC_nil | exact oneC_str | exact oneC_map | exact oneC_func | rfl) only [gs_false, un_not, and_true, Bool.not_true]
  have he1 := he.kpNew hk1
  obtain ⟨av, cv, hv, hlen⟩ := ho.len
  subst hv
  refine new_ok (he1.at_ 2 (by simp)) (fun n hn h4 h256 w2 d a hk2 hD2 => ?_) (fun hno w2 hk2 => ?_)
  · have hk02 := hk1.trans hk2
    have loop : ∀ (m i : Nat) (sum : Int) (cl : List Cel) (a : Nat) (w3 : World), i + m = ops.length → Kp none_ w w3 → DriveAt w3 d a sum cl (fun b => w.heap.size ≤ b) →
        X 0 [.pointer (some ⟨d, 0, none⟩), .int .i64 sum, .slice av ops.length cv, .int .i64 ops.length, .int .i64 i] w3 := by
      intro m
      induction m with
      | zero =>
        intro i sum cl a w3 hi hk hD
        obtain rfl : i = ops.length := by omega
        refine h0 _ _ _ _ _ _ ?_
        unfold F4_0
        simp (disch := first | omega | (simp only [size_alloc, size_set, heap_dr] <;> omega) | assumption | exact oneC_slice | exact oneC_int | exact oneC_bool | exact oneC_ptr | exact oneC_iface | exact oneC_nil | exact oneC_str | exact oneC_map | exact oneC_func | rfl) only [gs_dec_neg, bn_lss, and_true]
        exact hK _ hk
      | succ m ih =>
        intro i sum cl a w3 hi hk hD
        have hil : i < ops.length := by omega
        have step : ∀ (sum' : Int) (cl' : List Cel) (a' : Nat) (w4 : World), Kp none_ w w4 → DriveAt w4 d a' sum' cl' (fun b => w.heap.size ≤ b) →
            X 1 [.pointer (some ⟨d, 0, none⟩), .int .i64 sum', .slice av ops.length cv, .int .i64 ops.length, .int .i64 i] w4 := by
          intro sum' cl' a' w4 hk4 hD4
          refine h1 _ _ _ _ _ _ ?_
          unfold F4_1
          simp (disch := first | omega | (simp only [size_alloc, size_set, heap_dr] <;> omega) | assumption | exact oneC_slice | exact oneC_int | exact oneC_bool | exact oneC_ptr | exact oneC_iface | exact oneC_nil | exact oneC_str | exact oneC_map | exact oneC_func | rfl) only [ck_ptr, and_true, fa_48_0]
          refine meter_ok hD4 ?_
          simp (disch := first | omega | (simp only [size_alloc, size_set, heap_dr] <;> omega) | assumption | exact oneC_slice | exact oneC_int | exact oneC_bool | exact oneC_ptr | exact oneC_iface | exact oneC_nil | exact oneC_str | exact oneC_map | exact oneC_func | rfl) only [gs_false, bn_add, bn_neq, wrap64, and_true, eq_self, Bool.not_true, decide_true]
          exact ih (i + 1) _ _ _ _ (by omega) hk4 hD4
        obtain ⟨b, o, c, cs, e, fr, vh, vb, hv, hbl, hb, c0, c1, c2, c3, c4, hh, hbd⟩ := (ho.kn hk).at_ hil
        cases hv
        have e1 := hh.one
        have e2 := hbd.one
        have hE := he.kpNew hk
        have hfd := hD.fd
        have hfa := hD.fa
        have ka : Kp none_ w3 (w3.alloc (.cells #[.int .i64 ops[i].kind, .int .i64 ops[i].which, .int .i64 ops[i].slot, vh, vb] 35)) := Kp.refl.alloc _
        have hka := hk.trans ka
        have hDa := hD.kn ka
        have hEa := he.kpNew hka
        refine h0 _ _ _ _ _ _ ?_
        unfold F4_0
        by_cases k1 : ops[i].kind = 1
        · simp (disch := first | omega | (simp only [size_alloc, size_set, heap_dr] <;> omega) | assumption | exact oneC_slice | exact oneC_int | exact oneC_bool | exact oneC_ptr | exact oneC_iface | exact oneC_nil | exact oneC_str | exact oneC_map | exact oneC_func | rfl) only [gs_dec_pos, bn_lss, bn_eql, oK_some, cell_eq, cellOf_some, heap_alloc_eq, List.getElem?_toArray, List.getElem?_cons_zero, List.getElem?_cons_succ, Nat.zero_add, Int.toNat_natCast, and_true, Nat.reduceAdd, ia_22, ld_35, ↓alst_35, fa_35_0, ld_3, fa_35_2, fa_35_3, ld_33, hb, c0, c1, c2, c3, c4]
          refine write_ok (hDa) (hEa.at_ 2 (by simp)) (hh.kn ka) (hbd.kn ka) fun w4 hk4 hD4 => ?_
          exact step _ _ _ _ (hka.trans' hk4 fun x hx => .inr (by omega)) (hD4.mono fun b hb => by rcases hb with h | h; exact h; have := hka.1; omega)
        by_cases k2 : ops[i].kind = 2
        · simp (disch := first | omega | (simp only [size_alloc, size_set, heap_dr] <;> omega) | assumption | exact oneC_slice | exact oneC_int | exact oneC_bool | exact oneC_ptr | exact oneC_iface | exact oneC_nil | exact oneC_str | exact oneC_map | exact oneC_func | rfl) only [gs_dec_pos, gs_dec_neg, bn_lss, bn_eql, oK_some, cell_eq, cellOf_some, heap_alloc_eq, List.getElem?_toArray, List.getElem?_cons_zero, List.getElem?_cons_succ, Nat.zero_add, Int.toNat_natCast, and_true, ia_22, ld_35, ↓alst_35, fa_35_0, ld_3, fa_35_2, hb, c0, c1, c2, c3, c4]
          refine head_ok hDa (hEa.at_ 0 (by simp)) (hEa.at_ 1 (by simp)) (hEa.at_ 2 (by simp)) fun v w4 hk4 _ => ?_
          exact step _ _ _ _ (hka.trans hk4) (hDa.kn hk4)
        by_cases k4 : ops[i].kind = 4
        · simp (disch := first | omega | (simp only [size_alloc, size_set, heap_dr] <;> omega) | assumption | exact oneC_slice | exact oneC_int | exact oneC_bool | exact oneC_ptr | exact oneC_iface | exact oneC_nil | exact oneC_str | exact oneC_map | exact oneC_func | rfl) only [gs_dec_pos, gs_dec_neg, bn_lss, bn_eql, oK_some, cell_eq, cellOf_some, heap_alloc_eq, List.getElem?_toArray, List.getElem?_cons_zero, List.getElem?_cons_succ, Nat.zero_add, Int.toNat_natCast, and_true, ia_22, ld_35, ↓alst_35, fa_35_0, ld_3, fa_35_2, hb, c0, c1, c2, c3, c4]
          refine look_ok hDa fun vh vb w4 m hk4 _ _ _ => ?_
          exact step _ _ _ _ (hka.trans hk4) (hDa.kn hk4)
        by_cases k5 : ops[i].kind = 5
        · simp (disch := first | omega | (simp only [size_alloc, size_set, heap_dr] <;> omega) | assumption | exact oneC_slice | exact oneC_int | exact oneC_bool | exact oneC_ptr | exact oneC_iface | exact oneC_nil | exact oneC_str | exact oneC_map | exact oneC_func | rfl) only [gs_dec_pos, gs_dec_neg, bn_lss, bn_eql, oK_some, cell_eq, cellOf_some, heap_alloc_eq, List.getElem?_toArray, List.getElem?_cons_zero, Int.toNat_natCast, and_true, ia_22, ld_35, ↓alst_35, fa_35_0, ld_3, hb, c0, c1, c2, c3, c4]
          refine wipe_ok hDa fun w4 a' hk4 hD4 => ?_
          exact step _ _ _ _ (hka.trans' hk4 fun x hx => .inr (by omega)) (hD4.mono fun b hb => by rcases hb with h | h; exact h; have := hka.1; omega)
        by_cases k6 : ops[i].kind = 6
        · simp (disch := first | omega | (simp only [size_alloc, size_set, heap_dr] <;> omega) | assumption | exact oneC_slice | exact oneC_int | exact oneC_bool | exact oneC_ptr | exact oneC_iface | exact oneC_nil | exact oneC_str | exact oneC_map | exact oneC_func | rfl) only [gs_dec_pos, gs_dec_neg, bn_lss, bn_eql, oK_some, cell_eq, cellOf_some, heap_alloc_eq, List.getElem?_toArray, List.getElem?_cons_zero, List.getElem?_cons_succ, Nat.zero_add, Int.toNat_natCast, and_true, ia_22, ld_35, ↓alst_35, fa_35_0, ld_3, fa_35_2, hb, c0, c1, c2, c3, c4]
          refine spoil_ok hDa (hEa.at_ 2 (by simp)) fun w4 hk4 hD4 => ?_
          exact step _ _ _ _ (hka.trans' hk4 fun x hx => .inr (by omega)) hD4
        by_cases k3 : ops[i].kind = 3
        · simp (disch := first | omega | (simp only [size_alloc, size_set, heap_dr] <;> omega) | assumption | exact oneC_slice | exact oneC_int | exact oneC_bool | exact oneC_ptr | exact oneC_iface | exact oneC_nil | exact oneC_str | exact oneC_map | exact oneC_func | rfl) only [gs_dec_pos, gs_dec_neg, bn_lss, bn_eql, oK_some, cell_eq, cellOf_some, heap_alloc_eq, List.getElem?_toArray, List.getElem?_cons_zero, List.getElem?_cons_succ, Nat.zero_add, Int.toNat_natCast, and_true, ia_22, ld_35, ↓alst_35, fa_35_0, ld_3, fa_35_2, hb, c0, c1, c2, c3, c4]
          refine body_ok hDa (hEa.at_ 0 (by simp)) (hEa.at_ 1 (by simp)) (hEa.at_ 2 (by simp)) fun v w4 hk4 hD4 hv => ?_
          obtain ⟨a5, c5, rfl⟩ := hv.by.val
          simp (disch := first | omega | (simp only [size_alloc, size_set, heap_dr] <;> omega) | assumption | exact oneC_slice | exact oneC_int | exact oneC_bool | exact oneC_ptr | exact oneC_iface | exact oneC_nil | exact oneC_str | exact oneC_map | exact oneC_func | rfl) only [ext_0, ext_1, bn_add, and_true, len_31]
          exact step _ _ _ _ (hka.trans' hk4 fun x hx => .inr (by omega)) hD4
        · simp (disch := first | omega | (simp only [size_alloc, size_set, heap_dr] <;> omega) | assumption | exact oneC_slice | exact oneC_int | exact oneC_bool | exact oneC_ptr | exact oneC_iface | exact oneC_nil | exact oneC_str | exact oneC_map | exact oneC_func | rfl) only [gs_dec_pos, gs_dec_neg, bn_lss, bn_eql, oK_some, cell_eq, cellOf_some, heap_alloc_eq, List.getElem?_toArray, List.getElem?_cons_zero, Int.toNat_natCast, and_true, ia_22, ld_35, ↓alst_35, fa_35_0, ld_3, hb, c0, c1, c2, c3, c4]
          exact step _ _ _ _ hka hDa
    simp (disch := first | omega | (simp only [size_alloc, size_set, heap_dr] <;> omega) | assumption | exact oneC_slice | exact oneC_int | exact oneC_bool | exact oneC_ptr | exact oneC_iface | exact oneC_nil | exact oneC_str | exact oneC_map | exact oneC_func | rfl) only [gs_false, ext_0, ext_1, and_true, len_22, nil_neq]
    exact loop ops.length 0 _ _ _ _ (by omega) hk02 (hD2.mono fun b hb => by have := hk1.1; omega)
  · simp (disch := first | omega | (simp only [size_alloc, size_set, heap_dr] <;> omega) | assumption | exact oneC_slice | exact oneC_int | exact oneC_bool | exact oneC_ptr | exact oneC_iface | exact oneC_nil | exact oneC_str | exact oneC_map | exact oneC_func | rfl) only [gs_true, ext_0, ext_1, and_true, err_neq_nil, Option.isNone_some, Bool.not_false]
    refine legal_ok ?_
    have hl : decide (4 ≤ s ∧ s ≤ 256) = false := decide_eq_false (by omega)
    rw [hl]
    simp (disch := first | omega | (simp only [size_alloc, size_set, heap_dr] <;> omega) | assumption | exact oneC_slice | exact oneC_int | exact oneC_bool | exact oneC_ptr | exact oneC_iface | exact oneC_nil | exact oneC_str | exact oneC_map | exact oneC_func | rfl) only [un_not, and_true, Bool.not_false]
    exact hK _ (hk1.trans hk2)
end Go.Proofs.YtfiakplgifimkaaDoor
