/- DiskLooks over memory. No statement of the seat is proved in this text. -/
import Derived.Test.YtfiakplgifimkaaDoorScript
import Derived.Test.YtfiakplgifimkaaDoorNum
import Derived.Test.YtfiakplgifimkaaDoorKeeps
namespace Go.Proofs.YtfiakplgifimkaaDoor
open Go.TS
set_option maxRecDepth 20000

theorem getl_at {f : Cel → List UInt8} {cl : List Cel} {i : Nat} {c : Cel} (h : cl[i]? = some c) : getl f cl (i : Int) = if c.full then f c else [] := by
  obtain ⟨hi, rfl⟩ := List.getElem?_eq_some_iff.1 h
  unfold getl
  rw [isFull_in hi]
  cases hf : cl[i].full <;> simp [hi]
theorem isFull_at {cl : List Cel} {i : Nat} {c : Cel} (h : cl[i]? = some c) : isFull cl (i : Int) = c.full := by
  obtain ⟨hi, rfl⟩ := List.getElem?_eq_some_iff.1 h
  exact isFull_in hi
theorem usedFrom_empties {n i : Nat} : usedFrom (empties n) i = [] := by
  have : ∀ j : Nat, isFull (empties n) (j : Int) = false := fun j => by
    by_cases h : j < n
    · rw [isFull_at (c := emptyC) (by simp [empties, h])]; rfl
    · exact isFull_out (by simp [empties]; omega)
  unfold usedFrom
  simp [this]

/-- DiskLooks. -/
theorem looks_ok {w : World} {E : Nat → Addr} {s : Int} {v : Value} {ops : List OpD} {F : Nat → Prop} {K : Value → World → Prop} (he : Errs w E [0, 1, 2]) (ho : Ops w v ops F) (hK : ∀ w', Kp none_ w w' → K (.bool true) w') :
    call Tryd.prog 5 #[.int .i64 s, v] w K := by
  refine F5_ok fun X h0 h1 h2 h3 h4 h5 => ?_
  unfold F5_s
  refine alive15_ok he fun w1 hk1 => ?_
  simp (disch := first | omega | (simp only [size_alloc, size_set, heap_dr] <;> omega) | assumption | exact oneC_slice | exact oneC_int | exact oneC_bool | exact oneC_ptr | exact oneC_iface | exact oneC_nil | exact oneC_str | exact oneC_map | exact oneC_func | rfl) only [gs_false, un_not, and_true, Bool.not_true]
  have he1 := he.kpNew hk1
  obtain ⟨av, cv, hv, hlen⟩ := ho.len
  subst hv
  refine new_ok (he1.at_ 2 (by simp)) (fun n hn hn4 h256 w2 d a hk2 hD2 => ?_) (fun hno w2 hk2 => ?_)
  · have hk02 := hk1.trans hk2
    subst hn
    have loop : ∀ (m i : Nat) (rd : Int) (cl : List Cel) (a : Nat) (w3 : World), i + m = ops.length → cl.length = n → Kp none_ w w3 → DriveAt w3 d a rd cl (fun b => w.heap.size ≤ b) →
        X 0 [.int .i64 n, .pointer (some ⟨d, 0, none⟩), .slice av ops.length cv, .int .i64 ops.length, .int .i64 i] w3 := by
      intro m
      induction m with
      | zero =>
        intro i rd cl a w3 hi hcl hk hD
        obtain rfl : i = ops.length := by omega
        refine h0 _ _ _ _ _ _ ?_
        unfold F5_0
        simp (disch := first | omega | (simp only [size_alloc, size_set, heap_dr] <;> omega) | assumption | exact oneC_slice | exact oneC_int | exact oneC_bool | exact oneC_ptr | exact oneC_iface | exact oneC_nil | exact oneC_str | exact oneC_map | exact oneC_func | rfl) only [gs_dec_neg, bn_lss, and_true]
        exact hK _ hk
      | succ m ih =>
        intro i rd cl a w3 hi hcl hk hD
        have hil : i < ops.length := by omega
        have step : ∀ (kd x1 x2 : Int) (u1 u2 : Value) (b8 : Nat) (rd' : Int) (cl' : List Cel) (a' : Nat) (w4 : World), cl'.length = n → (kd = 5 → cl' = empties n) → w.heap.size ≤ b8 → w4.heap[b8]? = some (.cells #[.int .i64 kd, .int .i64 x1, .int .i64 x2, u1, u2] 35 (0, 0)) → Kp none_ w w4 → DriveAt w4 d a' rd' cl' (fun b => w.heap.size ≤ b) →
            X 1 [.int .i64 n, .pointer (some ⟨d, 0, none⟩), .pointer (some ⟨b8, 0, none⟩), .slice av ops.length cv, .int .i64 ops.length, .int .i64 i] w4 := by
          intro kd x1 x2 u1 u2 b8 rd' cl' a' w4 hcl' hkd hb8 hB4 hk4 hD4
          obtain ⟨L, hL, hLn, hL12⟩ : ∃ L : Nat, (if (12 : Int) < n then (12 : Int) else (n : Int)) = (L : Int) ∧ L ≤ n ∧ (n ≤ 12 → L = n) := by
            by_cases h : 12 < n
            · exact ⟨12, by rw [if_pos (by omega)]; rfl, by omega, by omega⟩
            · exact ⟨n, by rw [if_neg (by omega)], by omega, fun _ => rfl⟩
          have inner : ∀ (m j : Nat) (t9 : Value) (w5 : World), j + m = L → Io w5 t9 (usedFrom cl' j) (fun b => w4.heap.size ≤ b) → Kp none_ w4 w5 →
              X 2 [.int .i64 n, .pointer (some ⟨d, 0, none⟩), .pointer (some ⟨b8, 0, none⟩), t9, .int .i64 j, .slice av ops.length cv, .int .i64 ops.length, .int .i64 i] w5 := by
            intro m
            induction m with
            | zero =>
              intro j t9 w5 hj ho5 hk5
              obtain rfl : j = L := by omega
              have hk45 := hk4.trans hk5
              have hD5 := hD4.kn hk5
              have hB5 := hk5.blk hB4 (fun h => h)
              have go : ∀ W, Kp none_ w5 W → X 4 [.int .i64 n, .pointer (some ⟨d, 0, none⟩), .slice av ops.length cv, .int .i64 ops.length, .int .i64 i, .bool false] W := by
                intro W hW
                refine h4 _ _ _ _ _ _ _ ?_
                unfold F5_4
                simp (disch := first | omega | (simp only [size_alloc, size_set, heap_dr] <;> omega) | assumption | exact oneC_slice | exact oneC_int | exact oneC_bool | exact oneC_ptr | exact oneC_iface | exact oneC_nil | exact oneC_str | exact oneC_map | exact oneC_func | rfl) only [gs_false, bn_add, wrap64, and_true]
                exact ih (i + 1) _ _ _ _ (by omega) hcl' (hk45.trans hW) (hD5.kn hW)
              obtain ⟨a9, c9, rfl⟩ := ho5.in.val
              have hBW : ∀ W, Kp none_ w5 W → W.heap[b8]? = some (.cells #[.int .i64 kd, .int .i64 x1, .int .i64 x2, u1, u2] 35 (0, 0)) := fun W hW => hW.blk hB5 (fun h => h)
              refine h2 _ _ _ _ _ _ _ _ _ ?_
              unfold F5_2
              have hul := usedFrom_len (cl := cl') (i := j)
              by_cases hn12 : n ≤ 12
              · obtain rfl := hL12 hn12
                simp (disch := first | omega | (simp only [size_alloc, size_set, heap_dr] <;> omega) | assumption | exact oneC_slice | exact oneC_int | exact oneC_bool | exact oneC_ptr | exact oneC_iface | exact oneC_nil | exact oneC_str | exact oneC_map | exact oneC_func | rfl) only [gs_dec_pos, gs_dec_neg, bn_lss, bn_leq, min_int, and_true, shr_eq, hL]
                refine used_ok hD5 fun tu w6 hk6 hu6 => ?_
                refine sameInts_ok hu6.in (ho5.in.kn hk6) (by have := usedFrom_len (cl := cl') (i := cl'.length); omega) fun w7 hk7 => ?_
                have hk67 := hk6.trans hk7
                have hB7 := hBW _ hk67
                rw [hcl']
                by_cases hkd5 : kd = 5
                · have hem : usedFrom cl' j = [] := by rw [hkd hkd5]; exact usedFrom_empties
                  simp (disch := first | omega | (simp only [size_alloc, size_set, heap_dr] <;> omega) | assumption | exact oneC_slice | exact oneC_int | exact oneC_bool | exact oneC_ptr | exact oneC_iface | exact oneC_nil | exact oneC_str | exact oneC_map | exact oneC_func | rfl) only [pick_bool, gs_false, gs_dec_pos, un_not, bn_eql, bn_neq, oK_some, cell_eq, cellOf_some, List.getElem?_toArray, List.getElem?_cons_zero, and_true, cond_true, cond_false, eq_self, shr_eq, fa_35_0, ld_3, len_50, decide_true, Bool.not_true, hB7, hem, List.length_nil, Int.ofNat_zero]
                  exact go _ hk67
                · simp (disch := first | omega | (simp only [size_alloc, size_set, heap_dr] <;> omega) | assumption | exact oneC_slice | exact oneC_int | exact oneC_bool | exact oneC_ptr | exact oneC_iface | exact oneC_nil | exact oneC_str | exact oneC_map | exact oneC_func | rfl) only [pick_bool, gs_false, gs_dec_neg, un_not, bn_eql, oK_some, cell_eq, cellOf_some, List.getElem?_toArray, List.getElem?_cons_zero, and_true, cond_true, cond_false, eq_self, shr_eq, fa_35_0, ld_3, decide_true, Bool.not_true, hB7]
                  exact go _ hk67
              · by_cases hkd5 : kd = 5
                · have hem : usedFrom cl' j = [] := by rw [hkd hkd5]; exact usedFrom_empties
                  simp (disch := first | omega | (simp only [size_alloc, size_set, heap_dr] <;> omega) | assumption | exact oneC_slice | exact oneC_int | exact oneC_bool | exact oneC_ptr | exact oneC_iface | exact oneC_nil | exact oneC_str | exact oneC_map | exact oneC_func | rfl) only [pick_bool, gs_false, gs_dec_pos, gs_dec_neg, bn_lss, bn_leq, bn_eql, bn_neq, oK_some, cell_eq, cellOf_some, min_int, List.getElem?_toArray, List.getElem?_cons_zero, and_true, cond_true, cond_false, eq_self, shr_eq, fa_35_0, ld_3, len_50, hL, decide_true, Bool.not_true, hB5, hem, List.length_nil, Int.ofNat_zero]
                  exact go _ .refl
                · simp (disch := first | omega | (simp only [size_alloc, size_set, heap_dr] <;> omega) | assumption | exact oneC_slice | exact oneC_int | exact oneC_bool | exact oneC_ptr | exact oneC_iface | exact oneC_nil | exact oneC_str | exact oneC_map | exact oneC_func | rfl) only [pick_bool, gs_false, gs_dec_neg, bn_lss, bn_leq, bn_eql, oK_some, cell_eq, cellOf_some, min_int, List.getElem?_toArray, List.getElem?_cons_zero, and_true, cond_false, shr_eq, fa_35_0, ld_3, hL, hB5]
                  exact go _ .refl
            | succ m ihn =>
              intro j t9 w5 hj ho5 hk5
              have hjn : j < n := by omega
              have hk45 := hk4.trans hk5
              have hD5 := hD4.kn hk5
              obtain ⟨c, hc⟩ : ∃ c, cl'[j]? = some c := ⟨_, List.getElem?_eq_getElem (by omega)⟩
              refine h2 _ _ _ _ _ _ _ _ _ ?_
              unfold F5_2
              simp (disch := first | omega | (simp only [size_alloc, size_set, heap_dr] <;> omega) | assumption | exact oneC_slice | exact oneC_int | exact oneC_bool | exact oneC_ptr | exact oneC_iface | exact oneC_nil | exact oneC_str | exact oneC_map | exact oneC_func | rfl) only [gs_dec_pos, bn_lss, min_int, and_true, hL]
              refine look_ok hD5 fun vh vb w6 mm hk6 hmm hvh hvb => ?_
              have e1 := hvh.by.one
              have e2 := hvb.by.one
              rw [isFull_at hc]
              rw [getl_at hc] at hvh hvb
              have hk56 := hk45.trans hk6
              have hal : Kp none_ w6 (w6.alloc (.cells #[vh, vb] 33)) := Kp.refl.alloc _
              have hul := usedFrom_len (cl := cl') (i := j)
              have hus := usedFrom_succ (cl := cl') (i := j)
              rw [isFull_at hc] at hus
              have s5 := hk5.1
              have s6 := hk6.1
              have rest : ∀ (t9' : Value) (w7 : World), Io w7 t9' (usedFrom cl' (j + 1)) (fun b => w4.heap.size ≤ b) → Kp none_ w4 w7 → w7.heap[w6.heap.size]? = some (.cells #[vh, vb] 33 (0, 0)) → Bo w7 vh (if c.full then c.head else []) (fun b => w5.heap.size ≤ b ∧ b < mm) →
                  X 3 [.int .i64 n, .pointer (some ⟨d, 0, none⟩), .pointer (some ⟨b8, 0, none⟩), t9', .int .i64 j, .pointer (some ⟨w6.heap.size, 0, none⟩), .bool c.full, .slice av ops.length cv, .int .i64 ops.length, .int .i64 i] w7 := by
                intro t9' w7 ho7 hk7 hB7 hv7
                have hE7 := he.kpNew (hk4.trans hk7)
                have go : ∀ W, Kp none_ w7 W → X 5 [.int .i64 n, .pointer (some ⟨d, 0, none⟩), .pointer (some ⟨b8, 0, none⟩), t9', .int .i64 j, .slice av ops.length cv, .int .i64 ops.length, .int .i64 i, .bool false] W := by
                  intro W hW
                  refine h5 _ _ _ _ _ _ _ _ _ _ ?_
                  unfold F5_5
                  simp (disch := first | omega | (simp only [size_alloc, size_set, heap_dr] <;> omega) | assumption | exact oneC_slice | exact oneC_int | exact oneC_bool | exact oneC_ptr | exact oneC_iface | exact oneC_nil | exact oneC_str | exact oneC_map | exact oneC_func | rfl) only [gs_false, bn_add, wrap64, and_true]
                  exact ihn (j + 1) _ _ (by omega) (ho7.kn hW) (hk7.trans hW)
                refine h3 _ _ _ _ _ _ _ _ _ _ _ ?_
                unfold F5_3
                refine head_ok (hD4.kn hk7) (hE7.at_ 0 (by simp)) (hE7.at_ 1 (by simp)) (hE7.at_ 2 (by simp)) fun vh8 w8 hk8 hv8 => ?_
                have hE8 := hE7.kpNew hk8
                have e1e := hE8.at_ 1 (by simp)
                unfold ErrAt at e1e
                have hB8 := hk8.blk hB7 (fun h => h)
                rw [asks_at hc]
                rw [getc_at hc] at hv8
                cases hb : c.bad with
                | true =>
                  simp (disch := first | omega | (simp only [size_alloc, size_set, heap_dr] <;> omega) | assumption | exact oneC_slice | exact oneC_int | exact oneC_bool | exact oneC_ptr | exact oneC_iface | exact oneC_nil | exact oneC_str | exact oneC_map | exact oneC_func | rfl) only [pick_bool, gs_false, ext_0, ext_1, oK_some, cell_eq, and_true, cond_false, eq_self, shr_eq, ld_26, err_eql_nil, if_true, Option.isNone_some, e1e, err_eql (a := some 0) (g := 1) hE8 (by simp) (by simp), show decide ((some 0 : Option Nat) = some 1) = false from rfl]
                  exact go _ hk8
                | false =>
                  cases hf : c.full with
                  | false =>
                    simp (disch := first | omega | (simp only [size_alloc, size_set, heap_dr] <;> omega) | assumption | exact oneC_slice | exact oneC_int | exact oneC_bool | exact oneC_ptr | exact oneC_iface | exact oneC_nil | exact oneC_str | exact oneC_map | exact oneC_func | rfl) only [pick_bool, gs_true, gs_false, ext_0, ext_1, oK_some, cell_eq, and_true, Bool.false_eq_true, if_false, cond_true, cond_false, eq_self, shr_eq, ld_26, err_eql_nil, Option.isNone_some, e1e, err_eql (a := some 1) (g := 1) hE8 (by simp) (by simp), decide_true]
                    exact go _ hk8
                  | true =>
                    rw [hb, hf] at hv8
                    rw [hf] at hv7
                    simp only [Bool.false_eq_true, if_false, if_true] at hv8 hv7
                    simp (disch := first | omega | (simp only [size_alloc, size_set, heap_dr] <;> omega) | assumption | exact oneC_slice | exact oneC_int | exact oneC_bool | exact oneC_ptr | exact oneC_iface | exact oneC_nil | exact oneC_str | exact oneC_map | exact oneC_func | rfl) only [gs_true, gs_false, ext_0, ext_1, un_not, oK_some, cell_eq, cellOf_some, List.getElem?_toArray, List.getElem?_cons_zero, and_true, Bool.false_eq_true, if_false, eq_self, shr_eq, fa_33_0, ld_31, err_eql_nil, if_true, Option.isNone_none, Bool.not_true, hB8]
                    refine sameBytes_ok hv8.by (hv7.by.kn hk8) ?_
                    simp (disch := first | omega | (simp only [size_alloc, size_set, heap_dr] <;> omega) | assumption | exact oneC_slice | exact oneC_int | exact oneC_bool | exact oneC_ptr | exact oneC_iface | exact oneC_nil | exact oneC_str | exact oneC_map | exact oneC_func | rfl) only [pick_bool, gs_false, un_not, oK_some, cell_eq, and_true, cond_true, cond_false, eq_self, shr_eq, ld_26, decide_true, Bool.not_true, e1e, err_eql (a := none) (g := 1) hE8 (by simp) (by simp), show decide ((none : Option Nat) = some 1) = false from rfl]
                    exact go _ hk8
              cases hf : c.full with
              | false =>
                rw [hf] at hus
                simp only [Bool.false_eq_true, if_false, List.append_nil] at hus
                rw [hf] at rest hvh
                simp (disch := first | omega | (simp only [size_alloc, size_set, heap_dr] <;> omega) | assumption | exact oneC_slice | exact oneC_int | exact oneC_bool | exact oneC_ptr | exact oneC_iface | exact oneC_nil | exact oneC_str | exact oneC_map | exact oneC_func | rfl) only [gs_false, ext_0, ext_1, and_true, ↓alst_33]
                refine rest _ _ ?_ ((hk5.trans hk6).trans hal) (heap_alloc_eq rfl) (hvh.kn hal)
                rw [hus]
                exact (ho5.kn hk6).kn hal
              | true =>
                rw [hf] at hus
                simp only [if_true] at hus
                rw [hf] at rest hvh
                simp (disch := first | omega | (simp only [size_alloc, size_set, heap_dr] <;> omega) | assumption | exact oneC_slice | exact oneC_int | exact oneC_bool | exact oneC_ptr | exact oneC_iface | exact oneC_nil | exact oneC_str | exact oneC_map | exact oneC_func | rfl) only [gs_true, ext_0, ext_1, and_true, ↓alst_33]
                have hoa : Io (w6.alloc (.cells #[vh, vb] 33)) t9 (usedFrom cl' j) (fun b => w4.heap.size ≤ b) := (ho5.kn hk6).kn hal
                refine app1_ok (is := usedFrom cl' j) (F := fun b => w4.heap.size ≤ b ∧ b < w5.heap.size) ?_ (by omega) (by kernel_rfl) fun v' w7 hk7 ho7 => ?_
                · exact (Own.bound ho5).kn (hk6.trans hal)
                · have hz : (w6.alloc (.cells #[vh, vb] 33)).heap.size = w6.heap.size + 1 := size_alloc
                  refine rest _ _ ?_ (((hk5.trans hk6).trans hal).trans' hk7 fun x hx => .inr (by omega)) (hk7.blk (heap_alloc_eq rfl) (by omega)) ((hvh.kn hal).kp hk7 fun b hb hx => by omega)
                  rw [hus]
                  exact Own.mono ho7 fun b hb => by rcases hb with h | h; exact h.1; omega
          refine h1 _ _ _ _ _ _ _ ?_
          unfold F5_1
          rw [bsl_0 (e := 3) (n := 1) (by kernel_rfl) (by kernel_rfl)]
          have hal : Kp none_ w4 (w4.alloc (.cells #[] 3)) := Kp.refl.alloc _
          refine inner L 0 _ _ (by omega) ?_ hal
          exact Own.made (n := 0) (sz := 1) (F := fun b => w4.heap.size ≤ b) (cs := #[]) (heap_alloc_eq rfl) (Nat.le_refl _) rfl (by simp)
        obtain ⟨b, o, k, cs, e, fr, vh, vb, hv, hbl, hb, c0, c1, c2, c3, c4, hh, hbd⟩ := (ho.kn hk).at_ hil
        cases hv
        have e1 := hh.one
        have e2 := hbd.one
        have hE := he.kpNew hk
        have hfd := hD.fd
        have hfa := hD.fa
        have hal := blk_lt hD.cells.choose_spec.1
        have hdl := blk_lt hD.blk
        have hs3 := hk.1
        have ka : Kp none_ w3 (w3.alloc (.cells #[.int .i64 ops[i].kind, .int .i64 ops[i].which, .int .i64 ops[i].slot, vh, vb] 35)) := Kp.refl.alloc _
        have hka := hk.trans ka
        have hDa := hD.kn ka
        have hEa := he.kpNew hka
        refine h0 _ _ _ _ _ _ ?_
        unfold F5_0
        by_cases k1 : ops[i].kind = 1
        · simp (disch := first | omega | (simp only [size_alloc, size_set, heap_dr] <;> omega) | assumption | exact oneC_slice | exact oneC_int | exact oneC_bool | exact oneC_ptr | exact oneC_iface | exact oneC_nil | exact oneC_str | exact oneC_map | exact oneC_func | rfl) only [gs_dec_pos, bn_lss, bn_eql, oK_some, cell_eq, cellOf_some, heap_alloc_eq, List.getElem?_toArray, List.getElem?_cons_zero, List.getElem?_cons_succ, Nat.zero_add, Int.toNat_natCast, and_true, Nat.reduceAdd, ia_22, ld_35, ↓alst_35, fa_35_0, ld_3, fa_35_2, fa_35_3, ld_33, hb, c0, c1, c2, c3, c4]
          refine write_ok hDa (hEa.at_ 2 (by simp)) (hh.kn ka) (hbd.kn ka) fun w4 hk4 hD4 => ?_
          refine step _ _ _ _ _ _ _ _ _ _ (by split <;> simpa using hcl) (fun h => absurd h (by omega)) hs3 (hk4.blk (heap_alloc_eq rfl) (by omega)) (hka.trans' hk4 fun x hx => .inr (by omega)) (hD4.mono fun b hb => by rcases hb with h | h; exact h; have := hka.1; omega)
        by_cases k5 : ops[i].kind = 5
        · simp (disch := first | omega | (simp only [size_alloc, size_set, heap_dr] <;> omega) | assumption | exact oneC_slice | exact oneC_int | exact oneC_bool | exact oneC_ptr | exact oneC_iface | exact oneC_nil | exact oneC_str | exact oneC_map | exact oneC_func | rfl) only [gs_dec_pos, gs_dec_neg, bn_lss, bn_eql, oK_some, cell_eq, cellOf_some, heap_alloc_eq, List.getElem?_toArray, List.getElem?_cons_zero, Int.toNat_natCast, and_true, ia_22, ld_35, ↓alst_35, fa_35_0, ld_3, hb, c0, c1, c2, c3, c4]
          refine wipe_ok hDa fun w4 a' hk4 hD4 => ?_
          exact step _ _ _ _ _ _ _ _ _ _ (by simpa [empties] using hcl) (fun _ => by rw [hcl]) hs3 (hk4.blk (heap_alloc_eq rfl) (by omega)) (hka.trans' hk4 fun x hx => .inr (by omega)) (hD4.mono fun b hb => by rcases hb with h | h; exact h; have := hka.1; omega)
        by_cases k6 : ops[i].kind = 6
        · simp (disch := first | omega | (simp only [size_alloc, size_set, heap_dr] <;> omega) | assumption | exact oneC_slice | exact oneC_int | exact oneC_bool | exact oneC_ptr | exact oneC_iface | exact oneC_nil | exact oneC_str | exact oneC_map | exact oneC_func | rfl) only [gs_dec_pos, gs_dec_neg, bn_lss, bn_eql, oK_some, cell_eq, cellOf_some, heap_alloc_eq, List.getElem?_toArray, List.getElem?_cons_zero, List.getElem?_cons_succ, Nat.zero_add, Int.toNat_natCast, and_true, ia_22, ld_35, ↓alst_35, fa_35_0, ld_3, fa_35_2, hb, c0, c1, c2, c3, c4]
          refine spoil_ok hDa (hEa.at_ 2 (by simp)) fun w4 hk4 hD4 => ?_
          exact step _ _ _ _ _ _ _ _ _ _ (by unfold spoilt; split <;> simpa using hcl) (fun h => absurd h (by omega)) hs3 (hk4.blk (heap_alloc_eq rfl) (by omega)) (hka.trans' hk4 fun x hx => .inr (by omega)) hD4
        · simp (disch := first | omega | (simp only [size_alloc, size_set, heap_dr] <;> omega) | assumption | exact oneC_slice | exact oneC_int | exact oneC_bool | exact oneC_ptr | exact oneC_iface | exact oneC_nil | exact oneC_str | exact oneC_map | exact oneC_func | rfl) only [gs_dec_pos, gs_dec_neg, bn_lss, bn_eql, oK_some, cell_eq, cellOf_some, heap_alloc_eq, List.getElem?_toArray, List.getElem?_cons_zero, Int.toNat_natCast, and_true, ia_22, ld_35, ↓alst_35, fa_35_0, ld_3, hb, c0, c1, c2, c3, c4]
          exact step _ _ _ _ _ _ _ _ _ _ hcl (fun h => absurd h (by omega)) hs3 (heap_alloc_eq rfl) hka hDa
    simp (disch := first | omega | (simp only [size_alloc, size_set, heap_dr] <;> omega) | assumption | exact oneC_slice | exact oneC_int | exact oneC_bool | exact oneC_ptr | exact oneC_iface | exact oneC_nil | exact oneC_str | exact oneC_map | exact oneC_func | rfl) only [gs_false, ext_0, ext_1, and_true, len_22, nil_neq]
    exact loop ops.length 0 0 (empties n) _ _ (by omega) (by simp [empties]) hk02 (hD2.mono fun b hb => by have := hk1.1; omega)
  · simp (disch := first | omega | (simp only [size_alloc, size_set, heap_dr] <;> omega) | assumption | exact oneC_slice | exact oneC_int | exact oneC_bool | exact oneC_ptr | exact oneC_iface | exact oneC_nil | exact oneC_str | exact oneC_map | exact oneC_func | rfl) only [gs_true, ext_0, ext_1, and_true, err_neq_nil, Option.isNone_some, Bool.not_false]
    refine legal_ok ?_
    have hl : decide (4 ≤ s ∧ s ≤ 256) = false := decide_eq_false (by omega)
    rw [hl]
    simp (disch := first | omega | (simp only [size_alloc, size_set, heap_dr] <;> omega) | assumption | exact oneC_slice | exact oneC_int | exact oneC_bool | exact oneC_ptr | exact oneC_iface | exact oneC_nil | exact oneC_str | exact oneC_map | exact oneC_func | rfl) only [un_not, and_true, Bool.not_false]
    exact hK _ (hk1.trans hk2)
end Go.Proofs.YtfiakplgifimkaaDoor
