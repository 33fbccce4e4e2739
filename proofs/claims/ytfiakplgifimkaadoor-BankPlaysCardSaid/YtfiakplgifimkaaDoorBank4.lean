/- Contracts of package bank, fourth part: New; and the chapter's example of layer 16. No statement of the seat is proved in this text. -/
import Derived.Test.YtfiakplgifimkaaDoorBank3
namespace Go.Proofs.YtfiakplgifimkaaDoor
open Go.TS
set_option maxRecDepth 20000

theorem ptrs_push {d : Nat → Nat} {n d' : Nat} : ptrs (fun j => if j = n then d' else d j) (n + 1) = ptrs d n ++ [.pointer (some ⟨d', 0, none⟩)] := by
  unfold ptrs
  rw [List.range_succ, List.map_append]
  congr 1
  · apply List.map_congr_left
    intro j hj
    have := List.mem_range.1 hj
    simp [show j ≠ n by omega]
  · simp
/-- One pointer behind the others. -/
theorem appP_ok {w : World} {v : Value} {d : Nat → Nat} {n d' e tx : Nat} {F : Nat → Prop} {K : Value → World → Prop} (h : Own w e 1 v n (ptrs d n) F) (hl : n < 17592186044000) (ht : Tryd.prog.underlying tx = some (.slice e)) (hs : szB Tryd.prog e = some 1) (hz : zeroB Tryd.prog e = some (.pointer none)) (hby : bytesB Tryd.prog e = some 8)
    (hK : ∀ v' w', Kp F w w' → Own w' e 1 v' (n + 1) (ptrs (fun j => if j = n then d' else d j) (n + 1)) (fun b => F b ∨ w.heap.size ≤ b) → K v' w') : bsl Tryd.prog tx 1 [(0, .pointer (some ⟨d', 0, none⟩))] w (fun t w => bAppend Tryd.prog #[tx, tx] tx [v, t] w K) := by
  have hb := bsl_vals (w := w) (K := fun t w => bAppend Tryd.prog #[tx, tx] tx [v, t] w K) (P := Tryd.prog) (e := e) (n := 1) (vs := [.pointer (some ⟨d', 0, none⟩)]) (z := .pointer none) ht hs hz rfl (by simp) (by omega) (by omega) (by simp [oneC])
  simp only [List.zipIdx_cons, List.zipIdx_nil, List.map_cons, List.map_nil] at hb
  rw [hb]
  have hk : Kp none_ w (w.alloc (.cells #[.pointer (some ⟨d', 0, none⟩)] e)) := Kp.refl.alloc _
  have ho := h.bound.kp hk fun _ _ h => h
  have hr : Rd (w.alloc (.cells #[.pointer (some ⟨d', 0, none⟩)] e)) e 1 (.slice (some ⟨w.heap.size, 0, none⟩) 1 1) 1 [.pointer (some ⟨d', 0, none⟩)] (fun b => b = w.heap.size) := (Own.made (n := 1) (sz := 1) (F := fun b => b = w.heap.size) (cs := #[.pointer (some ⟨d', 0, none⟩)]) (heap_alloc_eq rfl) rfl rfl (by simp [oneC])).rd
  refine app_ok (e := e) (sz := 1) (z := .pointer none) (by_ := 8) ht ht hs hz hby rfl (by omega) ho hr (by omega) (by omega) fun v' w' hk' hn => ?_
  refine hK v' w' ((hk.ofNone).trans' hk' fun b hb => .inl hb.1) ?_
  rw [ptrs_push]
  exact hn.mono fun b hb => by
    rcases hb with h | h
    · exact .inl h.1
    · rw [size_alloc] at h; exact .inr (by omega)
def bankErr (dn sl : Int) : Option Nat := if dn < 1 ∨ 16 < dn then some 5 else if sl < 4 ∨ 256 < sl then some 2 else none
def bank0 (dn sl : Nat) : BS := ⟨List.replicate dn (0, empties sl), sl, 0, false, false, 0⟩
theorem bankNew_ok {w : World} {E : Nat → Addr} {dn sl : Int} {K : Value → World → Prop} (he : Errs w E LB)
    (hno : ∀ e, bankErr dn sl = some e → ∀ w', Kp none_ w w' → K (.tuple #[.pointer none, er E (some e)]) w')
    (hyes : ∀ (m n : Nat), dn = m → sl = n → 1 ≤ m → m ≤ 16 → 4 ≤ n → n ≤ 256 → bankErr dn sl = none → ∀ w' b, Kp none_ w w' → BankAt w' b (bank0 m n) (fun x => w.heap.size ≤ x) → K (.tuple #[.pointer (some ⟨b, 0, none⟩), .nilIface]) w') :
    call Tryd.prog 26 #[.int .i64 dn, .int .i64 sl] w K := by
  have he5 := he.at_ 5 (by decide)
  unfold ErrAt at he5
  refine F26_ok fun X h0 => ?_
  unfold F26_s
  by_cases c1 : dn < 1
  · have hb : bankErr dn sl = some 5 := by unfold bankErr; rw [if_pos (.inl c1)]
    simp (disch := first | omega | (simp only [size_alloc, size_set, heap_dr] <;> omega) | assumption | exact oneC_slice | exact oneC_int | exact oneC_bool | exact oneC_ptr | exact oneC_iface | exact oneC_nil | exact oneC_str | exact oneC_map | exact oneC_func | rfl) only [pick_bool, gs_true, gs_dec_pos, bn_lss, oK_some, cell_eq, heap_dr, true_and, and_true, cond_true, eq_self, shr_eq, ld_26, he5]
    exact hno 5 hb _ Kp.refl.dr
  by_cases c2 : 16 < dn
  · have hb : bankErr dn sl = some 5 := by unfold bankErr; rw [if_pos (.inr c2)]
    simp (disch := first | omega | (simp only [size_alloc, size_set, heap_dr] <;> omega) | assumption | exact oneC_slice | exact oneC_int | exact oneC_bool | exact oneC_ptr | exact oneC_iface | exact oneC_nil | exact oneC_str | exact oneC_map | exact oneC_func | rfl) only [pick_bool, gs_dec_pos, gs_dec_neg, bn_lss, bn_gtr, oK_some, cell_eq, heap_dr, true_and, and_true, cond_false, eq_self, shr_eq, ld_26, he5]
    exact hno 5 hb _ Kp.refl.dr
  obtain ⟨m, rfl⟩ := Int.eq_ofNat_of_zero_le (show 0 ≤ dn by omega)
  have hm : m ≤ 16 := by omega
  have ka : Kp none_ w (w.alloc (.cells #[.slice none 0 0, .int .i64 sl, .int .i64 0, .bool false, .bool false, .int .i64 0] 107)) := Kp.refl.alloc _
  have ba : (w.alloc (.cells #[.slice none 0 0, .int .i64 sl, .int .i64 0, .bool false, .bool false, .int .i64 0] 107)).heap[w.heap.size]? = some (.cells #[.slice none 0 0, .int .i64 sl, .int .i64 0, .bool false, .bool false, .int .i64 0] 107 (0, 0)) := heap_alloc_eq rfl
  simp (disch := first | omega | (simp only [size_alloc, size_set, heap_dr] <;> omega) | assumption | exact oneC_slice | exact oneC_int | exact oneC_bool | exact oneC_ptr | exact oneC_iface | exact oneC_nil | exact oneC_str | exact oneC_map | exact oneC_func | rfl) only [pick_bool, gs_dec_neg, bn_lss, bn_gtr, bx_agg, and_true, cond_false, shr_eq, bld_107_1]
  generalize w.alloc (.cells #[.slice none 0 0, .int .i64 sl, .int .i64 0, .bool false, .bool false, .int .i64 0] 107) = wA at ka ba ⊢
  by_cases c3 : sl < 4 ∨ 256 < sl
  · have hb : bankErr (m : Int) sl = some 2 := by unfold bankErr; rw [if_neg (fun h => h.elim c1 c2), if_pos c3]
    have hm0 : (0 : Int) < m := by omega
    refine h0 _ _ _ _ _ ?_
    unfold F26_0
    simp (disch := first | omega | (simp only [size_alloc, size_set, heap_dr] <;> omega) | assumption | exact oneC_slice | exact oneC_int | exact oneC_bool | exact oneC_ptr | exact oneC_iface | exact oneC_nil | exact oneC_str | exact oneC_map | exact oneC_func | rfl) only [gs_dec_pos, bn_lss, and_true]
    refine new_ok ((he.kpNew ka).at_ 2 (by decide)) (fun n hn h4 h256 => by omega) fun _ w4 hk4 => ?_
    simp (disch := first | omega | (simp only [size_alloc, size_set, heap_dr] <;> omega) | assumption | exact oneC_slice | exact oneC_int | exact oneC_bool | exact oneC_ptr | exact oneC_iface | exact oneC_nil | exact oneC_str | exact oneC_map | exact oneC_func | rfl) only [gs_true, ext_0, ext_1, and_true, err_neq_nil, Option.isNone_some, Bool.not_false]
    exact hno 2 hb _ (ka.trans hk4)
  · obtain ⟨n, rfl⟩ := Int.eq_ofNat_of_zero_le (show 0 ≤ sl by omega)
    have hb : bankErr (m : Int) n = none := by unfold bankErr; rw [if_neg (fun h => h.elim c1 c2), if_neg c3]
    have loop : ∀ (k i : Nat) (w3 : World), i + k = m → Kp none_ w w3 → BankAt w3 w.heap.size (bank0 i n) (fun x => w.heap.size ≤ x) → X 0 [.int .i64 n, .pointer (some ⟨w.heap.size, 0, none⟩), .int .i64 m, .int .i64 i] w3 := by
      intro k
      induction k with
      | zero =>
        intro i w3 hi hk hB
        obtain rfl : i = m := by omega
        refine h0 _ _ _ _ _ ?_
        unfold F26_0
        simp (disch := first | omega | (simp only [size_alloc, size_set, heap_dr] <;> omega) | assumption | exact oneC_slice | exact oneC_int | exact oneC_bool | exact oneC_ptr | exact oneC_iface | exact oneC_nil | exact oneC_str | exact oneC_map | exact oneC_func | rfl) only [gs_dec_neg, bn_lss, and_true]
        exact hyes i n rfl rfl (by omega) hm (by omega) (by omega) hb _ _ hk hB
      | succ k ih =>
        intro i w3 hi hk hB
        have hil : i < m := by omega
        have hB' := hB.bound
        refine h0 _ _ _ _ _ ?_
        unfold F26_0
        simp (disch := first | omega | (simp only [size_alloc, size_set, heap_dr] <;> omega) | assumption | exact oneC_slice | exact oneC_int | exact oneC_bool | exact oneC_ptr | exact oneC_iface | exact oneC_nil | exact oneC_str | exact oneC_map | exact oneC_func | rfl) only [gs_dec_pos, bn_lss, and_true]
        refine new_ok ((he.kpNew hk).at_ 2 (by decide)) (fun n' hn' _ _ w4 d' a' hk4 hD4 => ?_) (fun hbad => by omega)
        obtain rfl : n' = n := by omega
        obtain ⟨d, a, Fr, v, Fd, h1, h2, h3, h4, h5, h6⟩ := hB'.ex
        have hlen : (bank0 i n').drives.length = i := by simp [bank0]
        rw [hlen] at h2
        have hbl := blk_lt h1
        have g1 := hk4.blk h1 (fun h => h)
        have g1' := g1
        unfold bankCells at g1
        have s4 := hk4.1
        simp (disch := first | omega | (simp only [size_alloc, size_set, heap_dr] <;> omega) | assumption | exact oneC_slice | exact oneC_int | exact oneC_bool | exact oneC_ptr | exact oneC_iface | exact oneC_nil | exact oneC_str | exact oneC_map | exact oneC_func | rfl) only [ck_ptr, gs_false, ext_0, ext_1, oK_some, cell_eq, cellOf_some, List.getElem?_toArray, List.getElem?_cons_zero, and_true, fa_107_0, ld_105, nil_neq, g1]
        refine appP_ok (d' := d') (h2.kn hk4) (by omega) (by kernel_rfl) (by kernel_rfl) (by kernel_rfl) (by kernel_rfl) fun v' w5 hk5 hn5 => ?_
        obtain ⟨av', cv', rfl⟩ := hn5.val
        have hbF : ¬ Fd w.heap.size := fun h => (h3 _ h).2 rfl
        have g5 := hk5.blk g1' hbF
        have hw : IntKind.i64.wrap ((i : Int) + 1) = ((i + 1 : Nat) : Int) := wrap64 (by omega) (by omega)
        unfold bankCells at g5
        simp (disch := first | omega | (simp only [size_alloc, size_set, heap_dr] <;> omega) | assumption | exact oneC_slice | exact oneC_int | exact oneC_bool | exact oneC_ptr | exact oneC_iface | exact oneC_nil | exact oneC_str | exact oneC_map | exact oneC_func | rfl) only [ck_ptr, bn_add, oK_some, cell_eq, frozen_eq, cellOf_some, frozenOf_some, List.getElem?_toArray, List.getElem?_cons_zero, and_true, Bool.false_eq_true, if_false, fa_107_0, st_105, g5, hw]
        have hset : Kp (fun x => x = w.heap.size) w5 (w5.setCell ⟨w.heap.size, 0, none⟩ (.slice av' (i + 1) cv')) := Kp.set1
        have hall : Kp none_ w (w5.setCell ⟨w.heap.size, 0, none⟩ (.slice av' (i + 1) cv')) := ((hk.trans hk4).trans' hk5 fun x hx => .inr (h3 x hx).1.1).trans' hset fun x hx => .inr (by omega)
        have hall4 : Kp (fun x => Fd x ∨ x = w.heap.size) w4 (w5.setCell ⟨w.heap.size, 0, none⟩ (.slice av' (i + 1) cv')) := (hk5.mono fun x hx => .inl hx).trans (hset.mono fun x hx => .inr hx)
        refine ih (i + 1) _ (by omega) hall ?_
        have hlen' : (bank0 (i + 1) n').drives.length = i + 1 := by simp [bank0]
        have hgd : ∀ (j : Nat) (h : j < (bank0 (i + 1) n').drives.length), (bank0 (i + 1) n').drives[j] = (0, empties n') := fun j h => by simp [bank0]
        have hgd0 : ∀ (j : Nat) (h : j < (bank0 i n').drives.length), (bank0 i n').drives[j] = (0, empties n') := fun j h => by simp [bank0]
        refine ⟨by rw [hlen']; omega, Nat.le_refl _, fun j => if j = i then d' else d j, fun j => if j = i then a' else a j, fun j x => if j = i then w3.heap.size ≤ x ∧ x < w4.heap.size else Fr j x, .slice av' (i + 1) cv', fun x => Fd x ∨ w4.heap.size ≤ x, ?_, ?_, ?_, ?_, ?_, ?_⟩
        · rw [heap_set_same, g5]
          rfl
        · rw [hlen']
          exact hn5.kp hset fun x hx hx' => hx.elim (fun h => (h3 x h).2 hx') (fun h => by omega)
        · exact fun x hx => hx.elim (fun h => ⟨(h3 x h).1.1, (h3 x h).2⟩) (fun h => ⟨by omega, by omega⟩)
        · intro j hj
          rw [hgd j hj]
          rw [hlen'] at hj
          by_cases hji : j = i
          · subst hji
            refine ⟨?_, by simp [empties, bank0]⟩
            simp only [if_true]
            exact hD4.bound.kp hall4 fun x hx hx' => hx'.elim (fun h => by have := (h3 x h).1.2; omega) (fun h => by omega)
          · have hj2 : j < (bank0 i n').drives.length := by rw [hlen]; omega
            refine ⟨?_, by simp [empties, bank0]⟩
            simp only [hji, if_false]
            have := (h4 j hj2).1
            rw [hgd0 j hj2] at this
            exact (this.kn hk4).kp hall4 fun x hx hx' => hx'.elim (fun h => (h5 j x hj2 hx).2.2 h) (fun h => (h5 j x hj2 hx).2.1 h)
        · intro j x hj hx
          rw [hlen'] at hj
          by_cases hji : j = i
          · subst hji
            simp only [if_true] at hx
            exact ⟨by omega, by omega, fun hd => hd.elim (fun h => by have := (h3 x h).1.2; omega) (fun h => by omega)⟩
          · have hj2 : j < (bank0 i n').drives.length := by rw [hlen]; omega
            simp only [hji, if_false] at hx
            exact ⟨(h5 j x hj2 hx).1.1, (h5 j x hj2 hx).2.1, fun hd => hd.elim (h5 j x hj2 hx).2.2 (fun h => by have := (h5 j x hj2 hx).1.2; omega)⟩
        · intro j l x hj hl hne hx hx'
          rw [hlen'] at hj hl
          by_cases hji : j = i
          · subst hji
            have hlj : ¬ l = j := fun h => hne h.symm
            have hl2 : l < (bank0 j n').drives.length := by rw [hlen]; omega
            simp only [if_true, hlj, if_false] at hx hx'
            have := (h5 l x hl2 hx').1.2
            omega
          · have hj2 : j < (bank0 i n').drives.length := by rw [hlen]; omega
            by_cases hli : l = i
            · subst hli
              simp only [if_true, hji, if_false] at hx hx'
              have := (h5 j x hj2 hx).1.2
              omega
            · have hl2 : l < (bank0 i n').drives.length := by rw [hlen]; omega
              simp only [hji, hli, if_false] at hx hx'
              exact h6 j l x hj2 hl2 hne hx hx'
    refine loop m 0 wA (by omega) ka ⟨Nat.zero_le _, Nat.le_refl _, fun _ => 0, fun _ => 0, fun _ _ => False, .slice none 0 0, fun _ => False, ba, Own.nil, fun x h => h.elim, fun i h => absurd h (Nat.not_lt_zero _), fun i x h => absurd h (Nat.not_lt_zero _), fun i j x h => absurd h (Nat.not_lt_zero _)⟩

def bankCode (dn sl : Int) : Int := if dn < 1 ∨ 16 < dn then 13 else if sl < 4 ∨ 256 < sl then 14 else 0
theorem legal16_ok {w : World} {dn sl : Int} {K : Value → World → Prop} (hK : K (.int .i64 (bankCode dn sl)) w) : call Tryd.prog 33 #[.int .i64 dn, .int .i64 sl] w K := by
  refine F33_ok ?_
  unfold F33
  by_cases c1 : dn < 1
  · have hb : bankCode dn sl = 13 := by unfold bankCode; rw [if_pos (.inl c1)]
    rw [hb] at hK
    simp (disch := first | omega | (simp only [size_alloc, size_set, heap_dr] <;> omega) | assumption | exact oneC_slice | exact oneC_int | exact oneC_bool | exact oneC_ptr | exact oneC_iface | exact oneC_nil | exact oneC_str | exact oneC_map | exact oneC_func | rfl) only [pick_bool, gs_true, gs_dec_pos, bn_lss, and_true, cond_true, shr_eq]
    exact hK
  by_cases c2 : 16 < dn
  · have hb : bankCode dn sl = 13 := by unfold bankCode; rw [if_pos (.inr c2)]
    rw [hb] at hK
    simp (disch := first | omega | (simp only [size_alloc, size_set, heap_dr] <;> omega) | assumption | exact oneC_slice | exact oneC_int | exact oneC_bool | exact oneC_ptr | exact oneC_iface | exact oneC_nil | exact oneC_str | exact oneC_map | exact oneC_func | rfl) only [pick_bool, gs_dec_pos, gs_dec_neg, bn_lss, bn_gtr, and_true, cond_false, shr_eq]
    exact hK
  simp (disch := first | omega | (simp only [size_alloc, size_set, heap_dr] <;> omega) | assumption | exact oneC_slice | exact oneC_int | exact oneC_bool | exact oneC_ptr | exact oneC_iface | exact oneC_nil | exact oneC_str | exact oneC_map | exact oneC_func | rfl) only [pick_bool, gs_dec_neg, bn_lss, bn_gtr, and_true, cond_false, shr_eq]
  refine legal_ok ?_
  by_cases c3 : sl < 4 ∨ 256 < sl
  · have hb : bankCode dn sl = 14 := by unfold bankCode; rw [if_neg (fun h => h.elim c1 c2), if_pos c3]
    have : decide (4 ≤ sl ∧ sl ≤ 256) = false := decide_eq_false (by omega)
    rw [hb] at hK
    rw [this]
    simp (disch := first | omega | (simp only [size_alloc, size_set, heap_dr] <;> omega) | assumption | exact oneC_slice | exact oneC_int | exact oneC_bool | exact oneC_ptr | exact oneC_iface | exact oneC_nil | exact oneC_str | exact oneC_map | exact oneC_func | rfl) only [gs_true, un_not, and_true, Bool.not_false]
    exact hK
  · have hb : bankCode dn sl = 0 := by unfold bankCode; rw [if_neg (fun h => h.elim c1 c2), if_neg c3]
    have : decide (4 ≤ sl ∧ sl ≤ 256) = true := decide_eq_true (by omega)
    rw [hb] at hK
    rw [this]
    simp (disch := first | omega | (simp only [size_alloc, size_set, heap_dr] <;> omega) | assumption | exact oneC_slice | exact oneC_int | exact oneC_bool | exact oneC_ptr | exact oneC_iface | exact oneC_nil | exact oneC_str | exact oneC_map | exact oneC_func | rfl) only [gs_false, un_not, and_true, Bool.not_true]
    exact hK
theorem bankCode_some {dn sl : Int} {e : Nat} (h : bankErr dn sl = some e) : ¬ bankCode dn sl = 0 := by
  unfold bankErr at h
  unfold bankCode
  split
  · omega
  · rename_i h1
    rw [if_neg h1] at h
    split
    · omega
    · rename_i h2
      rw [if_neg h2] at h
      cases h
end Go.Proofs.YtfiakplgifimkaaDoor
