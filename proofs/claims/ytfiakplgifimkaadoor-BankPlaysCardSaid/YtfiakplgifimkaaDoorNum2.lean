/- Contracts of package tesseranum: an error's number; a copy with marked room behind. No statement of the seat is proved in this text. -/
import Derived.Test.YtfiakplgifimkaaDoorNum
import Derived.Test.YtfiakplgifimkaaDoorTsSl
namespace Go.Proofs.YtfiakplgifimkaaDoor
open Go.TS
set_option maxRecDepth 20000

/-- The variables of the document's table, in its order. -/
def L25 : List Nat := [6, 7, 8, 9, 10, 11, 12, 13, 1, 14, 15, 3, 5, 2, 0, 4, 16, 17, 18, 19, 20, 21, 22, 23, 24]
def numOf : Option Nat → Int
  | none => 0
  | some g => (L25.idxOf g : Int) + 1

/-- Num. -/
theorem num_ok {w : World} {E : Nat → Addr} {a : Option Nat} {K : Value → World → Prop} (he : Errs w E L25) (ha : ∀ g, a = some g → g ∈ L25) (hK : ∀ w', Kp none_ w w' → K (.int .i64 (numOf a)) w') : call Tryd.prog 39 #[er E a] w K := by
  refine F39_ok fun X h0 => ?_
  unfold F39_s
  cases a with
  | none =>
    simp (disch := first | omega | (simp only [size_alloc, size_set, heap_dr] <;> omega) | assumption | exact oneC_slice | exact oneC_int | exact oneC_bool | exact oneC_ptr | exact oneC_iface | exact oneC_nil | exact oneC_str | exact oneC_map | exact oneC_func | rfl) only [gs_true, and_true, err_eql_nil, Option.isNone_none]
    exact hK _ .refl
  | some g =>
    have hg := ha g rfl
    have e0 := he.at_ 0 (by decide)
    unfold ErrAt at e0
    have e1 := he.at_ 1 (by decide)
    unfold ErrAt at e1
    have e2 := he.at_ 2 (by decide)
    unfold ErrAt at e2
    have e3 := he.at_ 3 (by decide)
    unfold ErrAt at e3
    have e4 := he.at_ 4 (by decide)
    unfold ErrAt at e4
    have e5 := he.at_ 5 (by decide)
    unfold ErrAt at e5
    have e6 := he.at_ 6 (by decide)
    unfold ErrAt at e6
    have e7 := he.at_ 7 (by decide)
    unfold ErrAt at e7
    have e8 := he.at_ 8 (by decide)
    unfold ErrAt at e8
    have e9 := he.at_ 9 (by decide)
    unfold ErrAt at e9
    have e10 := he.at_ 10 (by decide)
    unfold ErrAt at e10
    have e11 := he.at_ 11 (by decide)
    unfold ErrAt at e11
    have e12 := he.at_ 12 (by decide)
    unfold ErrAt at e12
    have e13 := he.at_ 13 (by decide)
    unfold ErrAt at e13
    have e14 := he.at_ 14 (by decide)
    unfold ErrAt at e14
    have e15 := he.at_ 15 (by decide)
    unfold ErrAt at e15
    have e16 := he.at_ 16 (by decide)
    unfold ErrAt at e16
    have e17 := he.at_ 17 (by decide)
    unfold ErrAt at e17
    have e18 := he.at_ 18 (by decide)
    unfold ErrAt at e18
    have e19 := he.at_ 19 (by decide)
    unfold ErrAt at e19
    have e20 := he.at_ 20 (by decide)
    unfold ErrAt at e20
    have e21 := he.at_ 21 (by decide)
    unfold ErrAt at e21
    have e22 := he.at_ 22 (by decide)
    unfold ErrAt at e22
    have e23 := he.at_ 23 (by decide)
    unfold ErrAt at e23
    have e24 := he.at_ 24 (by decide)
    unfold ErrAt at e24
    simp (disch := first | omega | (simp only [size_alloc, size_set, heap_dr] <;> omega) | assumption | exact oneC_slice | exact oneC_int | exact oneC_bool | exact oneC_ptr | exact oneC_iface | exact oneC_nil | exact oneC_str | exact oneC_map | exact oneC_func | rfl) only [gs_false, oK_some, cell_eq, and_true, ld_26, err_eql_nil, Option.isNone_some, e0, e1, e2, e3, e4, e5, e6, e7, e8, e9, e10, e11, e12, e13, e14, e15, e16, e17, e18, e19, e20, e21, e22, e23, e24]
    clear e0 e1 e2 e3 e4 e5 e6 e7 e8 e9 e10 e11 e12 e13 e14 e15 e16 e17 e18 e19 e20 e21 e22 e23 e24
    have hb : ∀ K' : Value → World → Prop, bsl Tryd.prog 110 25 (((L25.map fun g => er E (some g)).zipIdx).map fun p => (p.2, p.1)) w K' = K' (.slice (some ⟨w.heap.size, 0, none⟩) 25 25) (w.alloc (.cells (L25.map fun g => er E (some g)).toArray 26)) := fun K' =>
      bsl_vals (e := 26) (z := .nilIface) (by kernel_rfl) (by kernel_rfl) (by kernel_rfl) rfl rfl (by omega) (by omega) (fun v hv => by obtain ⟨_, _, rfl⟩ := List.mem_map.1 hv; exact er_one)
    refine Eq.mpr (hb _) ?_
    have hk1 : Kp none_ w (w.alloc (.cells (L25.map fun g => er E (some g)).toArray 26)) := Kp.refl.alloc _
    have hblk : (w.alloc (.cells (L25.map fun g => er E (some g)).toArray 26)).heap[w.heap.size]? = some (.cells (L25.map fun g => er E (some g)).toArray 26 (0, 0)) := heap_alloc_eq rfl
    have he1 := he.kpNew hk1
    generalize w.alloc (.cells (L25.map fun g => er E (some g)).toArray 26) = w1 at hk1 hblk he1 ⊢
    have loop : ∀ (m i : Nat), i + m = 25 → (∀ j, j < i → L25[j]? ≠ some g) → X 0 [er E (some g), .slice (some ⟨w.heap.size, 0, none⟩) 25 25, .int .i64 25, .int .i64 i] w1 := by
      intro m
      induction m with
      | zero =>
        intro i hi hn
        exfalso
        obtain ⟨j, hj, e⟩ := List.getElem_of_mem hg
        have hj' : j < 25 := hj
        exact hn j (by omega) (by rw [List.getElem?_eq_getElem hj, e])
      | succ m ih =>
        intro i hi hn
        have hi25 : i < L25.length := by show i < 25; omega
        have hc : (L25.map fun g => er E (some g)).toArray[i]? = some (er E (some L25[i])) := by simp [hi25]
        have hm : L25[i] ∈ L25 := List.getElem_mem _
        refine h0 _ _ _ _ _ ?_
        unfold F39_0
        by_cases hgi : g = L25[i]
        · have hidx : L25.idxOf g = i := by
            have h1 : L25.idxOf g ≤ i := by
              rw [hgi]
              rcases Nat.lt_or_ge i (L25.idxOf L25[i]) with h | h
              · exfalso
                have := List.not_of_lt_findIdx (xs := L25) (p := fun x => x == L25[i]) (i := i) h
                simp at this
              · exact h
            rcases Nat.lt_or_eq_of_le h1 with h | h
            · exfalso
              have hl : L25.idxOf g < L25.length := by omega
              exact hn _ h (by rw [List.getElem?_eq_getElem hl, List.getElem_idxOf hl])
            · exact h
          have q : decide ((some g : Option Nat) = some L25[i]) = true := decide_eq_true (by rw [hgi])
          simp (disch := first | omega | (simp only [size_alloc, size_set, heap_dr] <;> omega) | assumption | exact oneC_slice | exact oneC_int | exact oneC_bool | exact oneC_ptr | exact oneC_iface | exact oneC_nil | exact oneC_str | exact oneC_map | exact oneC_func | rfl) only [gs_true, gs_dec_pos, bn_add, bn_lss, wrap64, oK_some, cell_eq, cellOf_some, Nat.zero_add, Int.toNat_natCast, and_true, ld_26, ia_110, hblk, hc, err_eql (a := some g) (g := L25[i]) he1 (fun g' h => by cases h; exact hg) hm, q]
          have := hK w1 hk1
          rw [show numOf (some g) = (i : Int) + 1 from by show (L25.idxOf g : Int) + 1 = _; rw [hidx]] at this
          exact this
        · have q : decide ((some g : Option Nat) = some L25[i]) = false := decide_eq_false (by simpa using hgi)
          simp (disch := first | omega | (simp only [size_alloc, size_set, heap_dr] <;> omega) | assumption | exact oneC_slice | exact oneC_int | exact oneC_bool | exact oneC_ptr | exact oneC_iface | exact oneC_nil | exact oneC_str | exact oneC_map | exact oneC_func | rfl) only [gs_false, gs_dec_pos, bn_add, bn_lss, wrap64, oK_some, cell_eq, cellOf_some, Nat.zero_add, Int.toNat_natCast, and_true, ld_26, ia_110, hblk, hc, err_eql (a := some g) (g := L25[i]) he1 (fun g' h => by cases h; exact hg) hm, q]
          refine ih (i + 1) (by omega) fun j hj => ?_
          by_cases hji : j = i
          · subst hji; rw [List.getElem?_eq_getElem hi25]; intro h; exact hgi (Option.some.inj h).symm
          · exact hn j (by omega)
    simp (disch := first | omega | (simp only [size_alloc, size_set, heap_dr] <;> omega) | assumption | exact oneC_slice | exact oneC_int | exact oneC_bool | exact oneC_ptr | exact oneC_iface | exact oneC_nil | exact oneC_str | exact oneC_map | exact oneC_func | rfl) only [and_true, len_110]
    exact loop 25 0 (by omega) (fun j hj => by omega)
end Go.Proofs.YtfiakplgifimkaaDoor
