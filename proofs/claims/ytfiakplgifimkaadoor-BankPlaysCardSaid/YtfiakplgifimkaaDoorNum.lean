/- Contracts of package tesseranum: two lists held against one another. No statement of the seat is proved in this text. -/
import Derived.Test.YtfiakplgifimkaaDoorDisk3
namespace Go.Proofs.YtfiakplgifimkaaDoor
open Go.TS
set_option maxRecDepth 20000

theorem In.at_ {w : World} {v : Value} {is : List Int} {F : Nat → Prop} (h : In w v is F) {i : Nat} (hi : i < is.length) : ∃ b o c cs e fr, v = .slice (some ⟨b, o, none⟩) is.length c ∧ b < w.heap.size ∧ w.heap[b]? = some (.cells cs e fr) ∧ cs[o + i]? = some (.int .i64 is[i]) := by
  obtain ⟨b, o, c, cs, e, fr, h1, _, _, h2, h3, h4⟩ := Rd.open_ h (fun h => by rw [ints, List.map_eq_nil_iff] at h; subst h; simp at hi)
  refine ⟨b, o, c, cs, e, fr, h1, h2, h3, (h4 i (by simpa [ints] using hi)).trans ?_⟩
  simp [ints, hi]
theorem In.len {w : World} {v : Value} {is : List Int} {F : Nat → Prop} (h : In w v is F) : ∃ a c, v = .slice a is.length c := h.val

theorem In.kn {w w' : World} {v : Value} {is : List Int} {F : Nat → Prop} (h : In w v is F) (hk : Kp none_ w w') : In w' v is F := Rd.kn h hk
theorem Io.kn {w w' : World} {v : Value} {is : List Int} {F : Nat → Prop} (h : Io w v is F) (hk : Kp none_ w w') : Io w' v is F := Own.kn h hk
/-- SameBytes. -/
theorem sameBytes_ok {w : World} {va vb : Value} {xs bs : List UInt8} {F G : Nat → Prop} {K : Value → World → Prop} (ha : By w va xs F) (hb : By w vb bs G) (hK : K (.bool (decide (xs = bs))) w) : call Tryd.prog 20 #[va, vb] w K := by
  refine F20_ok ?_
  unfold F20
  simp (disch := first | omega | (simp only [size_alloc, size_set, heap_dr] <;> omega) | assumption | exact oneC_slice | exact oneC_int | exact oneC_bool | exact oneC_ptr | exact oneC_iface | exact oneC_nil | exact oneC_str | exact oneC_map | exact oneC_func | rfl) only [and_true, str_of ha, str_of hb, bn_str_eql]
  exact hK

/-- SameInts. -/
theorem sameInts_ok {w : World} {va vb : Value} {xs bs : List Int} {F G : Nat → Prop} {K : Value → World → Prop} (ha : In w va xs F) (hb : In w vb bs G) (hl : xs.length < 9223372036854775807) (hK : ∀ w', Kp none_ w w' → K (.bool (decide (xs = bs))) w') : call Tryd.prog 21 #[va, vb] w K := by
  obtain ⟨aa, ca, hva⟩ := ha.len
  obtain ⟨ab, cb, hvb⟩ := hb.len
  subst hva hvb
  refine F21_ok fun X h0 => ?_
  unfold F21_s
  by_cases hlen : xs.length = bs.length
  · have loop : ∀ (m i : Nat) (w1 : World), i + m = xs.length → (∀ j, j < i → xs[j]? = bs[j]?) → Kp none_ w w1 → X 0 [.slice aa xs.length ca, .slice ab bs.length cb, .int .i64 xs.length, .int .i64 i] w1 := by
      intro m
      induction m with
      | zero =>
        intro i w1 hi he hk
        obtain rfl : i = xs.length := by omega
        refine h0 _ _ _ _ _ ?_
        unfold F21_0
        simp (disch := first | omega | (simp only [size_alloc, size_set, heap_dr] <;> omega) | assumption | exact oneC_slice | exact oneC_int | exact oneC_bool | exact oneC_ptr | exact oneC_iface | exact oneC_nil | exact oneC_str | exact oneC_map | exact oneC_func | rfl) only [gs_dec_neg, bn_lss, and_true]
        have : xs = bs := by
          apply List.ext_getElem?
          intro j
          rcases Nat.lt_or_ge j xs.length with h | h
          · exact he j h
          · rw [List.getElem?_eq_none h, List.getElem?_eq_none (by omega)]
        have hk' := hK w1 hk
        rw [decide_eq_true this] at hk'
        exact hk'
      | succ m ih =>
        intro i w1 hi he hk
        have hil : i < xs.length := by omega
        have hil2 : i < bs.length := by omega
        obtain ⟨b, o, c, cs, e, fr, hv, hbl, hb1, c1⟩ := (In.kn ha hk).at_ hil
        obtain ⟨b', o', c', cs', e', fr', hv', hbl', hb1', c1'⟩ := (In.kn hb hk).at_ hil2
        cases hv
        cases hv'
        refine h0 _ _ _ _ _ ?_
        unfold F21_0
        by_cases heq : xs[i] = bs[i]
        · simp (disch := first | omega | (simp only [size_alloc, size_set, heap_dr] <;> omega) | assumption | exact oneC_slice | exact oneC_int | exact oneC_bool | exact oneC_ptr | exact oneC_iface | exact oneC_nil | exact oneC_str | exact oneC_map | exact oneC_func | rfl) only [gs_dec_pos, gs_not, bn_add, bn_lss, bn_neq, wrap64, oK_some, cell_eq, cellOf_some, heap_dr, Int.toNat_natCast, true_and, and_true, eq_self, ia_50, ld_3, hb1, hb1', c1, c1']
          refine ih (i + 1) _ (by omega) (fun j hj => ?_) hk.dr
          by_cases hji : j = i
          · subst hji; rw [List.getElem?_eq_getElem hil, List.getElem?_eq_getElem hil2, heq]
          · exact he j (by omega)
        · simp (disch := first | omega | (simp only [size_alloc, size_set, heap_dr] <;> omega) | assumption | exact oneC_slice | exact oneC_int | exact oneC_bool | exact oneC_ptr | exact oneC_iface | exact oneC_nil | exact oneC_str | exact oneC_map | exact oneC_func | rfl) only [gs_dec_pos, gs_dec_neg, gs_not, bn_lss, bn_neq, oK_some, cell_eq, cellOf_some, heap_dr, Int.toNat_natCast, true_and, and_true, eq_self, ia_50, ld_3, hb1, hb1', c1, c1']
          have hk' := hK _ hk.dr
          rw [decide_eq_false (fun h => heq (by subst h; rfl))] at hk'
          exact hk'
    simp (disch := first | omega | (simp only [size_alloc, size_set, heap_dr] <;> omega) | assumption | exact oneC_slice | exact oneC_int | exact oneC_bool | exact oneC_ptr | exact oneC_iface | exact oneC_nil | exact oneC_str | exact oneC_map | exact oneC_func | rfl) only [gs_dec_pos, gs_not, bn_neq, and_true, len_50]
    exact loop xs.length 0 w (by omega) (fun j hj => by omega) .refl
  · simp (disch := first | omega | (simp only [size_alloc, size_set, heap_dr] <;> omega) | assumption | exact oneC_slice | exact oneC_int | exact oneC_bool | exact oneC_ptr | exact oneC_iface | exact oneC_nil | exact oneC_str | exact oneC_map | exact oneC_func | rfl) only [gs_dec_neg, gs_not, bn_neq, and_true, len_50]
    have hk' := hK _ .refl
    rw [decide_eq_false (fun h => hlen (by subst h; rfl))] at hk'
    exact hk'
end Go.Proofs.YtfiakplgifimkaaDoor
