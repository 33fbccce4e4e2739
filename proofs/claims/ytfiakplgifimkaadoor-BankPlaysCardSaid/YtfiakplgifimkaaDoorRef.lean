/- The document's own drive: what it is in memory, and what each call makes of it. No statement of the seat is proved in this text. -/
import Derived.Test.YtfiakplgifimkaaDoorNum2
import Derived.Test.YtfiakplgifimkaaDoorKeeps
import Derived.Test.YtfiakplgifimkaaDoorLooks
namespace Go.Proofs.YtfiakplgifimkaaDoor
open Go.TS
set_option maxRecDepth 20000

theorem blk_ne {w : World} {a b : Nat} {c c' : Array Value} {e e' : Nat} {f f' : Nat × Nat} (ha : w.heap[a]? = some (.cells c e f)) (hb : w.heap[b]? = some (.cells c' e' f')) (h : e ≠ e') : a ≠ b := by
  rintro rfl
  rw [ha] at hb
  cases hb
  exact h rfl

/-- A row of lists of bytes. -/
def RowB (w : World) (h : Nat) (cl : List Cel) (f : Cel → List UInt8) (F : Nat → Prop) : Prop :=
  ∃ hs : Array Value, w.heap[h]? = some (.cells hs 31 (0, 0)) ∧ hs.size = cl.length ∧ ∀ i (hi : i < cl.length), ∃ v bs, hs[i]? = some v ∧ Bo w v bs F ∧ (cl[i].full = true → bs = f cl[i])
def flags (cl : List Cel) (f : Cel → Bool) : Array Value := (cl.map fun c => Value.bool (f c)).toArray
theorem flags_get {cl : List Cel} {f : Cel → Bool} {i : Nat} (hi : i < cl.length) : (flags cl f)[i]? = some (.bool (f cl[i])) := by simp [flags, hi]
theorem flags_set {cl : List Cel} {f : Cel → Bool} {i : Nat} {c : Cel} : (flags cl f).setIfInBounds i (.bool (f c)) = flags (cl.set i c) f := by
  unfold flags
  rw [List.setIfInBounds_toArray, List.map_set]
/-- The document's drive at block m. -/
structure RefAt (w : World) (m : Nat) (rd : Int) (cl : List Cel) (F : Nat → Prop) : Prop where
  wr : IntKind.i64.wrap rd = rd
  len : cl.length ≤ 256
  ex : ∃ hb bb fb db, w.heap[m]? = some (.cells #[.slice (some ⟨hb, 0, none⟩) cl.length cl.length, .slice (some ⟨bb, 0, none⟩) cl.length cl.length, .slice (some ⟨fb, 0, none⟩) cl.length cl.length, .slice (some ⟨db, 0, none⟩) cl.length cl.length, .int .i64 rd] 97 (0, 0)) ∧
    hb ≠ bb ∧ fb ≠ db ∧ F m ∧ F hb ∧ F bb ∧ F fb ∧ F db ∧ RowB w hb cl Cel.head F ∧ RowB w bb cl Cel.body F ∧ w.heap[fb]? = some (.cells (flags cl Cel.full) 4 (0, 0)) ∧ w.heap[db]? = some (.cells (flags cl Cel.bad) 4 (0, 0))

theorem RowB.frame {w w' : World} {h : Nat} {cl : List Cel} {f : Cel → List UInt8} {F : Nat → Prop} (hr : RowB w h cl f F) (hF : F h) (hk : ∀ b, F b → b < w.heap.size → w'.heap[b]? = w.heap[b]?) : RowB w' h cl f F := by
  obtain ⟨hs, h1, h2, h3⟩ := hr
  refine ⟨hs, (hk h hF (blk_lt h1)).trans h1, h2, fun i hi => ?_⟩
  obtain ⟨v, bs, g1, g2, g3⟩ := h3 i hi
  exact ⟨v, bs, g1, ⟨g2.1.frame hk, g2.2⟩, g3⟩
theorem RowB.mono {w : World} {h : Nat} {cl : List Cel} {f : Cel → List UInt8} {F G : Nat → Prop} (hr : RowB w h cl f F) (hF : ∀ b, F b → G b) : RowB w h cl f G := by
  obtain ⟨hs, h1, h2, h3⟩ := hr
  refine ⟨hs, h1, h2, fun i hi => ?_⟩
  obtain ⟨v, bs, g1, g2, g3⟩ := h3 i hi
  exact ⟨v, bs, g1, g2.mono hF, g3⟩
theorem RowB.bound {w : World} {h : Nat} {cl : List Cel} {f : Cel → List UInt8} {F : Nat → Prop} (hr : RowB w h cl f F) : RowB w h cl f (fun b => F b ∧ b < w.heap.size) := by
  obtain ⟨hs, h1, h2, h3⟩ := hr
  refine ⟨hs, h1, h2, fun i hi => ?_⟩
  obtain ⟨v, bs, g1, g2, g3⟩ := h3 i hi
  exact ⟨v, bs, g1, g2.bound, g3⟩
theorem RowB.kt {w w' : World} {h : Nat} {cl : List Cel} {f : Cel → List UInt8} {F S : Nat → Prop} (hr : RowB w h cl f F) (hk : Kp S w w') (hn : ¬ S h) (hS : ∀ b, S b → ∀ cs, w.heap[b]? ≠ some (.cells cs 5 (0, 0))) : RowB w' h cl f F := by
  obtain ⟨hs, h1, h2, h3⟩ := hr
  refine ⟨hs, hk.blk h1 hn, h2, fun i hi => ?_⟩
  obtain ⟨v, bs, g1, g2, g3⟩ := h3 i hi
  exact ⟨v, bs, g1, ⟨g2.1.kt hk hS, g2.2⟩, g3⟩
/-- A store into a block of another kind. -/
theorem RowB.set_other {w : World} {h : Nat} {cl : List Cel} {f : Cel → List UInt8} {F : Nat → Prop} (hr : RowB w h cl f F) {g o e' : Nat} {cs : Array Value} {fr : Nat × Nat} {x : Value} (hg : w.heap[g]? = some (.cells cs e' fr)) (he : e' ≠ 5) (hn : h ≠ g) : RowB (w.setCell ⟨g, o, none⟩ x) h cl f F := by
  obtain ⟨hs, h1, h2, h3⟩ := hr
  refine ⟨hs, (heap_set_ne hn).trans h1, h2, fun i hi => ?_⟩
  obtain ⟨v, bs, g1, g2, g3⟩ := h3 i hi
  exact ⟨v, bs, g1, g2.set_other hg he, g3⟩
/-- The flags may turn where the lists stand for what is told. -/
theorem RowB.recl {w : World} {h : Nat} {cl cl' : List Cel} {f : Cel → List UInt8} {F : Nat → Prop} (hr : RowB w h cl f F) (hl : cl'.length = cl.length) (hc : ∀ i (h1 : i < cl.length) (h2 : i < cl'.length), cl'[i].full = true → cl[i].full = true ∧ f cl'[i] = f cl[i]) : RowB w h cl' f F := by
  obtain ⟨hs, h1, h2, h3⟩ := hr
  refine ⟨hs, h1, by omega, fun i hi => ?_⟩
  obtain ⟨v, bs, g1, g2, g3⟩ := h3 i (by omega)
  exact ⟨v, bs, g1, g2, fun hf => by have := hc i (by omega) hi hf; rw [this.2]; exact g3 this.1⟩
/-- One list written. -/
theorem RowB.setAt {w : World} {h i : Nat} {cl : List Cel} {f : Cel → List UInt8} {F G : Nat → Prop} {v : Value} {c : Cel} (hr : RowB w h cl f F) (hi : i < cl.length) (hb : Bo w v (f c) G) (hF : ∀ b, F b → G b) : RowB (w.setCell ⟨h, i, none⟩ v) h (cl.set i c) f G := by
  obtain ⟨hs, h1, h2, h3⟩ := hr
  refine ⟨hs.setIfInBounds i v, by rw [heap_set_same, h1]; rfl, by simpa using h2, fun j hj => ?_⟩
  have hj' : j < cl.length := by simpa using hj
  by_cases hji : j = i
  · subst hji
    exact ⟨v, f c, by rw [Array.getElem?_setIfInBounds_self_of_lt (by omega)], hb.set_other h1 (by omega), fun _ => by simp⟩
  · obtain ⟨u, bs, g1, g2, g3⟩ := h3 j hj'
    refine ⟨u, bs, by rw [Array.getElem?_setIfInBounds_ne (Ne.symm hji)]; exact g1, (g2.mono hF).set_other h1 (by omega), fun hf => ?_⟩
    rw [List.getElem_set_ne (Ne.symm hji)] at hf ⊢
    exact g3 hf

theorem RefAt.frame {w w' : World} {m : Nat} {rd : Int} {cl : List Cel} {F : Nat → Prop} (h : RefAt w m rd cl F) (hk : ∀ b, F b → b < w.heap.size → w'.heap[b]? = w.heap[b]?) : RefAt w' m rd cl F := by
  obtain ⟨hb, bb, fb, db, h1, h2, h3, f0, f1, f2, f3, f4, r1, r2, r3, r4⟩ := h.ex
  exact ⟨h.wr, h.len, hb, bb, fb, db, (hk m f0 (blk_lt h1)).trans h1, h2, h3, f0, f1, f2, f3, f4, r1.frame f1 hk, r2.frame f2 hk, (hk fb f3 (blk_lt r3)).trans r3, (hk db f4 (blk_lt r4)).trans r4⟩
theorem RefAt.kp {w w' : World} {m : Nat} {rd : Int} {cl : List Cel} {F S : Nat → Prop} (h : RefAt w m rd cl F) (hk : Kp S w w') (hd : ∀ b, F b → ¬ S b) : RefAt w' m rd cl F := h.frame fun b hb hl => hk.2 b hl (hd b hb)
theorem RefAt.kn {w w' : World} {m : Nat} {rd : Int} {cl : List Cel} {F : Nat → Prop} (h : RefAt w m rd cl F) (hk : Kp none_ w w') : RefAt w' m rd cl F := h.kp hk fun _ _ h => h
theorem RefAt.mono {w : World} {m : Nat} {rd : Int} {cl : List Cel} {F G : Nat → Prop} (h : RefAt w m rd cl F) (hF : ∀ b, F b → G b) : RefAt w m rd cl G := by
  obtain ⟨hb, bb, fb, db, h1, h2, h3, f0, f1, f2, f3, f4, r1, r2, r3, r4⟩ := h.ex
  exact ⟨h.wr, h.len, hb, bb, fb, db, h1, h2, h3, hF _ f0, hF _ f1, hF _ f2, hF _ f3, hF _ f4, r1.mono hF, r2.mono hF, r3, r4⟩
theorem RefAt.bound {w : World} {m : Nat} {rd : Int} {cl : List Cel} {F : Nat → Prop} (h : RefAt w m rd cl F) : RefAt w m rd cl (fun b => F b ∧ b < w.heap.size) := by
  obtain ⟨hb, bb, fb, db, h1, h2, h3, f0, f1, f2, f3, f4, r1, r2, r3, r4⟩ := h.ex
  obtain ⟨hs, q1, _⟩ := id r1
  obtain ⟨hs', q2, _⟩ := id r2
  exact ⟨h.wr, h.len, hb, bb, fb, db, h1, h2, h3, ⟨f0, blk_lt h1⟩, ⟨f1, blk_lt q1⟩, ⟨f2, blk_lt q2⟩, ⟨f3, blk_lt r3⟩, ⟨f4, blk_lt r4⟩, r1.bound, r2.bound, r3, r4⟩

theorem refHas_ok {w : World} {m : Nat} {rd s : Int} {cl : List Cel} {F : Nat → Prop} {K : Value → World → Prop} (h : RefAt w m rd cl F) (hK : K (.bool (inr cl s)) w) : call Tryd.prog 72 #[.pointer (some ⟨m, 0, none⟩), .int .i64 s] w K := by
  obtain ⟨hb, bb, fb, db, h1, _⟩ := h.ex
  refine F72_ok ?_
  unfold F72
  unfold inr at hK
  by_cases h0 : 0 ≤ s
  · simp (disch := first | omega | (simp only [size_alloc, size_set, heap_dr] <;> omega) | assumption | exact oneC_slice | exact oneC_int | exact oneC_bool | exact oneC_ptr | exact oneC_iface | exact oneC_nil | exact oneC_str | exact oneC_map | exact oneC_func | rfl) only [ck_ptr, pick_bool, gs_dec_pos, bn_lss, bn_geq, oK_some, cell_eq, cellOf_some, List.getElem?_toArray, List.getElem?_cons_zero, List.getElem?_cons_succ, Nat.zero_add, and_true, cond_true, shr_eq, fa_97_2, ld_95, len_95, h1]
    simpa [h0] using hK
  · simp (disch := first | omega | (simp only [size_alloc, size_set, heap_dr] <;> omega) | assumption | exact oneC_slice | exact oneC_int | exact oneC_bool | exact oneC_ptr | exact oneC_iface | exact oneC_nil | exact oneC_str | exact oneC_map | exact oneC_func | rfl) only [pick_bool, gs_dec_neg, bn_geq, and_true, cond_false, shr_eq]
    simpa [h0] using hK

theorem numOf_slot : numOf (some 2) = 14 := by decide
theorem numOf_media : numOf (some 0) = 15 := by decide
theorem numOf_empty : numOf (some 1) = 9 := by decide
theorem refAsks_ok {w : World} {m : Nat} {rd s : Int} {cl : List Cel} {F : Nat → Prop} {K : Value → World → Prop} (h : RefAt w m rd cl F) (hK : K (.int .i64 (numOf (asks cl s))) w) : call Tryd.prog 73 #[.pointer (some ⟨m, 0, none⟩), .int .i64 s] w K := by
  obtain ⟨hb, bb, fb, db, h1, h2, h3, f0, f1, f2, f3, f4, r1, r2, r3, r4⟩ := h.ex
  refine F73_ok ?_
  unfold F73
  refine refHas_ok h ?_
  cases hin : inr cl s with
  | false =>
    rw [asks_out (of_decide_eq_false hin), numOf_slot] at hK
    simp (disch := first | omega | (simp only [size_alloc, size_set, heap_dr] <;> omega) | assumption | exact oneC_slice | exact oneC_int | exact oneC_bool | exact oneC_ptr | exact oneC_iface | exact oneC_nil | exact oneC_str | exact oneC_map | exact oneC_func | rfl) only [gs_true, un_not, and_true, Bool.not_false]
    exact hK
  | true =>
    have hr := of_decide_eq_true hin
    obtain ⟨i, rfl⟩ := Int.eq_ofNat_of_zero_le hr.1
    have hi : i < cl.length := by omega
    rw [asks_in hi] at hK
    have g1 := flags_get (f := Cel.bad) hi
    have g2 := flags_get (f := Cel.full) hi
    cases hb : cl[i].bad with
    | true =>
      rw [hb] at hK g1
      simp only [if_true] at hK
      rw [numOf_media] at hK
      simp (disch := first | omega | (simp only [size_alloc, size_set, heap_dr] <;> omega) | assumption | exact oneC_slice | exact oneC_int | exact oneC_bool | exact oneC_ptr | exact oneC_iface | exact oneC_nil | exact oneC_str | exact oneC_map | exact oneC_func | rfl) only [ck_ptr, gs_true, gs_false, un_not, oK_some, cell_eq, cellOf_some, List.getElem?_toArray, List.getElem?_cons_zero, List.getElem?_cons_succ, Nat.zero_add, Int.toNat_natCast, and_true, fa_97_3, ld_95, ia_95, ld_4, Bool.not_true, h1, r4, g1]
      exact hK
    | false =>
      rw [hb] at hK g1
      cases hf : cl[i].full with
      | true =>
        rw [hf] at hK g2
        simp (disch := first | omega | (simp only [size_alloc, size_set, heap_dr] <;> omega) | assumption | exact oneC_slice | exact oneC_int | exact oneC_bool | exact oneC_ptr | exact oneC_iface | exact oneC_nil | exact oneC_str | exact oneC_map | exact oneC_func | rfl) only [ck_ptr, gs_false, un_not, oK_some, cell_eq, cellOf_some, List.getElem?_toArray, List.getElem?_cons_zero, List.getElem?_cons_succ, Nat.zero_add, Int.toNat_natCast, and_true, fa_97_3, ld_95, ia_95, ld_4, fa_97_2, Bool.not_true, h1, r3, r4, g1, g2]
        exact hK
      | false =>
        rw [hf] at hK g2
        simp only [Bool.false_eq_true, if_false] at hK
        rw [numOf_empty] at hK
        simp (disch := first | omega | (simp only [size_alloc, size_set, heap_dr] <;> omega) | assumption | exact oneC_slice | exact oneC_int | exact oneC_bool | exact oneC_ptr | exact oneC_iface | exact oneC_nil | exact oneC_str | exact oneC_map | exact oneC_func | rfl) only [ck_ptr, gs_true, gs_false, un_not, oK_some, cell_eq, cellOf_some, List.getElem?_toArray, List.getElem?_cons_zero, List.getElem?_cons_succ, Nat.zero_add, Int.toNat_natCast, and_true, fa_97_3, ld_95, ia_95, ld_4, fa_97_2, Bool.not_true, Bool.not_false, h1, r3, r4, g1, g2]
        exact hK
theorem asks_some {cl : List Cel} {s : Int} {g : Nat} (h : asks cl s = some g) : g ∈ [0, 1, 2] := by
  unfold asks at h
  split at h
  · split at h
    · cases h; decide
    · split at h
      · cases h
      · cases h; decide
  · cases h; decide
theorem numOf_pos {g : Nat} : numOf (some g) ≠ 0 := by show (L25.idxOf g : Int) + 1 ≠ 0; omega
theorem asks_none {cl : List Cel} {s : Int} (h : asks cl s = none) : ∃ i, ∃ hi : i < cl.length, s = (i : Int) ∧ cl[i].bad = false ∧ cl[i].full = true := by
  unfold asks at h
  split at h
  · rename_i hr
    obtain ⟨i, rfl⟩ := Int.eq_ofNat_of_zero_le hr.1
    have hi : i < cl.length := by omega
    simp only [Int.toNat_natCast] at h
    refine ⟨i, hi, rfl, ?_⟩
    cases hb : cl[i].bad <;> cases hf : cl[i].full <;> simp [hb, hf] at h ⊢
  · cases h

theorem refHead_ok {w : World} {m : Nat} {rd s : Int} {cl : List Cel} {F : Nat → Prop} {K : Value → World → Prop} (h : RefAt w m rd cl F) (hK : ∀ v, By w v (getc Cel.head cl s) F → K (.tuple #[v, .int .i64 (numOf (asks cl s))]) w) : call Tryd.prog 50 #[.pointer (some ⟨m, 0, none⟩), .int .i64 s] w K := by
  obtain ⟨hb, bb, fb, db, h1, h2, h3, f0, f1, f2, f3, f4, r1, r2, r3, r4⟩ := h.ex
  refine F50_ok ?_
  unfold F50
  refine refAsks_ok h ?_
  cases ha : asks cl s with
  | some g =>
    have hp := numOf_pos (g := g)
    have hg : getc Cel.head cl s = [] := by unfold getc; rw [ha]; rfl
    rw [ha, hg] at hK
    simp (disch := first | omega | (simp only [size_alloc, size_set, heap_dr] <;> omega) | assumption | exact oneC_slice | exact oneC_int | exact oneC_bool | exact oneC_ptr | exact oneC_iface | exact oneC_nil | exact oneC_str | exact oneC_map | exact oneC_func | rfl) only [gs_dec_neg, gs_not, bn_neq, and_true]
    exact hK _ Bo.nil.by
  | none =>
    obtain ⟨i, hi, rfl, hbd, hf⟩ := asks_none ha
    obtain ⟨hs, q1, q2, q3⟩ := r1
    obtain ⟨v, bs, g1, g2, g3⟩ := q3 i hi
    have hg : getc Cel.head cl (i : Int) = bs := by rw [getc_at (List.getElem?_eq_getElem hi), hbd, hf, g3 hf]; rfl
    rw [ha, hg] at hK
    have hz : numOf none = 0 := rfl
    rw [hz] at hK ⊢
    simp (disch := first | omega | (simp only [size_alloc, size_set, heap_dr] <;> omega) | assumption | exact oneC_slice | exact oneC_int | exact oneC_bool | exact oneC_ptr | exact oneC_iface | exact oneC_nil | exact oneC_str | exact oneC_map | exact oneC_func | rfl) only [ck_ptr, gs_false, bn_neq, oK_some, cell_eq, cellOf_some, List.getElem?_toArray, List.getElem?_cons_zero, Nat.zero_add, Int.toNat_natCast, and_true, eq_self, fa_97_0, ld_94, ia_94, ld_31, h1, q1, g1, decide_true, Bool.not_true]
    exact hK _ g2.by

theorem wrap_wrap {x : Int} : IntKind.i64.wrap (IntKind.i64.wrap x) = IntKind.i64.wrap x := by
  simp only [IntKind.wrap, IntKind.bits, IntKind.signed]
  simp
  omega
theorem RefAt.setRd {w : World} {m : Nat} {rd r : Int} {cl : List Cel} {F : Nat → Prop} (h : RefAt w m rd cl F) (hr : IntKind.i64.wrap r = r) : RefAt (w.setCell ⟨m, 4, none⟩ (.int .i64 r)) m r cl F := by
  obtain ⟨hb, bb, fb, db, h1, h2, h3, f0, f1, f2, f3, f4, r1, r2, r3, r4⟩ := h.ex
  obtain ⟨hs, q1, _⟩ := id r1
  obtain ⟨hs', q2, _⟩ := id r2
  refine ⟨hr, h.len, hb, bb, fb, db, by rw [heap_set_same, h1]; rfl, h2, h3, f0, f1, f2, f3, f4, r1.set_other h1 (by omega) (blk_ne q1 h1 (by omega)), r2.set_other h1 (by omega) (blk_ne q2 h1 (by omega)), (heap_set_ne (blk_ne r3 h1 (by omega))).trans r3, (heap_set_ne (blk_ne r4 h1 (by omega))).trans r4⟩
theorem refBody_ok {w : World} {m : Nat} {rd s : Int} {cl : List Cel} {F : Nat → Prop} {K : Value → World → Prop} (h : RefAt w m rd cl F)
    (hK : ∀ v w', Kp (fun x => x = m) w w' → RefAt w' m (IntKind.i64.wrap (rd + (getc Cel.body cl s).length)) cl F → By w' v (getc Cel.body cl s) F → K (.tuple #[v, .int .i64 (numOf (asks cl s))]) w') : call Tryd.prog 51 #[.pointer (some ⟨m, 0, none⟩), .int .i64 s] w K := by
  obtain ⟨hb, bb, fb, db, h1, h2, h3, f0, f1, f2, f3, f4, r1, r2, r3, r4⟩ := h.ex
  refine F51_ok ?_
  unfold F51
  refine refAsks_ok h ?_
  cases ha : asks cl s with
  | some g =>
    have hp := numOf_pos (g := g)
    have hg : getc Cel.body cl s = [] := by unfold getc; rw [ha]; rfl
    rw [ha, hg] at hK
    simp (disch := first | omega | (simp only [size_alloc, size_set, heap_dr] <;> omega) | assumption | exact oneC_slice | exact oneC_int | exact oneC_bool | exact oneC_ptr | exact oneC_iface | exact oneC_nil | exact oneC_str | exact oneC_map | exact oneC_func | rfl) only [gs_dec_neg, gs_not, bn_neq, and_true]
    refine hK _ _ .refl ?_ Bo.nil.by
    have : rd + (([] : List UInt8).length : Int) = rd := by simp
    rw [this, h.wr]
    exact h
  | none =>
    obtain ⟨i, hi, rfl, hbd, hf⟩ := asks_none ha
    obtain ⟨hs, q1, q2, q3⟩ := id r2
    obtain ⟨v, bs, g1, g2, g3⟩ := q3 i hi
    have hg : getc Cel.body cl (i : Int) = bs := by rw [getc_at (List.getElem?_eq_getElem hi), hbd, hf, g3 hf]; rfl
    rw [ha, hg] at hK
    have hz : numOf none = 0 := rfl
    rw [hz] at hK ⊢
    obtain ⟨av, cv, rfl⟩ := g2.by.val
    have hnm : bb ≠ m := blk_ne q1 h1 (by omega)
    have q1' : (dr w).heap[bb]? = some (.cells hs 31 (0, 0)) := q1
    simp (disch := first | omega | (simp only [size_alloc, size_set, heap_dr] <;> omega) | assumption | exact oneC_slice | exact oneC_int | exact oneC_bool | exact oneC_ptr | exact oneC_iface | exact oneC_nil | exact oneC_str | exact oneC_map | exact oneC_func | rfl) only [ck_ptr, gs_false, bn_add, bn_neq, oK_some, cell_eq, frozen_eq, cellOf_some, frozenOf_some, setOf_some, heap_set_same, heap_set_ne, heap_dr, List.getElem?_toArray, List.getElem?_cons_zero, List.getElem?_cons_succ, List.setIfInBounds_toArray, List.set_cons_zero, List.set_cons_succ, Nat.zero_add, Int.toNat_natCast, true_and, and_true, Bool.false_eq_true, if_false, eq_self, fa_97_4, ld_3, fa_97_1, ld_94, ia_94, ld_31, len_31, st_3, h1, q1, g1, decide_true, Bool.not_true]
    refine hK _ _ (Kp.refl.dr.trans Kp.set1) ((h.kn Kp.refl.dr).setRd wrap_wrap) ?_
    exact ((g2.kn Kp.refl.dr).set_other (w := dr w) h1 (by omega)).by

theorem refLook_ok {w : World} {m : Nat} {rd s : Int} {cl : List Cel} {F : Nat → Prop} {K : Value → World → Prop} (h : RefAt w m rd cl F)
    (hK : ∀ vh vb w', Kp none_ w w' → By w' vh (getl Cel.head cl s) F → By w' vb (getl Cel.body cl s) F → K (.tuple #[.agg #[vh, vb], .bool (isFull cl s)]) w') : call Tryd.prog 52 #[.pointer (some ⟨m, 0, none⟩), .int .i64 s] w K := by
  obtain ⟨hb, bb, fb, db, h1, h2, h3, f0, f1, f2, f3, f4, r1, r2, r3, r4⟩ := h.ex
  have hka : Kp none_ w (w.alloc (.cells #[.slice none 0 0, .slice none 0 0] 33)) := Kp.refl.alloc _
  have hml := blk_lt h1
  have hfl := blk_lt r3
  refine F52_ok fun X h0 => ?_
  unfold F52_s
  simp (disch := first | omega | (simp only [size_alloc, size_set, heap_dr] <;> omega) | assumption | exact oneC_slice | exact oneC_int | exact oneC_bool | exact oneC_ptr | exact oneC_iface | exact oneC_nil | exact oneC_str | exact oneC_map | exact oneC_func | rfl) only [and_true, alc_33]
  refine refHas_ok (h.kn hka) ?_
  have hfin : isFull cl s = false → ∀ W : World, Kp (fun x => x = w.heap.size) (w.alloc (.cells #[.slice none 0 0, .slice none 0 0] 33)) W → K (.tuple #[.agg #[.slice none 0 0, .slice none 0 0], .bool false]) W := by
    intro hg W hW
    have := hK (.slice none 0 0) (.slice none 0 0) W (hka.trans' hW fun x hx => .inr (by omega))
    unfold getl at this
    rw [hg] at this
    exact this Bo.nil.by Bo.nil.by
  cases hin : inr cl s with
  | false =>
    have hn := isFull_out (of_decide_eq_false hin)
    simp (disch := first | omega | (simp only [size_alloc, size_set, heap_dr] <;> omega) | assumption | exact oneC_slice | exact oneC_int | exact oneC_bool | exact oneC_ptr | exact oneC_iface | exact oneC_nil | exact oneC_str | exact oneC_map | exact oneC_func | rfl) only [pick_bool, gs_true, un_not, and_true, cond_true, shr_eq, Bool.not_false]
    refine h0 _ _ _ _ _ ?_
    unfold F52_0
    simp (disch := first | omega | (simp only [size_alloc, size_set, heap_dr] <;> omega) | assumption | exact oneC_slice | exact oneC_int | exact oneC_bool | exact oneC_ptr | exact oneC_iface | exact oneC_nil | exact oneC_str | exact oneC_map | exact oneC_func | rfl) only [gs_true, oK_some, cell_eq, frozen_eq, cellOf_some, frozenOf_some, setOf_some, heap_set_same, heap_alloc_eq, stc, resCell_eq, List.getElem?_toArray, List.getElem?_cons_zero, List.getElem?_cons_succ, List.setIfInBounds_toArray, List.set_cons_zero, List.set_cons_succ, Nat.zero_add, Nat.add_zero, true_and, and_true, Bool.false_eq_true, if_false, eq_self, bld_33, st_33, ld_33]
    exact hfin hn _ (Kp.set1.trans Kp.set1)
  | true =>
    have hr := of_decide_eq_true hin
    obtain ⟨i, rfl⟩ := Int.eq_ofNat_of_zero_le hr.1
    have hi : i < cl.length := by omega
    obtain ⟨hs, q1, q2, q3⟩ := id r1
    obtain ⟨v, bs, g1, g2, g3⟩ := q3 i hi
    obtain ⟨hs', q1', q2', q3'⟩ := id r2
    obtain ⟨v', bs', g1', g2', g3'⟩ := q3' i hi
    have gf := flags_get (f := Cel.full) hi
    have hbl := blk_lt q1
    have hbl' := blk_lt q1'
    have e1 := g2.by.one
    have e2 := g2'.by.one
    rw [isFull_in hi] at hfin
    cases hf : cl[i].full with
    | false =>
      rw [hf] at gf
      simp (disch := first | omega | (simp only [size_alloc, size_set, heap_dr] <;> omega) | assumption | exact oneC_slice | exact oneC_int | exact oneC_bool | exact oneC_ptr | exact oneC_iface | exact oneC_nil | exact oneC_str | exact oneC_map | exact oneC_func | rfl) only [ck_ptr, pick_bool, gs_false, un_not, oK_some, cell_eq, cellOf_some, heap_alloc_lt, List.getElem?_toArray, List.getElem?_cons_zero, List.getElem?_cons_succ, Nat.zero_add, Int.toNat_natCast, and_true, cond_false, shr_eq, fa_97_2, ld_95, ia_95, ld_4, Bool.not_true, Bool.not_false, h1, r3, gf]
      refine h0 _ _ _ _ _ ?_
      unfold F52_0
      simp (disch := first | omega | (simp only [size_alloc, size_set, heap_dr] <;> omega) | assumption | exact oneC_slice | exact oneC_int | exact oneC_bool | exact oneC_ptr | exact oneC_iface | exact oneC_nil | exact oneC_str | exact oneC_map | exact oneC_func | rfl) only [gs_true, oK_some, cell_eq, frozen_eq, cellOf_some, frozenOf_some, setOf_some, heap_set_same, heap_alloc_eq, stc, resCell_eq, List.getElem?_toArray, List.getElem?_cons_zero, List.getElem?_cons_succ, List.setIfInBounds_toArray, List.set_cons_zero, List.set_cons_succ, Nat.zero_add, Nat.add_zero, true_and, and_true, Bool.false_eq_true, if_false, eq_self, bld_33, st_33, ld_33]
      exact hfin hf _ (Kp.set1.trans Kp.set1)
    | true =>
      rw [hf] at gf
      have hgl : ∀ f : Cel → List UInt8, getl f cl (i : Int) = f cl[i] := fun f => by rw [getl_at (List.getElem?_eq_getElem hi), hf]; rfl
      simp (disch := first | omega | (simp only [size_alloc, size_set, heap_dr] <;> omega) | assumption | exact oneC_slice | exact oneC_int | exact oneC_bool | exact oneC_ptr | exact oneC_iface | exact oneC_nil | exact oneC_str | exact oneC_map | exact oneC_func | rfl) only [ck_ptr, pick_bool, gs_false, un_not, oK_some, cell_eq, cellOf_some, heap_alloc_lt, List.getElem?_toArray, List.getElem?_cons_zero, List.getElem?_cons_succ, Nat.zero_add, Int.toNat_natCast, and_true, cond_false, shr_eq, fa_97_2, ld_95, ia_95, ld_4, Bool.not_true, h1, r3, gf]
      refine h0 _ _ _ _ _ ?_
      unfold F52_0
      simp (disch := first | omega | (simp only [size_alloc, size_set, heap_dr] <;> omega) | assumption | exact oneC_slice | exact oneC_int | exact oneC_bool | exact oneC_ptr | exact oneC_iface | exact oneC_nil | exact oneC_str | exact oneC_map | exact oneC_func | rfl) only [ck_ptr, gs_false, oK_some, cell_eq, frozen_eq, cellOf_some, frozenOf_some, setOf_some, heap_set_same, heap_alloc_lt, heap_alloc_eq, heap_dr, stc, resCell_eq, List.getElem?_toArray, List.getElem?_cons_zero, List.getElem?_cons_succ, List.setIfInBounds_toArray, List.set_cons_zero, List.set_cons_succ, Nat.zero_add, Nat.add_zero, Int.toNat_natCast, true_and, and_true, Bool.false_eq_true, if_false, eq_self, st_33, fa_97_0, ld_94, ia_94, ld_31, fa_97_1, bld_33_0_1, ld_33, h1, q1, q1', g1, g1']
      have hset : Kp (fun x => x = w.heap.size) (dr (w.alloc (.cells #[.slice none 0 0, .slice none 0 0] 33))) (((dr (w.alloc (.cells #[.slice none 0 0, .slice none 0 0] 33))).setCell ⟨w.heap.size, 0, none⟩ v).setCell ⟨w.heap.size, 1, none⟩ v') := Kp.set1.trans Kp.set1
      have := hK v v' _ (hka.dr.trans' hset fun x hx => .inr (by omega))
      rw [hgl, hgl, isFull_in hi, hf] at this
      have b1 := g2.bound.kn hka.dr
      have b2 := g2'.bound.kn hka.dr
      rw [← g3 hf, ← g3' hf] at this
      exact this ((b1.kp hset fun b hb h => by omega).mono fun _ h => h.1).by ((b2.kp hset fun b hb h => by omega).mono fun _ h => h.1).by

theorem refUsed_ok {w : World} {m : Nat} {rd : Int} {cl : List Cel} {F : Nat → Prop} {K : Value → World → Prop} (h : RefAt w m rd cl F)
    (hK : ∀ v w', Kp none_ w w' → Io w' v (usedFrom cl cl.length) (fun b => w.heap.size ≤ b) → K v w') : call Tryd.prog 57 #[.pointer (some ⟨m, 0, none⟩)] w K := by
  obtain ⟨hb, bb, fb, db, h1, h2, h3, f0, f1, f2, f3, f4, r1, r2, r3, r4⟩ := h.ex
  have hlen := h.len
  refine F57_ok fun X h0 => ?_
  have loop : ∀ (m i : Nat) (v : Value) (w1 : World), i + m = cl.length → Kp none_ w w1 → Io w1 v (usedFrom cl i) (fun b => w.heap.size ≤ b) → X 0 [v, .slice (some ⟨fb, 0, none⟩) cl.length cl.length, .int .i64 cl.length, .int .i64 i] w1 := by
    intro m
    induction m with
    | zero =>
      intro i v w1 hi hk ho
      obtain rfl : i = cl.length := by omega
      refine h0 _ _ _ _ _ ?_
      unfold F57_0
      simp (disch := first | omega | (simp only [size_alloc, size_set, heap_dr] <;> omega) | assumption | exact oneC_slice | exact oneC_int | exact oneC_bool | exact oneC_ptr | exact oneC_iface | exact oneC_nil | exact oneC_str | exact oneC_map | exact oneC_func | rfl) only [gs_dec_neg, bn_lss, and_true]
      exact hK v w1 hk ho
    | succ m ih =>
      intro i v w1 hi hk ho
      have hil : i < cl.length := by omega
      have r3' := hk.blk r3 (fun h => h)
      have gf := flags_get (f := Cel.full) hil
      refine h0 _ _ _ _ _ ?_
      unfold F57_0
      have hs := hk.1
      have hsu := usedFrom_succ (cl := cl) (i := i)
      rw [isFull_in hil] at hsu
      cases hf : cl[i].full with
      | false =>
        rw [hf] at hsu gf
        simp (disch := first | omega | (simp only [size_alloc, size_set, heap_dr] <;> omega) | assumption | exact oneC_slice | exact oneC_int | exact oneC_bool | exact oneC_ptr | exact oneC_iface | exact oneC_nil | exact oneC_str | exact oneC_map | exact oneC_func | rfl) only [gs_false, gs_dec_pos, bn_add, bn_lss, wrap64, oK_some, cell_eq, cellOf_some, Nat.zero_add, Int.toNat_natCast, and_true, ia_95, ld_4, r3', gf]
        refine ih (i + 1) _ _ (by omega) hk ?_
        rw [hsu]
        rw [show usedFrom cl i ++ (if false = true then [(i : Int)] else []) = usedFrom cl i from by simp]
        exact ho
      | true =>
        rw [hf] at hsu gf
        simp (disch := first | omega | (simp only [size_alloc, size_set, heap_dr] <;> omega) | assumption | exact oneC_slice | exact oneC_int | exact oneC_bool | exact oneC_ptr | exact oneC_iface | exact oneC_nil | exact oneC_str | exact oneC_map | exact oneC_func | rfl) only [gs_true, gs_dec_pos, bn_lss, oK_some, cell_eq, cellOf_some, Nat.zero_add, Int.toNat_natCast, and_true, ia_95, ld_4, r3', gf]
        have hul := usedFrom_len (cl := cl) (i := i)
        refine app1_ok (is := usedFrom cl i) (F := fun b => w.heap.size ≤ b) ho (by omega) (by kernel_rfl) fun v' w' hk' ho' => ?_
        simp (disch := first | omega | (simp only [size_alloc, size_set, heap_dr] <;> omega) | assumption | exact oneC_slice | exact oneC_int | exact oneC_bool | exact oneC_ptr | exact oneC_iface | exact oneC_nil | exact oneC_str | exact oneC_map | exact oneC_func | rfl) only [bn_add, wrap64, and_true]
        refine ih (i + 1) _ _ (by omega) (hk.trans' hk' fun b hb => .inr hb) ?_
        rw [hsu]
        exact Own.mono ho' fun b hb => by rcases hb with hb | hb; exact hb; omega
  unfold F57_s
  rw [bsl_0 (e := 3) (n := 1) (by kernel_rfl) (by kernel_rfl)]
  have hal : Kp none_ w (w.alloc (.cells #[] 3)) := Kp.refl.alloc _
  have hml := blk_lt h1
  simp (disch := first | omega | (simp only [size_alloc, size_set, heap_dr] <;> omega) | assumption | exact oneC_slice | exact oneC_int | exact oneC_bool | exact oneC_ptr | exact oneC_iface | exact oneC_nil | exact oneC_str | exact oneC_map | exact oneC_func | rfl) only [ck_ptr, oK_some, cell_eq, cellOf_some, heap_alloc_lt, List.getElem?_toArray, List.getElem?_cons_zero, List.getElem?_cons_succ, Nat.zero_add, and_true, fa_97_2, ld_95, len_95, h1]
  refine loop cl.length 0 _ _ (by omega) hal ?_
  exact Own.made (n := 0) (sz := 1) (F := fun b => w.heap.size ≤ b) (cs := #[]) (heap_alloc_eq rfl) (Nat.le_refl _) rfl (by simp)

theorem refSpoil_ok {w : World} {m : Nat} {rd s : Int} {cl : List Cel} {F : Nat → Prop} {K : Value → World → Prop} (h : RefAt w m rd cl F)
    (hK : ∀ w', Kp F w w' → RefAt w' m rd (spoilt cl s) F → K (.int .i64 (numOf (if inr cl s then none else some 2))) w') : call Tryd.prog 55 #[.pointer (some ⟨m, 0, none⟩), .int .i64 s] w K := by
  obtain ⟨hb, bb, fb, db, h1, h2, h3, f0, f1, f2, f3, f4, r1, r2, r3, r4⟩ := h.ex
  refine F55_ok ?_
  unfold F55
  refine refHas_ok h ?_
  cases hin : inr cl s with
  | false =>
    have hsp : spoilt cl s = cl := by unfold spoilt; rw [dif_neg (of_decide_eq_false hin)]
    rw [hin, hsp] at hK
    simp (disch := first | omega | (simp only [size_alloc, size_set, heap_dr] <;> omega) | assumption | exact oneC_slice | exact oneC_int | exact oneC_bool | exact oneC_ptr | exact oneC_iface | exact oneC_nil | exact oneC_str | exact oneC_map | exact oneC_func | rfl) only [gs_true, un_not, and_true, Bool.not_false]
    exact hK _ .refl h
  | true =>
    have hr := of_decide_eq_true hin
    obtain ⟨i, rfl⟩ := Int.eq_ofNat_of_zero_le hr.1
    have hi : i < cl.length := by omega
    have hsp : spoilt cl (i : Int) = cl.set i { cl[i] with bad := true } := by unfold spoilt; rw [dif_pos hr]; simp only [Int.toNat_natCast]
    rw [hin, hsp] at hK
    have gb := flags_get (f := Cel.bad) hi
    obtain ⟨hs, q1, q2, q3⟩ := id r1
    obtain ⟨hs', q1', q2', q3'⟩ := id r2
    simp (disch := first | omega | (simp only [size_alloc, size_set, heap_dr] <;> omega) | assumption | exact oneC_slice | exact oneC_int | exact oneC_bool | exact oneC_ptr | exact oneC_iface | exact oneC_nil | exact oneC_str | exact oneC_map | exact oneC_func | rfl) only [ck_ptr, gs_false, un_not, oK_some, cell_eq, frozen_eq, cellOf_some, frozenOf_some, List.getElem?_toArray, List.getElem?_cons_zero, List.getElem?_cons_succ, Nat.zero_add, Int.toNat_natCast, and_true, Bool.false_eq_true, if_false, fa_97_3, ld_95, ia_95, st_4, Bool.not_true, h1, r4, gb]
    have hre : ∀ (f : Cel → List UInt8) (j : Nat) (h1 : j < cl.length) (h2 : j < (cl.set i { cl[i] with bad := true }).length), (cl.set i { cl[i] with bad := true })[j].full = cl[j].full ∧ ((∀ c b, f { c with bad := b } = f c) → f (cl.set i { cl[i] with bad := true })[j] = f cl[j]) := by
      intro f j h1 h2
      by_cases hji : j = i
      · subst hji
        refine ⟨by simp, fun h => ?_⟩
        rw [List.getElem_set_self]
        exact h _ _
      · rw [List.getElem_set_ne (Ne.symm hji)]; exact ⟨rfl, fun _ => rfl⟩
    have hfl : flags (cl.set i { cl[i] with bad := true }) Cel.full = flags cl Cel.full := by
      unfold flags
      congr 1
      apply List.ext_getElem
      · simp
      · intro j h1 h2
        simp only [List.getElem_map]
        rw [(hre Cel.head j (by simpa using h2) (by simpa using h1)).1]
    refine hK _ (Kp.set Kp.refl (.inl f4)) ⟨h.wr, by simpa using h.len, hb, bb, fb, db, ?_, h2, h3, f0, f1, f2, f3, f4, ?_, ?_, ?_, ?_⟩
    · rw [heap_set_ne (blk_ne h1 r4 (by omega)), h1, List.length_set]
    · exact (r1.set_other r4 (by omega) (blk_ne q1 r4 (by omega))).recl (by simp) fun j h1 h2 hf => by
        have := hre Cel.head j h1 h2
        exact ⟨by rw [← this.1]; exact hf, this.2 fun _ _ => rfl⟩
    · exact (r2.set_other r4 (by omega) (blk_ne q1' r4 (by omega))).recl (by simp) fun j h1 h2 hf => by
        have := hre Cel.body j h1 h2
        exact ⟨by rw [← this.1]; exact hf, this.2 fun _ _ => rfl⟩
    · rw [heap_set_ne h3, r3, hfl]
    · rw [heap_set_same, r4]
      show some (Obj.cells ((flags cl Cel.bad).setIfInBounds i (.bool true)) 4 (0, 0)) = _
      rw [← flags_set (f := Cel.bad) (c := { cl[i] with bad := true })]
end Go.Proofs.YtfiakplgifimkaaDoor
