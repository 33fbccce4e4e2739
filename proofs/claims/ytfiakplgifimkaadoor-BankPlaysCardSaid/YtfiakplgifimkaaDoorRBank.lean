/- Contracts of package tesseraref16: the document's bank in memory. No statement of the seat is proved in this text. -/
import Derived.Test.YtfiakplgifimkaaDoorBank5
import Derived.Test.YtfiakplgifimkaaDoorRef3
namespace Go.Proofs.YtfiakplgifimkaaDoor
open Go.TS
set_option maxRecDepth 20000

/-- A drive of the document's, under the name that the bank's text uses. -/
def RefA (w : World) (m _a : Nat) (rd : Int) (cl : List Cel) (F : Nat → Prop) : Prop := RefAt w m rd cl F
section
variable {w w' : World} {m a : Nat} {rd : Int} {cl : List Cel} {F G S : Nat → Prop}
theorem RefA.kp (h : RefA w m a rd cl F) (hk : Kp S w w') (hd : ∀ b, F b → ¬ S b) : RefA w' m a rd cl F := RefAt.kp h hk hd
theorem RefA.kn (h : RefA w m a rd cl F) (hk : Kp none_ w w') : RefA w' m a rd cl F := RefAt.kn h hk
theorem RefA.mono (h : RefA w m a rd cl F) (hF : ∀ b, F b → G b) : RefA w m a rd cl G := RefAt.mono h hF
theorem RefA.bound (h : RefA w m a rd cl F) : RefA w m a rd cl (fun b => F b ∧ b < w.heap.size) := RefAt.bound h
end
/-- The document's bank at block b. -/
structure RBankAt (w : World) (b : Nat) (s : BS) (F : Nat → Prop) : Prop where
  n16 : s.drives.length ≤ 16
  fb : F b
  ex : ∃ (d a : Nat → Nat) (Fr : Nat → Nat → Prop) (v : Value) (Fd : Nat → Prop), w.heap[b]? = some (.cells (bankCells v s) 85 (0, 0)) ∧ Own w 56 1 v s.drives.length (ptrs d s.drives.length) Fd ∧
    (∀ x, Fd x → F x ∧ x ≠ b) ∧ (∀ i (h : i < s.drives.length), RefA w (d i) (a i) s.drives[i].1 s.drives[i].2 (Fr i) ∧ s.drives[i].2.length = s.slots) ∧
    (∀ i x, i < s.drives.length → Fr i x → F x ∧ x ≠ b ∧ ¬ Fd x) ∧ (∀ i j x, i < s.drives.length → j < s.drives.length → i ≠ j → Fr i x → ¬ Fr j x)

theorem RBankAt.kp {w w' : World} {b : Nat} {s : BS} {F S : Nat → Prop} (h : RBankAt w b s F) (hk : Kp S w w') (hd : ∀ x, F x → ¬ S x) : RBankAt w' b s F := by
  obtain ⟨d, a, Fr, v, Fd, h1, h2, h3, h4, h5, h6⟩ := h.ex
  exact ⟨h.n16, h.fb, d, a, Fr, v, Fd, hk.blk h1 (hd _ h.fb), h2.kp hk fun x hx => hd x (h3 x hx).1, h3, fun i hi => ⟨(h4 i hi).1.kp hk fun x hx => hd x (h5 i x hi hx).1, (h4 i hi).2⟩, h5, h6⟩
theorem RBankAt.kn {w w' : World} {b : Nat} {s : BS} {F : Nat → Prop} (h : RBankAt w b s F) (hk : Kp none_ w w') : RBankAt w' b s F := h.kp hk fun _ _ h => h
theorem RBankAt.mono {w : World} {b : Nat} {s : BS} {F G : Nat → Prop} (h : RBankAt w b s F) (hF : ∀ x, F x → G x) : RBankAt w b s G := by
  obtain ⟨d, a, Fr, v, Fd, h1, h2, h3, h4, h5, h6⟩ := h.ex
  exact ⟨h.n16, hF _ h.fb, d, a, Fr, v, Fd, h1, h2, fun x hx => ⟨hF x (h3 x hx).1, (h3 x hx).2⟩, h4, fun i x hi hx => ⟨hF x (h5 i x hi hx).1, (h5 i x hi hx).2⟩, h6⟩
theorem RBankAt.bound {w : World} {b : Nat} {s : BS} {F : Nat → Prop} (h : RBankAt w b s F) : RBankAt w b s (fun x => F x ∧ x < w.heap.size) := by
  obtain ⟨d, a, Fr, v, Fd, h1, h2, h3, h4, h5, h6⟩ := h.ex
  exact ⟨h.n16, ⟨h.fb, blk_lt h1⟩, d, a, fun i x => Fr i x ∧ x < w.heap.size, v, _, h1, h2.bound, fun x hx => ⟨⟨(h3 x hx.1).1, hx.2⟩, (h3 x hx.1).2⟩, fun i hi => ⟨(h4 i hi).1.bound, (h4 i hi).2⟩, fun i x hi hx => ⟨⟨(h5 i x hi hx.1).1, hx.2⟩, (h5 i x hi hx.1).2.1, fun hd => (h5 i x hi hx.1).2.2 hd.1⟩, fun i j x hi hj hne hx hx' => h6 i j x hi hj hne hx.1 hx'.1⟩
/-- The bank's own cells, written. -/
theorem RBankAt.setB {w w' : World} {b : Nat} {s s' : BS} {F : Nat → Prop} (h : RBankAt w b s F) (hk : Kp (fun x => x = b) w w') (hb : ∀ v, w.heap[b]? = some (.cells (bankCells v s) 85 (0, 0)) → w'.heap[b]? = some (.cells (bankCells v s') 85 (0, 0))) (h1 : s'.drives = s.drives) (h2 : s'.slots = s.slots) : RBankAt w' b s' F := by
  obtain ⟨d, a, Fr, v, Fd, g1, g2, g3, g4, g5, g6⟩ := h.ex
  obtain ⟨dr', sl', wr', do', ar', le'⟩ := s'
  cases h1
  cases h2
  exact ⟨h.n16, h.fb, d, a, Fr, v, Fd, hb v g1, g2.kp hk fun x hx => (g3 x hx).2, g3, fun i hi => ⟨(g4 i hi).1.kp hk fun x hx => (g5 i x hi hx).2.1, (g4 i hi).2⟩, g5, g6⟩
/-- One drive of a bank: where it is, and what a call on it leaves. -/
theorem RBankAt.drive {w : World} {b : Nat} {s : BS} {F : Nat → Prop} (h : RBankAt w b s F) {i : Nat} (hi : i < s.drives.length) :
    ∃ (d a db o k : Nat) (cs : Array Value) (Fi : Nat → Prop), w.heap[b]? = some (.cells (bankCells (.slice (some ⟨db, o, none⟩) s.drives.length k) s) 85 (0, 0)) ∧ w.heap[db]? = some (.cells cs 56 (0, 0)) ∧ cs[o + i]? = some (.pointer (some ⟨d, 0, none⟩)) ∧
      RefA w d a s.drives[i].1 s.drives[i].2 Fi ∧ s.drives[i].2.length = s.slots ∧ (∀ x, Fi x → F x ∧ x ≠ b) ∧
      ∀ (w' : World) (a' : Nat) (rd' : Int) (cl' : List Cel) (S : Nat → Prop), Kp S w w' → (∀ x, S x → Fi x) → RefA w' d a' rd' cl' (fun x => Fi x ∨ w.heap.size ≤ x) → cl'.length = s.slots → RBankAt w' b { s with drives := s.drives.set i (rd', cl') } (fun x => F x ∨ w.heap.size ≤ x) := by
  obtain ⟨d, a, Fr, v, Fd, h1, h2, h3, h4, h5, h6⟩ := h.ex
  obtain ⟨db, o, k, cs, rfl, q1, q2, q3, q4, q5, q6⟩ := h2.open_ (by intro hn; have := ptrs_len (d := d) (n := s.drives.length); rw [hn] at this; simp at this; omega)
  have hdn : 0 < 1 := by omega
  refine ⟨d i, a i, db, o, k, cs, Fr i, h1, q4, by rw [q6 i (by rw [ptrs_len]; exact hi)]; exact ptrs_get hi, (h4 i hi).1, (h4 i hi).2, fun x hx => ⟨(h5 i x hi hx).1, (h5 i x hi hx).2.1⟩, fun w' a' rd' cl' S hk hS hD hl => ?_⟩
  have hlen : (s.drives.set i (rd', cl')).length = s.drives.length := by simp
  have h2b := h2.bound
  refine ⟨by show (s.drives.set i (rd', cl')).length ≤ 16; rw [hlen]; exact h.n16, .inl h.fb, d, fun j => if j = i then a' else a j, fun j x => if j = i then Fr i x ∨ w.heap.size ≤ x else Fr j x ∧ x < w.heap.size, .slice (some ⟨db, o, none⟩) s.drives.length k, fun x => Fd x ∧ x < w.heap.size, ?_, ?_, fun x hx => ⟨.inl (h3 x hx.1).1, (h3 x hx.1).2⟩, ?_, ?_, ?_⟩
  · have : bankCells (.slice (some ⟨db, o, none⟩) s.drives.length k) { s with drives := s.drives.set i (rd', cl') } = bankCells (.slice (some ⟨db, o, none⟩) s.drives.length k) s := rfl
    show w'.heap[b]? = _
    rw [this]
    exact hk.blk h1 fun hs => (h5 i b hi (hS b hs)).2.1 rfl
  · show Own w' 56 1 _ (s.drives.set i (rd', cl')).length (ptrs d (s.drives.set i (rd', cl')).length) _
    rw [hlen]
    exact h2b.kp hk fun x hx hs => (h5 i x hi (hS x hs)).2.2 hx.1
  · intro j hj
    have hj' : j < s.drives.length := by simpa using hj
    by_cases hji : j = i
    · subst hji
      have e1 : (s.drives.set j (rd', cl'))[j]'hj = (rd', cl') := by simp
      show RefA w' (d j) (if j = j then a' else a j) ((s.drives.set j (rd', cl'))[j]'hj).1 ((s.drives.set j (rd', cl'))[j]'hj).2 _ ∧ _
      rw [e1, if_pos rfl]
      refine ⟨?_, hl⟩
      simpa using hD
    · have e1 : (s.drives.set i (rd', cl'))[j]'hj = s.drives[j] := by rw [List.getElem_set_ne (Ne.symm hji)]
      show RefA w' (d j) (if j = i then a' else a j) ((s.drives.set i (rd', cl'))[j]'hj).1 ((s.drives.set i (rd', cl'))[j]'hj).2 _ ∧ _
      rw [e1, if_neg hji]
      refine ⟨?_, (h4 j hj').2⟩
      simp only [hji, if_false]
      exact (h4 j hj').1.bound.kp hk fun x hx hs => h6 j i x hj' hi hji hx.1 (hS x hs)
  · intro j x hj hx
    have hj' : j < s.drives.length := by simpa using hj
    by_cases hji : j = i
    · subst hji
      simp only [if_true] at hx
      have hbl := blk_lt h1
      rcases hx with hx | hx
      · exact ⟨.inl (h5 j x hj' hx).1, (h5 j x hj' hx).2.1, fun hd => (h5 j x hj' hx).2.2 hd.1⟩
      · exact ⟨.inr hx, by omega, fun hd => by omega⟩
    · simp only [hji, if_false] at hx
      exact ⟨.inl (h5 j x hj' hx.1).1, (h5 j x hj' hx.1).2.1, fun hd => (h5 j x hj' hx.1).2.2 hd.1⟩
  · intro j l x hj hl2 hne hx hx'
    have hj' : j < s.drives.length := by simpa using hj
    have hl' : l < s.drives.length := by simpa using hl2
    by_cases hji : j = i
    · subst hji
      have hlj : ¬ l = j := fun h => hne h.symm
      simp only [if_true, hlj, if_false] at hx hx'
      rcases hx with hx | hx
      · exact h6 j l x hj' hl' hne hx hx'.1
      · omega
    · by_cases hli : l = i
      · subst hli
        simp only [if_true, hji, if_false] at hx hx'
        rcases hx' with hx' | hx'
        · exact h6 j l x hj' hl' hne hx.1 hx'
        · omega
      · simp only [hji, hli, if_false] at hx hx'
        exact h6 j l x hj' hl' hne hx.1 hx'.1


theorem num5 : numOf (some 5) = 13 := by decide
theorem num3 : numOf (some 3) = 12 := by decide
theorem num4 : numOf (some 4) = 16 := by decide
theorem num0 : numOf none = 0 := rfl
section
variable {w : World} {b : Nat} {s : BS} {F : Nat → Prop} {d sl : Int} {K : Value → World → Prop}
theorem rThere_ok (h : RBankAt w b s F) (hK : K (.int .i64 (numOf (bThere s d sl))) w) : call Tryd.prog 74 #[.pointer (some ⟨b, 0, none⟩), .int .i64 d, .int .i64 sl] w K := by
  obtain ⟨dd, a, Fr, v, Fd, h1, h2, _⟩ := h.ex
  obtain ⟨av, cv, rfl⟩ := h2.val
  unfold bankCells at h1
  refine F74_ok ?_
  unfold F74
  by_cases c1 : d < 0 ∨ s.drives.length ≤ d
  · have hb : bThere s d sl = some 5 := by unfold bThere; rw [if_pos c1]
    rw [hb, num5] at hK
    by_cases c2 : d < 0
    · simp (disch := first | omega | (simp only [size_alloc, size_set, heap_dr] <;> omega) | assumption | exact oneC_slice | exact oneC_int | exact oneC_bool | exact oneC_ptr | exact oneC_iface | exact oneC_nil | exact oneC_str | exact oneC_map | exact oneC_func | rfl) only [pick_bool, gs_true, gs_dec_pos, bn_lss, and_true, cond_true, shr_eq]
      exact hK
    · have c3 : (s.drives.length : Int) ≤ d := c1.resolve_left c2
      simp (disch := first | omega | (simp only [size_alloc, size_set, heap_dr] <;> omega) | assumption | exact oneC_slice | exact oneC_int | exact oneC_bool | exact oneC_ptr | exact oneC_iface | exact oneC_nil | exact oneC_str | exact oneC_map | exact oneC_func | rfl) only [ck_ptr, pick_bool, gs_dec_pos, gs_dec_neg, bn_lss, bn_geq, oK_some, cell_eq, cellOf_some, List.getElem?_toArray, List.getElem?_cons_zero, and_true, cond_false, shr_eq, fa_85_0, ld_83, len_83, h1]
      exact hK
  · have c2 : ¬ d < 0 := fun h => c1 (.inl h)
    have c3 : ¬ (s.drives.length : Int) ≤ d := fun h => c1 (.inr h)
    by_cases c4 : sl < 0
    · have hb : bThere s d sl = some 2 := by unfold bThere; rw [if_neg c1, if_pos (.inl c4)]
      rw [hb, numOf_slot] at hK
      simp (disch := first | omega | (simp only [size_alloc, size_set, heap_dr] <;> omega) | assumption | exact oneC_slice | exact oneC_int | exact oneC_bool | exact oneC_ptr | exact oneC_iface | exact oneC_nil | exact oneC_str | exact oneC_map | exact oneC_func | rfl) only [ck_ptr, pick_bool, gs_true, gs_dec_pos, gs_dec_neg, bn_lss, bn_geq, oK_some, cell_eq, cellOf_some, List.getElem?_toArray, List.getElem?_cons_zero, and_true, cond_true, cond_false, shr_eq, fa_85_0, ld_83, len_83, h1]
      exact hK
    · by_cases c5 : (s.slots : Int) ≤ sl
      · have hb : bThere s d sl = some 2 := by unfold bThere; rw [if_neg c1, if_pos (.inr c5)]
        rw [hb, numOf_slot] at hK
        simp (disch := first | omega | (simp only [size_alloc, size_set, heap_dr] <;> omega) | assumption | exact oneC_slice | exact oneC_int | exact oneC_bool | exact oneC_ptr | exact oneC_iface | exact oneC_nil | exact oneC_str | exact oneC_map | exact oneC_func | rfl) only [ck_ptr, pick_bool, gs_dec_pos, gs_dec_neg, bn_lss, bn_geq, oK_some, cell_eq, cellOf_some, List.getElem?_toArray, List.getElem?_cons_zero, List.getElem?_cons_succ, Nat.zero_add, and_true, cond_false, shr_eq, fa_85_0, ld_83, len_83, fa_85_1, ld_3, h1]
        exact hK
      · have hb : bThere s d sl = none := by unfold bThere; rw [if_neg c1, if_neg (fun h => h.elim c4 c5)]
        rw [hb, num0] at hK
        simp (disch := first | omega | (simp only [size_alloc, size_set, heap_dr] <;> omega) | assumption | exact oneC_slice | exact oneC_int | exact oneC_bool | exact oneC_ptr | exact oneC_iface | exact oneC_nil | exact oneC_str | exact oneC_map | exact oneC_func | rfl) only [ck_ptr, pick_bool, gs_dec_neg, bn_lss, bn_geq, oK_some, cell_eq, cellOf_some, List.getElem?_toArray, List.getElem?_cons_zero, List.getElem?_cons_succ, Nat.zero_add, and_true, cond_false, shr_eq, fa_85_0, ld_83, len_83, fa_85_1, ld_3, h1]
        exact hK
theorem rArm_ok {n : Int} (h : RBankAt w b s F) (hK : ∀ w', Kp (fun x => x = b) w w' → RBankAt w' b (bArm s n).1 F → K (.int .i64 (numOf (bArm s n).2)) w') :
    call Tryd.prog 66 #[.pointer (some ⟨b, 0, none⟩), .int .i64 n] w K := by
  obtain ⟨dd, a, Fr, v, Fd, h1, h2, _⟩ := h.ex
  unfold bankCells at h1
  refine F66_ok ?_
  unfold F66
  by_cases hn : n < 0
  · have hA : bArm s n = (s, some 3) := by unfold bArm; rw [if_pos hn]
    rw [hA] at hK
    simp only [num3] at hK
    simp (disch := first | omega | (simp only [size_alloc, size_set, heap_dr] <;> omega) | assumption | exact oneC_slice | exact oneC_int | exact oneC_bool | exact oneC_ptr | exact oneC_iface | exact oneC_nil | exact oneC_str | exact oneC_map | exact oneC_func | rfl) only [gs_dec_pos, bn_lss, and_true]
    exact hK _ .refl h
  · have hA : bArm s n = ({ s with armed := true, left := n }, none) := by unfold bArm; rw [if_neg hn]
    rw [hA] at hK
    simp only [num0] at hK
    simp (disch := first | omega | (simp only [size_alloc, size_set, heap_dr] <;> omega) | assumption | exact oneC_slice | exact oneC_int | exact oneC_bool | exact oneC_ptr | exact oneC_iface | exact oneC_nil | exact oneC_str | exact oneC_map | exact oneC_func | rfl) only [ck_ptr, gs_dec_neg, bn_lss, oK_some, cell_eq, frozen_eq, cellOf_some, frozenOf_some, setOf_some, heap_set_same, List.getElem?_toArray, List.getElem?_cons_zero, List.getElem?_cons_succ, List.setIfInBounds_toArray, List.set_cons_zero, List.set_cons_succ, Nat.zero_add, and_true, Bool.false_eq_true, if_false, fa_85_4, st_4, fa_85_5, st_3, h1]
    refine hK _ (Kp.set1.trans Kp.set1) (h.setB (Kp.set1.trans Kp.set1) (fun v hv => ?_) rfl rfl)
    rw [heap_set_same, heap_set_same, hv]
    rfl
theorem rUp_ok (h : RBankAt w b s F) (hK : ∀ w', Kp (fun x => x = b) w w' → RBankAt w' b (bUp s) F → K (.tuple #[]) w') : call Tryd.prog 67 #[.pointer (some ⟨b, 0, none⟩)] w K := by
  obtain ⟨dd, a, Fr, v, Fd, h1, h2, _⟩ := h.ex
  unfold bankCells at h1
  refine F67_ok ?_
  unfold F67
  simp (disch := first | omega | (simp only [size_alloc, size_set, heap_dr] <;> omega) | assumption | exact oneC_slice | exact oneC_int | exact oneC_bool | exact oneC_ptr | exact oneC_iface | exact oneC_nil | exact oneC_str | exact oneC_map | exact oneC_func | rfl) only [ck_ptr, oK_some, cell_eq, frozen_eq, cellOf_some, frozenOf_some, setOf_some, heap_set_same, List.getElem?_toArray, List.getElem?_cons_zero, List.getElem?_cons_succ, List.setIfInBounds_toArray, List.set_cons_zero, List.set_cons_succ, Nat.zero_add, and_true, Bool.false_eq_true, if_false, fa_85_3, st_4, fa_85_4, fa_85_5, st_3, h1]
  refine hK _ (Kp.set1.trans (Kp.set1.trans Kp.set1)) (h.setB (Kp.set1.trans (Kp.set1.trans Kp.set1)) (fun v hv => ?_) rfl rfl)
  rw [heap_set_same, heap_set_same, heap_set_same, hv]
  rfl
theorem numOf_ne {e : Nat} : decide (numOf (some e) = 0) = false := decide_eq_false numOf_pos
end
end Go.Proofs.YtfiakplgifimkaaDoor
