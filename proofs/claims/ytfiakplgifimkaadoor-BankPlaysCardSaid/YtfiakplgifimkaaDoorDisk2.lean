/- Contracts of package disk, second part: what writes. No statement of the seat is proved in this text. -/
import Derived.Test.YtfiakplgifimkaaDoorDisk
namespace Go.Proofs.YtfiakplgifimkaaDoor
open Go.TS
set_option maxRecDepth 20000

def inr (cl : List Cel) (s : Int) : Bool := decide (0 ≤ s ∧ s < cl.length)
/-- Four cells of a row written anew. -/
theorem set4 {cs : Array Value} {i : Nat} {x0 x1 x2 x3 : Value} (h : i * 4 + 3 < cs.size) (j k : Nat) (hk : k < 4) :
    ((((cs.setIfInBounds (i * 4) x0).setIfInBounds (i * 4 + 1) x1).setIfInBounds (i * 4 + 2) x2).setIfInBounds (i * 4 + 3) x3)[j * 4 + k]? =
      if j = i then [x0, x1, x2, x3][k]? else cs[j * 4 + k]? := by
  by_cases hj : j = i
  · subst hj
    rw [if_pos rfl]
    simp only [Array.getElem?_setIfInBounds, Array.size_setIfInBounds]
    match k, hk with
    | 0, _ => rw [if_neg (by omega), if_neg (by omega), if_neg (by omega), if_pos (by omega), if_pos (by omega)]; rfl
    | 1, _ => rw [if_neg (by omega), if_neg (by omega), if_pos (by omega), if_pos (by omega)]; rfl
    | 2, _ => rw [if_neg (by omega), if_pos (by omega), if_pos (by omega)]; rfl
    | 3, _ => rw [if_pos (by omega), if_pos (by omega)]; rfl
  · rw [if_neg hj]
    simp only [Array.getElem?_setIfInBounds, Array.size_setIfInBounds]
    rw [if_neg (by omega), if_neg (by omega), if_neg (by omega), if_neg (by omega)]

/-- A slot written: the drive behind it. -/
theorem DriveAt.setCel {w w' : World} {d a i : Nat} {rd : Int} {cl : List Cel} {F G : Nat → Prop} {vh vb : Value} {c : Cel} {cs : Array Value} (h : DriveAt w d a rd cl F) (hi : i < cl.length) (hcs : w.heap[a]? = some (.cells cs 89 (0, 0)))
    (hw : w' = (((w.setCell ⟨a, i * 4, none⟩ vh).setCell ⟨a, i * 4 + 1, none⟩ vb).setCell ⟨a, i * 4 + 2, none⟩ (.bool c.full)).setCell ⟨a, i * 4 + 3, none⟩ (.bool c.bad))
    (hh : Bo w vh c.head G) (hb : Bo w vb c.body G) (hF : ∀ b, F b → G b) : DriveAt w' d a rd (cl.set i c) G := by
  have hd := h.blk
  have hne := h.ne
  obtain ⟨cs', h1, h2, h3⟩ := h.cells
  rw [hcs] at h1
  cases h1
  have hot : ∀ {v : Value} {bs : List UInt8} {F : Nat → Prop}, Bo w v bs F → Bo w' v bs F := fun {v bs F} hv => by
    have e1 := hv.set_other (o := i * 4) (x := vh) hcs (by omega)
    have hc1 : (w.setCell ⟨a, i * 4, none⟩ vh).heap[a]? = some (.cells (cs.setIfInBounds (i * 4) vh) 89 (0, 0)) := by rw [heap_set_same, hcs]; rfl
    have e2 := e1.set_other (o := i * 4 + 1) (x := vb) hc1 (by omega)
    have hc2 : ((w.setCell ⟨a, i * 4, none⟩ vh).setCell ⟨a, i * 4 + 1, none⟩ vb).heap[a]? = some (.cells ((cs.setIfInBounds (i * 4) vh).setIfInBounds (i * 4 + 1) vb) 89 (0, 0)) := by rw [heap_set_same, hc1]; rfl
    have e3 := e2.set_other (o := i * 4 + 2) (x := .bool c.full) hc2 (by omega)
    have hc3 : (((w.setCell ⟨a, i * 4, none⟩ vh).setCell ⟨a, i * 4 + 1, none⟩ vb).setCell ⟨a, i * 4 + 2, none⟩ (.bool c.full)).heap[a]? = some (.cells (((cs.setIfInBounds (i * 4) vh).setIfInBounds (i * 4 + 1) vb).setIfInBounds (i * 4 + 2) (.bool c.full)) 89 (0, 0)) := by rw [heap_set_same, hc2]; rfl
    rw [hw]
    exact e3.set_other hc3 (by omega)
  have ha : w'.heap[a]? = some (.cells ((((cs.setIfInBounds (i * 4) vh).setIfInBounds (i * 4 + 1) vb).setIfInBounds (i * 4 + 2) (.bool c.full)).setIfInBounds (i * 4 + 3) (.bool c.bad)) 89 (0, 0)) := by
    rw [hw, heap_set_same, heap_set_same, heap_set_same, heap_set_same, hcs]; rfl
  refine ⟨?_, by rw [List.length_set]; exact h.len, hne, hF _ h.fd, hF _ h.fa, _, ha, by simp [h2], fun j hj => ?_⟩
  · rw [hw, heap_set_ne hne, heap_set_ne hne, heap_set_ne hne, heap_set_ne hne, hd, List.length_set]
  · have hj' : j < cl.length := by simpa using hj
    have hb4 : i * 4 + 3 < cs.size := by omega
    have g := fun k hk => set4 (x0 := vh) (x1 := vb) (x2 := .bool c.full) (x3 := .bool c.bad) hb4 j k hk
    by_cases hji : j = i
    · subst hji
      refine ⟨vh, vb, ?_, ?_, ?_, ?_, ?_, ?_⟩
      · have := g 0 (by omega); simpa using this
      · have := g 1 (by omega); simpa using this
      · have := g 2 (by omega); simpa using this
      · have := g 3 (by omega); simpa using this
      · simpa using hot hh
      · simpa using hot hb
    · obtain ⟨vh', vb', g1, g2, g3, g4, g5, g6⟩ := h3 j hj'
      have hs : (cl.set i c)[j] = cl[j] := by rw [List.getElem_set_ne (Ne.symm hji)]
      refine ⟨vh', vb', ?_, ?_, ?_, ?_, ?_, ?_⟩
      · have := g 0 (by omega); rw [if_neg hji] at this; simpa using this.trans (by simpa using g1)
      · have := g 1 (by omega); rw [if_neg hji] at this; exact this.trans g2
      · have := g 2 (by omega); rw [if_neg hji] at this; rw [hs]; exact this.trans g3
      · have := g 3 (by omega); rw [if_neg hji] at this; rw [hs]; exact this.trans g4
      · rw [hs]; exact (hot g5).mono hF
      · rw [hs]; exact (hot g6).mono hF

/-- Write: a slot holds a copy of the block. -/
theorem write_ok {w : World} {d a : Nat} {rd : Int} {cl : List Cel} {F G : Nat → Prop} {E : Nat → Addr} {s : Int} {vh vb : Value} {hs bs : List UInt8} {K : Value → World → Prop} (h : DriveAt w d a rd cl F) (he2 : ErrAt w E 2) (hh : By w vh hs G) (hb : By w vb bs G)
    (hK : ∀ w', Kp (fun x => x = a) w w' → DriveAt w' d a rd (if inr cl s then cl.set s.toNat ⟨hs, bs, true, false⟩ else cl) (fun x => F x ∨ w.heap.size ≤ x) → K (er E (if inr cl s then none else some 2)) w') :
    call Tryd.prog 13 #[.pointer (some ⟨d, 0, none⟩), .int .i64 s, .agg #[vh, vb]] w K := by
  have hd := h.blk
  have hdl := blk_lt hd
  have l2 := he2.lt
  have e1 := hh.one
  have e2 := hb.one
  have hk0 : Kp none_ w (w.alloc (.cells #[vh, vb] 33)) := Kp.refl.alloc _
  refine F13_ok ?_
  unfold F13
  simp (disch := first | omega | (simp only [size_alloc, size_set, heap_dr] <;> omega) | assumption | exact oneC_slice | exact oneC_int | exact oneC_bool | exact oneC_ptr | exact oneC_iface | exact oneC_nil | exact oneC_str | exact oneC_map | exact oneC_func | rfl) only [bx_agg, and_true]
  refine has_ok (h.kp hk0 fun _ _ h => h) ?_
  by_cases hi : 0 ≤ s ∧ s < cl.length
  · have hin : inr cl s = true := decide_eq_true hi
    obtain ⟨i, rfl⟩ := Int.eq_ofNat_of_zero_le hi.1
    have hil : i < cl.length := by omega
    obtain ⟨cs, hc1, hc2, hc3⟩ := h.cells
    have hcl := blk_lt hc1
    rw [hin] at hK
    simp only [if_true, Int.toNat_natCast] at hK
    simp (disch := first | omega | (simp only [size_alloc, size_set, heap_dr] <;> omega) | assumption | exact oneC_slice | exact oneC_int | exact oneC_bool | exact oneC_ptr | exact oneC_iface | exact oneC_nil | exact oneC_str | exact oneC_map | exact oneC_func | rfl) only [ck_ptr, gs_dec_pos, gs_not, un_not, oK_some, cell_eq, cellOf_some, heap_alloc_lt, heap_alloc_eq, heap_dr, List.getElem?_toArray, List.getElem?_cons_zero, List.getElem?_cons_succ, Nat.zero_add, true_and, and_true, eq_self, fa_48_1, ld_46, ld_33, hd]
    refine nmC fun w1 hw1 => ?_
    have hk1 : Kp none_ w w1 := by rw [hw1]; exact hk0.dr
    refine copied_ok (hh.kp hk1 fun _ _ h => h) (hb.kp hk1 fun _ _ h => h) fun vh' vb' w2 m hk2 hm oh ob => ?_
    have hk12 := hk1.trans hk2
    have hd2 := hk12.blk hd (fun h => h)
    have hc := hk12.blk hc1 (fun h => h)
    have e3 := oh.by.one
    have e4 := ob.by.one
    obtain ⟨vh0, vb0, g1, g2, g3, g4, _⟩ := hc3 i hil
    have q0 : cs[i * 4]? = some vh0 := g1
    have hne := h.ne
    have b1 : (cs.setIfInBounds (i * 4) vh')[i * 4 + 1]? = some vb0 := by rw [Array.getElem?_setIfInBounds_ne (by omega)]; exact g2
    have b2 : ((cs.setIfInBounds (i * 4) vh').setIfInBounds (i * 4 + 1) vb')[i * 4 + 2]? = some (.bool cl[i].full) := by rw [Array.getElem?_setIfInBounds_ne (by omega), Array.getElem?_setIfInBounds_ne (by omega)]; exact g3
    have b3 : (((cs.setIfInBounds (i * 4) vh').setIfInBounds (i * 4 + 1) vb').setIfInBounds (i * 4 + 2) (.bool true))[i * 4 + 3]? = some (.bool cl[i].bad) := by rw [Array.getElem?_setIfInBounds_ne (by omega), Array.getElem?_setIfInBounds_ne (by omega), Array.getElem?_setIfInBounds_ne (by omega)]; exact g4
    simp (disch := first | omega | (simp only [size_alloc, size_set, heap_dr] <;> omega) | assumption | exact oneC_slice | exact oneC_int | exact oneC_bool | exact oneC_ptr | exact oneC_iface | exact oneC_nil | exact oneC_str | exact oneC_map | exact oneC_func | rfl) only [ck_ptr, oK_some, cell_eq, frozen_eq, cellOf_some, frozenOf_some, setOf_some, heap_set_same, stc, List.getElem?_toArray, List.getElem?_cons_zero, List.getElem?_cons_succ, Nat.zero_add, Nat.add_zero, Int.toNat_natCast, true_and, and_true, Bool.false_eq_true, if_false, Nat.reduceAdd, eq_self, fa_48_1, ld_46, bld_89_0_1, ia_46, st_89, hd2, hc, q0, b1, b2, b3]
    refine hK _ ((hk12.ofNone).trans (Kp.set1.trans (Kp.set1.trans (Kp.set1.trans Kp.set1)))) ?_
    have hsz := hk1.1
    exact (h.kp hk12 fun _ _ h => h).setCel (c := ⟨hs, bs, true, false⟩) hil hc rfl (oh.mono fun b hb => .inr (by omega)) (ob.mono fun b hb => .inr (by omega)) fun b hb => .inl hb
  · have hin : inr cl s = false := decide_eq_false hi
    rw [hin] at hK
    unfold ErrAt at he2
    simp (disch := first | omega | (simp only [size_alloc, size_set, heap_dr] <;> omega) | assumption | exact oneC_slice | exact oneC_int | exact oneC_bool | exact oneC_ptr | exact oneC_iface | exact oneC_nil | exact oneC_str | exact oneC_map | exact oneC_func | rfl) only [gs_dec_neg, gs_not, un_not, oK_some, cell_eq, heap_alloc_lt, and_true, ld_26, he2]
    exact hK _ hk0.ofNone ((h.kp hk0 fun _ _ h => h).mono fun b hb => .inl hb)

/-- A slot spoilt: the drive behind it. -/
theorem DriveAt.setBad {w : World} {d a i : Nat} {rd : Int} {cl : List Cel} {F : Nat → Prop} {cs : Array Value} (h : DriveAt w d a rd cl F) (hi : i < cl.length) (hcs : w.heap[a]? = some (.cells cs 89 (0, 0))) :
    DriveAt (w.setCell ⟨a, i * 4 + 3, none⟩ (.bool true)) d a rd (cl.set i { cl[i] with bad := true }) F := by
  have hd := h.blk
  have hne := h.ne
  obtain ⟨cs', h1, h2, h3⟩ := h.cells
  rw [hcs] at h1
  cases h1
  refine ⟨?_, by rw [List.length_set]; exact h.len, hne, h.fd, h.fa, cs.setIfInBounds (i * 4 + 3) (.bool true), by rw [heap_set_same, hcs]; rfl, by simp [h2], fun j hj => ?_⟩
  · rw [heap_set_ne hne, hd, List.length_set]
  · have hj' : j < cl.length := by simpa using hj
    obtain ⟨vh', vb', g1, g2, g3, g4, g5, g6⟩ := h3 j hj'
    have o5 := g5.set_other (o := i * 4 + 3) (x := .bool true) hcs (by omega)
    have o6 := g6.set_other (o := i * 4 + 3) (x := .bool true) hcs (by omega)
    by_cases hji : j = i
    · subst hji
      refine ⟨vh', vb', ?_, ?_, ?_, ?_, ?_, ?_⟩
      · rw [Array.getElem?_setIfInBounds_ne (by omega)]; exact g1
      · rw [Array.getElem?_setIfInBounds_ne (by omega)]; exact g2
      · rw [Array.getElem?_setIfInBounds_ne (by omega)]; simpa using g3
      · rw [Array.getElem?_setIfInBounds_self_of_lt (by omega)]; simp
      · simpa using o5
      · simpa using o6
    · have hs : (cl.set i { cl[i] with bad := true })[j] = cl[j] := by rw [List.getElem_set_ne (Ne.symm hji)]
      refine ⟨vh', vb', ?_, ?_, ?_, ?_, ?_, ?_⟩
      · rw [Array.getElem?_setIfInBounds_ne (by omega)]; exact g1
      · rw [Array.getElem?_setIfInBounds_ne (by omega)]; exact g2
      · rw [Array.getElem?_setIfInBounds_ne (by omega), hs]; exact g3
      · rw [Array.getElem?_setIfInBounds_ne (by omega), hs]; exact g4
      · rw [hs]; exact o5
      · rw [hs]; exact o6

def spoilt (cl : List Cel) (s : Int) : List Cel := if h : 0 ≤ s ∧ s < cl.length then cl.set s.toNat { cl[s.toNat]'(by omega) with bad := true } else cl
/-- Spoil. -/
theorem spoil_ok {w : World} {d a : Nat} {rd : Int} {cl : List Cel} {F : Nat → Prop} {E : Nat → Addr} {s : Int} {K : Value → World → Prop} (h : DriveAt w d a rd cl F) (he2 : ErrAt w E 2)
    (hK : ∀ w', Kp (fun x => x = a) w w' → DriveAt w' d a rd (spoilt cl s) F → K (er E (if inr cl s then none else some 2)) w') :
    call Tryd.prog 15 #[.pointer (some ⟨d, 0, none⟩), .int .i64 s] w K := by
  have hd := h.blk
  refine F15_ok ?_
  unfold F15
  refine has_ok h ?_
  by_cases hi : 0 ≤ s ∧ s < cl.length
  · have hin : inr cl s = true := decide_eq_true hi
    obtain ⟨i, rfl⟩ := Int.eq_ofNat_of_zero_le hi.1
    have hil : i < cl.length := by omega
    obtain ⟨cs, hc1, hc2, hc3⟩ := h.cells
    obtain ⟨vh0, vb0, g1, g2, g3, g4, _⟩ := hc3 i hil
    have hsp : spoilt cl (i : Int) = cl.set i { cl[i] with bad := true } := by unfold spoilt; rw [dif_pos hi]; simp only [Int.toNat_natCast]
    rw [hin, hsp] at hK
    simp (disch := first | omega | (simp only [size_alloc, size_set, heap_dr] <;> omega) | assumption | exact oneC_slice | exact oneC_int | exact oneC_bool | exact oneC_ptr | exact oneC_iface | exact oneC_nil | exact oneC_str | exact oneC_map | exact oneC_func | rfl) only [ck_ptr, gs_dec_pos, gs_not, un_not, oK_some, cell_eq, frozen_eq, cellOf_some, frozenOf_some, List.getElem?_toArray, List.getElem?_cons_zero, List.getElem?_cons_succ, Nat.zero_add, Int.toNat_natCast, and_true, Bool.false_eq_true, if_false, fa_48_1, ld_46, ia_46, fa_89_2, st_4, hd, hc1, g4]
    exact hK _ Kp.set1 (h.setBad hil hc1)
  · have hin : inr cl s = false := decide_eq_false hi
    have hsp : spoilt cl s = cl := by unfold spoilt; rw [dif_neg hi]
    rw [hin, hsp] at hK
    unfold ErrAt at he2
    simp (disch := first | omega | (simp only [size_alloc, size_set, heap_dr] <;> omega) | assumption | exact oneC_slice | exact oneC_int | exact oneC_bool | exact oneC_ptr | exact oneC_iface | exact oneC_nil | exact oneC_str | exact oneC_map | exact oneC_func | rfl) only [gs_dec_neg, gs_not, un_not, oK_some, cell_eq, and_true, ld_26, he2]
    exact hK _ .refl h

def emptyC : Cel := ⟨[], [], false, false⟩
def empties (n : Nat) : List Cel := List.replicate n emptyC
/-- A row of empty cells. -/
theorem empties_cells {w : World} {a n : Nat} {F : Nat → Prop} (ha : w.heap[a]? = some (.cells (zrs #[.slice none 0 0, .slice none 0 0, .bool false, .bool false] n) 89 (0, 0))) :
    ∃ cs : Array Value, w.heap[a]? = some (.cells cs 89 (0, 0)) ∧ cs.size = (empties n).length * 4 ∧ ∀ i (h : i < (empties n).length), ∃ vh vb, cs[i * 4]? = some vh ∧ cs[i * 4 + 1]? = some vb ∧ cs[i * 4 + 2]? = some (.bool (empties n)[i].full) ∧ cs[i * 4 + 3]? = some (.bool (empties n)[i].bad) ∧ Bo w vh (empties n)[i].head F ∧ Bo w vb (empties n)[i].body F := by
  refine ⟨_, ha, by rw [zrs_size]; simp [empties], fun i hi => ?_⟩
  have hi' : i < n := by simpa [empties] using hi
  have g := fun j hj => zrs_get (z := #[.slice none 0 0, .slice none 0 0, .bool false, .bool false]) (j := j) hi' hj
  have he : (empties n)[i] = emptyC := by simp [empties]
  rw [he]
  exact ⟨_, _, g 0 (by decide), g 1 (by decide), g 2 (by decide), g 3 (by decide), Bo.nil, Bo.nil⟩

/-- Wipe: the drive is empty; the meter stays. -/
theorem wipe_ok {w : World} {d a : Nat} {rd : Int} {cl : List Cel} {F : Nat → Prop} {K : Value → World → Prop} (h : DriveAt w d a rd cl F)
    (hK : ∀ w' a', Kp (fun x => x = d) w w' → DriveAt w' d a' rd (empties cl.length) (fun x => F x ∨ w.heap.size ≤ x) → K (.tuple #[]) w') : call Tryd.prog 14 #[.pointer (some ⟨d, 0, none⟩)] w K := by
  have hd := h.blk
  have hdl := blk_lt hd
  have hlen := h.len
  refine F14_ok ?_
  unfold F14
  simp (disch := first | omega | (simp only [size_alloc, size_set, heap_dr] <;> omega) | assumption | exact oneC_slice | exact oneC_int | exact oneC_bool | exact oneC_ptr | exact oneC_iface | exact oneC_nil | exact oneC_str | exact oneC_map | exact oneC_func | rfl) only [ck_ptr, oK_some, cell_eq, cellOf_some, List.getElem?_toArray, List.getElem?_cons_zero, List.getElem?_cons_succ, Nat.zero_add, and_true, fa_48_1, ld_46, len_46, hd]
  rw [mkS_ok (e := 89) (sz := 4) (by_ := 56) (z := .agg #[.slice none 0 0, .slice none 0 0, .bool false, .bool false]) (by kernel_rfl) (by kernel_rfl) (by kernel_rfl) (by kernel_rfl) rfl (by omega) (by omega) (by omega)]
  simp (disch := first | omega | (simp only [size_alloc, size_set, heap_dr] <;> omega) | assumption | exact oneC_slice | exact oneC_int | exact oneC_bool | exact oneC_ptr | exact oneC_iface | exact oneC_nil | exact oneC_str | exact oneC_map | exact oneC_func | rfl) only [ck_ptr, oK_some, cell_eq, frozen_eq, cellOf_some, frozenOf_some, heap_alloc_lt, cells_agg, List.getElem?_toArray, List.getElem?_cons_zero, List.getElem?_cons_succ, Nat.zero_add, and_true, Bool.false_eq_true, if_false, fa_48_1, st_46, hd]
  refine hK _ w.heap.size ((Kp.refl.alloc _).trans Kp.set1) ?_
  have hn : d ≠ w.heap.size := by omega
  refine ⟨?_, by simpa [empties] using hlen, hn, .inl h.fd, .inr (Nat.le_refl _), empties_cells ((heap_set_ne hn.symm).trans (heap_alloc_eq rfl))⟩
  rw [heap_set_same, heap_alloc_lt hdl, hd]
  simp [setOf, empties]

/-- New. -/
theorem new_ok {w : World} {E : Nat → Addr} {s : Int} {K : Value → World → Prop} (he2 : ErrAt w E 2)
    (hyes : ∀ n : Nat, s = n → 4 ≤ n → n ≤ 256 → ∀ w' d a, Kp none_ w w' → DriveAt w' d a 0 (empties n) (fun x => w.heap.size ≤ x) → K (.tuple #[.pointer (some ⟨d, 0, none⟩), .nilIface]) w')
    (hno : s < 4 ∨ 256 < s → ∀ w', Kp none_ w w' → K (.tuple #[.pointer none, er E (some 2)]) w') : call Tryd.prog 11 #[.int .i64 s] w K := by
  unfold ErrAt at he2
  refine F11_ok ?_
  unfold F11
  by_cases h1 : s < 4
  · simp (disch := first | omega | (simp only [size_alloc, size_set, heap_dr] <;> omega) | assumption | exact oneC_slice | exact oneC_int | exact oneC_bool | exact oneC_ptr | exact oneC_iface | exact oneC_nil | exact oneC_str | exact oneC_map | exact oneC_func | rfl) only [pick_bool, gs_true, gs_dec_pos, bn_lss, oK_some, cell_eq, heap_dr, true_and, and_true, cond_true, eq_self, shr_eq, ld_26, he2]
    exact hno (.inl h1) _ Kp.refl.dr
  · by_cases h2 : 256 < s
    · simp (disch := first | omega | (simp only [size_alloc, size_set, heap_dr] <;> omega) | assumption | exact oneC_slice | exact oneC_int | exact oneC_bool | exact oneC_ptr | exact oneC_iface | exact oneC_nil | exact oneC_str | exact oneC_map | exact oneC_func | rfl) only [pick_bool, gs_dec_pos, gs_dec_neg, bn_lss, bn_gtr, oK_some, cell_eq, heap_dr, true_and, and_true, cond_false, eq_self, shr_eq, ld_26, he2]
      exact hno (.inr h2) _ Kp.refl.dr
    · obtain ⟨n, rfl⟩ := Int.eq_ofNat_of_zero_le (show 0 ≤ s by omega)
      have hn : n ≤ 256 := by omega
      simp (disch := first | omega | (simp only [size_alloc, size_set, heap_dr] <;> omega) | assumption | exact oneC_slice | exact oneC_int | exact oneC_bool | exact oneC_ptr | exact oneC_iface | exact oneC_nil | exact oneC_str | exact oneC_map | exact oneC_func | rfl) only [pick_bool, gs_dec_neg, bn_lss, bn_gtr, and_true, cond_false, shr_eq]
      rw [mkS_ok (e := 89) (sz := 4) (by_ := 56) (z := .agg #[.slice none 0 0, .slice none 0 0, .bool false, .bool false]) (by kernel_rfl) (by kernel_rfl) (by kernel_rfl) (by kernel_rfl) rfl (by omega) (by omega) (by omega)]
      simp (disch := first | omega | (simp only [size_alloc, size_set, heap_dr] <;> omega) | assumption | exact oneC_slice | exact oneC_int | exact oneC_bool | exact oneC_ptr | exact oneC_iface | exact oneC_nil | exact oneC_str | exact oneC_map | exact oneC_func | rfl) only [size_alloc, bx_agg, cells_agg, and_true, bld_48_1]
      refine hyes n rfl (by omega) hn _ (w.heap.size + 1) w.heap.size ((Kp.refl.alloc _).alloc _) ?_
      refine ⟨?_, by simpa [empties] using hn, by omega, by omega, Nat.le_refl _, empties_cells ?_⟩
      · rw [heap_alloc_eq (by rw [size_alloc])]; simp [empties]
      · rw [heap_alloc_lt (by rw [size_alloc]; omega), heap_alloc_eq rfl]

/-- Meter. -/
theorem meter_ok {w : World} {d a : Nat} {rd : Int} {cl : List Cel} {F : Nat → Prop} {K : Value → World → Prop} (h : DriveAt w d a rd cl F) (hK : K (.int .i64 rd) w) : call Tryd.prog 19 #[.pointer (some ⟨d, 0, none⟩)] w K := by
  have hd := h.blk
  refine F19_ok ?_
  unfold F19
  simp (disch := first | omega | (simp only [size_alloc, size_set, heap_dr] <;> omega) | assumption | exact oneC_slice | exact oneC_int | exact oneC_bool | exact oneC_ptr | exact oneC_iface | exact oneC_nil | exact oneC_str | exact oneC_map | exact oneC_func | rfl) only [ck_ptr, oK_some, cell_eq, cellOf_some, List.getElem?_toArray, List.getElem?_cons_zero, and_true, fa_45_0, ld_3, hd]
  exact hK
end Go.Proofs.YtfiakplgifimkaaDoor
