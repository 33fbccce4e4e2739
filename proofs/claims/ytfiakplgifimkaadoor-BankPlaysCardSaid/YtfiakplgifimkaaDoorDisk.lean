/- Contracts of the functions of package disk, over memory: what a drive is, and what each call makes of it. No statement of the seat is proved in this text. -/
import Derived.Test.YtfiakplgifimkaaDoorTsF
import Derived.Test.YtfiakplgifimkaaDoorTsT
import Derived.Test.YtfiakplgifimkaaDoorTsMem
namespace Go.Proofs.YtfiakplgifimkaaDoor
open Go.TS
set_option maxRecDepth 20000
def u8s (bs : List UInt8) : List Value := bs.map fun b => .int .u8 b.toNat
theorem u8s_len {bs : List UInt8} : (u8s bs).length = bs.length := by simp [u8s]
def MAXB : Nat := 140737488351232
/-- Bytes that can be read at v. -/
def By (w : World) (v : Value) (bs : List UInt8) (F : Nat → Prop) : Prop := Rd w 5 1 v bs.length (u8s bs) F ∧ bs.length ≤ MAXB
/-- Bytes of one's own. -/
def Bo (w : World) (v : Value) (bs : List UInt8) (F : Nat → Prop) : Prop := Own w 5 1 v bs.length (u8s bs) F ∧ bs.length ≤ MAXB
theorem Bo.by {w : World} {v : Value} {bs : List UInt8} {F : Nat → Prop} (h : Bo w v bs F) : By w v bs F := ⟨h.1.rd, h.2⟩
theorem By.one {w : World} {v : Value} {bs : List UInt8} {F : Nat → Prop} (h : By w v bs F) : oneC v = true := by obtain ⟨⟨a, c, rfl, _⟩, _⟩ := h; rfl
theorem Bo.bound {w : World} {v : Value} {bs : List UInt8} {F : Nat → Prop} (h : Bo w v bs F) : Bo w v bs (fun b => F b ∧ b < w.heap.size) := ⟨h.1.bound, h.2⟩
theorem By.bound {w : World} {v : Value} {bs : List UInt8} {F : Nat → Prop} (h : By w v bs F) : By w v bs (fun b => F b ∧ b < w.heap.size) := ⟨h.1.bound, h.2⟩
theorem u8s_one {bs : List UInt8} : ∀ x ∈ u8s bs, oneC x = true := by intro x hx; obtain ⟨b, _, rfl⟩ := List.mem_map.1 hx; rfl
theorem By.kp {w w' : World} {v : Value} {bs : List UInt8} {F S : Nat → Prop} (h : By w v bs F) (hk : Kp S w w') (hd : ∀ b, F b → ¬ S b) : By w' v bs F := ⟨h.1.kp hk hd, h.2⟩
theorem Bo.kp {w w' : World} {v : Value} {bs : List UInt8} {F S : Nat → Prop} (h : Bo w v bs F) (hk : Kp S w w') (hd : ∀ b, F b → ¬ S b) : Bo w' v bs F := ⟨h.1.kp hk hd, h.2⟩
theorem By.kn {w w' : World} {v : Value} {bs : List UInt8} {F : Nat → Prop} (h : By w v bs F) (hk : Kp none_ w w') : By w' v bs F := h.kp hk fun _ _ h => h
theorem Bo.kn {w w' : World} {v : Value} {bs : List UInt8} {F : Nat → Prop} (h : Bo w v bs F) (hk : Kp none_ w w') : Bo w' v bs F := h.kp hk fun _ _ h => h
theorem By.mono {w : World} {v : Value} {bs : List UInt8} {F G : Nat → Prop} (h : By w v bs F) (hF : ∀ b, F b → G b) : By w v bs G := ⟨h.1.mono hF, h.2⟩
theorem Bo.mono {w : World} {v : Value} {bs : List UInt8} {F G : Nat → Prop} (h : Bo w v bs F) (hF : ∀ b, F b → G b) : Bo w v bs G := ⟨h.1.mono hF, h.2⟩

/-- slices.Clone of bytes: new memory, or nil of nil. -/
theorem clone_ok {w : World} {v : Value} {bs : List UInt8} {F : Nat → Prop} {K : Value → World → Prop} (h : By w v bs F) (hK : ∀ v' w', Kp none_ w w' → Bo w' v' bs (fun b => w.heap.size ≤ b) → K v' w') : call Tryd.prog 71 #[v] w K := by
  obtain ⟨h, hb⟩ := h
  refine F71_ok ?_
  unfold F71
  obtain ⟨a, c, hv, h2, h3, h4, h5⟩ := id h
  subst hv
  rw [bn_slice_nil (e := 5) (by kernel_rfl)]
  cases a with
  | none =>
    have hbs : bs = [] := by
      rcases h5 with h5 | ⟨_, _, _, _, _, h6, _⟩
      · exact List.map_eq_nil_iff.1 h5
      · cases h6
    subst hbs
    exact hK _ _ .refl ⟨Own.nil, by simp⟩
  | some a =>
    simp only [Option.isNone_some, gs_false]
    rw [bsl_0 (e := 5) (n := 1) (by kernel_rfl) (by kernel_rfl)]
    have hkp : Kp none_ w (w.alloc (.cells #[] 5)) := Kp.refl.alloc _
    have hown : Own (w.alloc (.cells #[] 5)) 5 1 (.slice (some ⟨w.heap.size, 0, none⟩) 0 0) 0 [] (fun b => w.heap.size ≤ b) := Own.made (cs := #[]) (heap_alloc_eq rfl) (Nat.le_refl _) rfl (by simp)
    have hf1 : (0 + bs.length) * 1 ≤ 140737488355328 := by unfold MAXB at hb; omega
    have hf2 : 0 + bs.length ≤ 9223372036854775807 := by unfold MAXB at hb; omega
    have hr2 := h.kp hkp (fun _ _ h => h)
    refine app_ok (e := 5) (sz := 1) (z := .int .u8 0) (by_ := 1) (by kernel_rfl) (by kernel_rfl) (by kernel_rfl) (by kernel_rfl) (by kernel_rfl) rfl (by omega) hown hr2 hf1 hf2 ?_
    intro v' w' hk hr
    refine hK v' w' (hkp.trans' hk (fun x hx => .inr hx)) ⟨?_, hb⟩
    have := hr.mono (G := fun b => w.heap.size ≤ b) (fun b hb => by
      rcases hb with h | h
      · exact h
      · rw [size_alloc] at h; omega)
    simpa using this

/-- A block, copied: its parts lie apart. -/
theorem copied_ok {w : World} {vh vb : Value} {hs bs : List UInt8} {F : Nat → Prop} {K : Value → World → Prop} (hh : By w vh hs F) (hb : By w vb bs F)
    (hK : ∀ vh' vb' w' m, Kp none_ w w' → w.heap.size ≤ m → Bo w' vh' hs (fun b => w.heap.size ≤ b ∧ b < m) → Bo w' vb' bs (fun b => m ≤ b) → K (.agg #[vh', vb']) w') : call Tryd.prog 43 #[.agg #[vh, vb]] w K := by
  refine F43_ok ?_
  unfold F43
  have e1 := hh.one
  have e2 := hb.one
  simp (disch := first | omega | (simp only [size_alloc, size_set, heap_dr] <;> omega) | assumption | exact oneC_slice | exact oneC_int | exact oneC_bool | exact oneC_ptr | exact oneC_iface | exact oneC_nil | exact oneC_str | exact oneC_map | exact oneC_func | rfl) only [oK_some, cell_eq, cellOf_some, heap_alloc_lt, heap_alloc_eq, heap_dr, bx_agg, List.getElem?_toArray, List.getElem?_cons_zero, List.getElem?_cons_succ, Nat.zero_add, true_and, and_true, eq_self, alc_33, fa_33_0, ld_31, fa_33_1]
  refine nmC fun w1 hw1 => ?_
  have hk1 : Kp none_ w w1 := by rw [hw1]; exact ((Kp.refl.alloc _).alloc _).dr
  have hz1 : w1.heap.size = w.heap.size + 2 := by rw [hw1]; simp (disch := first | omega | (simp only [size_alloc, size_set, heap_dr] <;> omega) | assumption) only [size_alloc, heap_dr]
  have hb1 : w1.heap[w.heap.size]? = some (.cells #[vh, vb] 33 (0, 0)) := by rw [hw1]; simp (disch := first | omega | (simp only [size_alloc, size_set, heap_dr] <;> omega) | assumption) only [heap_alloc_lt, heap_alloc_eq, heap_dr]
  have hb2 : w1.heap[w.heap.size + 1]? = some (.cells #[.slice none 0 0, .slice none 0 0] 33 (0, 0)) := by rw [hw1]; simp (disch := first | omega | (simp only [size_alloc, size_set, heap_dr] <;> omega) | assumption) only [heap_alloc_eq, heap_dr]
  clear hw1
  refine clone_ok (hh.kp hk1 fun _ _ h => h) fun t5 w2 hk2 ho2 => ?_
  have hc1 := hk2.blk hb1 (fun h => h)
  have hc2 := hk2.blk hb2 (fun h => h)
  simp (disch := first | omega | (simp only [size_alloc, size_set, heap_dr] <;> omega) | assumption | exact oneC_slice | exact oneC_int | exact oneC_bool | exact oneC_ptr | exact oneC_iface | exact oneC_nil | exact oneC_str | exact oneC_map | exact oneC_func | rfl) only [oK_some, cell_eq, cellOf_some, List.getElem?_toArray, List.getElem?_cons_zero, List.getElem?_cons_succ, Nat.zero_add, true_and, and_true, eq_self, ld_31, fa_33_1, hc1]
  refine clone_ok ((hb.kp hk1 fun _ _ h => h).kp hk2 fun _ _ h => h) fun t8 w3 hk3 ho3 => ?_
  have hd2 := hk3.blk hc2 (fun h => h)
  have e5 := ho2.by.one
  have e8 := ho3.by.one
  simp (disch := first | omega | (simp only [size_alloc, size_set, heap_dr] <;> omega) | assumption | exact oneC_slice | exact oneC_int | exact oneC_bool | exact oneC_ptr | exact oneC_iface | exact oneC_nil | exact oneC_str | exact oneC_map | exact oneC_func | rfl) only [oK_some, cell_eq, frozen_eq, cellOf_some, frozenOf_some, setOf_some, heap_set_same, size_alloc, stc, resCell_eq, List.getElem?_toArray, List.getElem?_cons_zero, List.getElem?_cons_succ, List.setIfInBounds_toArray, List.set_cons_zero, List.set_cons_succ, Nat.zero_add, Nat.add_zero, true_and, and_true, Bool.false_eq_true, if_false, eq_self, bld_33_0_1, st_33, ld_33, hd2]
  have hset : Kp (fun x => x = w.heap.size + 1) w3 ((w3.setCell ⟨w.heap.size + 1, 0, none⟩ t5).setCell ⟨w.heap.size + 1, 1, none⟩ t8) := Kp.set1.trans Kp.set1
  have h12 := hk2.1
  refine hK _ _ _ w2.heap.size (((hk1.trans hk2).trans hk3).trans' hset fun x hx => .inr (by omega)) (by omega) ?_ ?_
  · exact ((ho2.bound.kp hk3 fun _ _ h => h).kp hset fun b hb h => by omega).mono fun b hb => by omega
  · exact (ho3.kp hset fun b hb h => by omega).mono fun b hb => by omega

/-! ### A drive -/
structure Cel where
  head : List UInt8
  body : List UInt8
  full : Bool
  bad : Bool
/-- The drive at block d: its meter, its cells at block a; F: all blocks that it hangs on. -/
structure DriveAt (w : World) (d a : Nat) (rd : Int) (cl : List Cel) (F : Nat → Prop) : Prop where
  blk : w.heap[d]? = some (.cells #[.int .i64 rd, .slice (some ⟨a, 0, none⟩) cl.length cl.length] 48 (0, 0))
  len : cl.length ≤ 256
  ne : d ≠ a
  fd : F d
  fa : F a
  cells : ∃ cs : Array Value, w.heap[a]? = some (.cells cs 89 (0, 0)) ∧ cs.size = cl.length * 4 ∧ ∀ i (h : i < cl.length), ∃ vh vb, cs[i * 4]? = some vh ∧ cs[i * 4 + 1]? = some vb ∧ cs[i * 4 + 2]? = some (.bool cl[i].full) ∧ cs[i * 4 + 3]? = some (.bool cl[i].bad) ∧ Bo w vh cl[i].head F ∧ Bo w vb cl[i].body F

theorem DriveAt.frame {w w' : World} {d a : Nat} {rd : Int} {cl : List Cel} {F : Nat → Prop} (h : DriveAt w d a rd cl F) (hk : ∀ b, F b → b < w.heap.size → w'.heap[b]? = w.heap[b]?) : DriveAt w' d a rd cl F := by
  obtain ⟨cs, h1, h2, h3⟩ := h.cells
  refine ⟨(hk d h.fd (blk_lt h.blk)).trans h.blk, h.len, h.ne, h.fd, h.fa, cs, (hk a h.fa (blk_lt h1)).trans h1, h2, fun i hi => ?_⟩
  obtain ⟨vh, vb, g1, g2, g3, g4, g5, g6⟩ := h3 i hi
  exact ⟨vh, vb, g1, g2, g3, g4, ⟨g5.1.frame hk, g5.2⟩, ⟨g6.1.frame hk, g6.2⟩⟩
theorem DriveAt.kp {w w' : World} {d a : Nat} {rd : Int} {cl : List Cel} {F S : Nat → Prop} (h : DriveAt w d a rd cl F) (hk : Kp S w w') (hd : ∀ b, F b → ¬ S b) : DriveAt w' d a rd cl F := h.frame fun b hb hl => hk.2 b hl (hd b hb)
theorem DriveAt.kn {w w' : World} {d a : Nat} {rd : Int} {cl : List Cel} {F : Nat → Prop} (h : DriveAt w d a rd cl F) (hk : Kp none_ w w') : DriveAt w' d a rd cl F := h.kp hk fun _ _ h => h
theorem DriveAt.mono {w : World} {d a : Nat} {rd : Int} {cl : List Cel} {F G : Nat → Prop} (h : DriveAt w d a rd cl F) (hF : ∀ b, F b → G b) : DriveAt w d a rd cl G := by
  obtain ⟨cs, h1, h2, h3⟩ := h.cells
  refine ⟨h.blk, h.len, h.ne, hF _ h.fd, hF _ h.fa, cs, h1, h2, fun i hi => ?_⟩
  obtain ⟨vh, vb, g1, g2, g3, g4, g5, g6⟩ := h3 i hi
  exact ⟨vh, vb, g1, g2, g3, g4, g5.mono hF, g6.mono hF⟩
theorem DriveAt.bound {w : World} {d a : Nat} {rd : Int} {cl : List Cel} {F : Nat → Prop} (h : DriveAt w d a rd cl F) : DriveAt w d a rd cl (fun b => F b ∧ b < w.heap.size) := by
  obtain ⟨cs, h1, h2, h3⟩ := h.cells
  refine ⟨h.blk, h.len, h.ne, ⟨h.fd, blk_lt h.blk⟩, ⟨h.fa, blk_lt h1⟩, cs, h1, h2, fun i hi => ?_⟩
  obtain ⟨vh, vb, g1, g2, g3, g4, g5, g6⟩ := h3 i hi
  exact ⟨vh, vb, g1, g2, g3, g4, g5.bound, g6.bound⟩

/-- has: is there such a slot? -/
theorem has_ok {w : World} {d a : Nat} {rd : Int} {cl : List Cel} {F : Nat → Prop} {s : Int} {K : Value → World → Prop} (h : DriveAt w d a rd cl F) (hK : K (.bool (decide (0 ≤ s ∧ s < cl.length))) w) : call Tryd.prog 42 #[.pointer (some ⟨d, 0, none⟩), .int .i64 s] w K := by
  have hd := h.blk
  refine F42_ok ?_
  unfold F42
  by_cases h0 : 0 ≤ s
  · simp (disch := first | omega | (simp only [size_alloc, size_set, heap_dr] <;> omega) | assumption | exact oneC_slice | exact oneC_int | exact oneC_bool | exact oneC_ptr | exact oneC_iface | exact oneC_nil | exact oneC_str | exact oneC_map | exact oneC_func | rfl) only [ck_ptr, pick_bool, gs_dec_pos, bn_lss, bn_geq, oK_some, cell_eq, cellOf_some, List.getElem?_toArray, List.getElem?_cons_zero, List.getElem?_cons_succ, Nat.zero_add, and_true, cond_true, shr_eq, fa_48_1, ld_46, len_46, hd]
    simpa [h0] using hK
  · simp (disch := first | omega | (simp only [size_alloc, size_set, heap_dr] <;> omega) | assumption | exact oneC_slice | exact oneC_int | exact oneC_bool | exact oneC_ptr | exact oneC_iface | exact oneC_nil | exact oneC_str | exact oneC_map | exact oneC_func | rfl) only [pick_bool, gs_dec_neg, bn_geq, and_true, cond_false, shr_eq]
    simpa [h0] using hK

/-- The errors that the drives answer: where their values lie. -/
def er (E : Nat → Addr) : Option Nat → Value
  | none => .nilIface
  | some g => .iface 113 (.pointer (some (E g)))
def ErrAt (w : World) (E : Nat → Addr) (g : Nat) : Prop := cellOf w.heap[g]? 0 = some (er E (some g))

/-- What a slot answers who reads it. -/
def asks (cl : List Cel) (s : Int) : Option Nat := if h : 0 ≤ s ∧ s < cl.length then (if (cl[s.toNat]'(by omega)).bad then some 0 else if (cl[s.toNat]'(by omega)).full then none else some 1) else some 2

theorem ErrAt.lt {w : World} {E : Nat → Addr} {g : Nat} (h : ErrAt w E g) : g < w.heap.size := by
  rcases Nat.lt_or_ge g w.heap.size with hl | hl
  · exact hl
  · unfold ErrAt at h
    rw [Array.getElem?_eq_none hl] at h
    cases h
theorem ErrAt.kp {w w' : World} {E : Nat → Addr} {g : Nat} {S : Nat → Prop} (h : ErrAt w E g) (hk : Kp S w w') (hs : ¬ S g) : ErrAt w' E g := by
  unfold ErrAt at h ⊢
  rw [hk.2 g (ErrAt.lt h) hs]
  exact h
theorem er_one {E : Nat → Addr} {o : Option Nat} : oneC (er E o) = true := by cases o <;> rfl

def getc (f : Cel → List UInt8) (cl : List Cel) (s : Int) : List UInt8 := if asks cl s = none then ((cl[s.toNat]?).map f).getD [] else []
theorem asks_in {cl : List Cel} {i : Nat} (hi : i < cl.length) : asks cl (i : Int) = if cl[i].bad then some 0 else if cl[i].full then none else some 1 := by
  unfold asks
  rw [dif_pos ⟨by omega, by omega⟩]
  simp only [Int.toNat_natCast]
theorem asks_out {cl : List Cel} {s : Int} (h : ¬ (0 ≤ s ∧ s < cl.length)) : asks cl s = some 2 := by unfold asks; rw [dif_neg h]
theorem Bo.nil {w : World} {F : Nat → Prop} : Bo w (.slice none 0 0) [] F := ⟨Own.nil, by simp⟩

/-- readable: a slot's block, copied, or the error. -/
theorem readable_ok {w : World} {d a : Nat} {rd : Int} {cl : List Cel} {F : Nat → Prop} {E : Nat → Addr} {s : Int} {K : Value → World → Prop} (h : DriveAt w d a rd cl F) (he0 : ErrAt w E 0) (he1 : ErrAt w E 1) (he2 : ErrAt w E 2)
    (hK : ∀ vh vb w' m, Kp none_ w w' → w.heap.size ≤ m → Bo w' vh (getc Cel.head cl s) (fun b => w.heap.size ≤ b ∧ b < m) → Bo w' vb (getc Cel.body cl s) (fun b => m ≤ b) → K (.tuple #[.agg #[vh, vb], er E (asks cl s)]) w') :
    call Tryd.prog 44 #[.pointer (some ⟨d, 0, none⟩), .int .i64 s] w K := by
  have hd := h.blk
  have hdl := blk_lt hd
  have l0 := he0.lt
  have l1 := he1.lt
  have l2 := he2.lt
  unfold ErrAt at he0 he1 he2
  have o0 := er_one (E := E) (o := some 0)
  have o1 := er_one (E := E) (o := some 1)
  have o2 := er_one (E := E) (o := some 2)
  have hka : Kp none_ w (w.alloc (.cells #[.slice none 0 0, .slice none 0 0] 33)) := Kp.refl.alloc _
  have hfin : ∀ W : World, ∀ g, Kp (fun x => x = w.heap.size) (dr (w.alloc (.cells #[.slice none 0 0, .slice none 0 0] 33))) W → asks cl s = some g → K (.tuple #[.agg #[.slice none 0 0, .slice none 0 0], er E (some g)]) W := by
    intro W g hW hg
    have := hK (.slice none 0 0) (.slice none 0 0) W w.heap.size (hka.dr.trans' hW fun x hx => .inr (by omega)) (Nat.le_refl _)
    unfold getc at this
    rw [hg] at this
    exact this Bo.nil Bo.nil
  refine F44_ok ?_
  unfold F44
  simp (disch := first | omega | (simp only [size_alloc, size_set, heap_dr] <;> omega) | assumption | exact oneC_slice | exact oneC_int | exact oneC_bool | exact oneC_ptr | exact oneC_iface | exact oneC_nil | exact oneC_str | exact oneC_map | exact oneC_func | rfl) only [and_true, alc_33]
  refine has_ok (h.kp hka fun _ _ h => h) ?_
  by_cases hs : 0 ≤ s ∧ s < cl.length
  · obtain ⟨i, rfl⟩ := Int.eq_ofNat_of_zero_le hs.1
    have hi : i < cl.length := by omega
    obtain ⟨cs, hc1, hc2, hc3⟩ := h.cells
    have hcl := blk_lt hc1
    obtain ⟨vh, vb, g1, g2, g3, g4, g5, g6⟩ := hc3 i hi
    rw [asks_in hi] at hfin
    cases hb : cl[i].bad with
    | true =>
      rw [hb] at g4
      simp (disch := first | omega | (simp only [size_alloc, size_set, heap_dr] <;> omega) | assumption | exact oneC_slice | exact oneC_int | exact oneC_bool | exact oneC_ptr | exact oneC_iface | exact oneC_nil | exact oneC_str | exact oneC_map | exact oneC_func | rfl) only [ck_ptr, gs_true, gs_dec_pos, gs_not, un_not, oK_some, cell_eq, frozen_eq, cellOf_some, frozenOf_some, setOf_some, heap_set_same, heap_set_ne, heap_alloc_lt, heap_alloc_eq, heap_dr, stc, resCell_eq, List.getElem?_toArray, List.getElem?_cons_zero, List.getElem?_cons_succ, List.setIfInBounds_toArray, List.set_cons_zero, List.set_cons_succ, Nat.zero_add, Nat.add_zero, Int.toNat_natCast, true_and, and_true, Bool.false_eq_true, if_false, eq_self, bld_33, ld_26, st_33, fa_48_1, ld_46, ia_46, fa_89_2, ld_4, ld_33, hd, hc1, g4, he0]
      exact hfin _ 0 (Kp.set1.trans Kp.set1) (by simp [hb])
    | false =>
      rw [hb] at g4
      cases hf : cl[i].full with
      | false =>
        rw [hf] at g3
        simp (disch := first | omega | (simp only [size_alloc, size_set, heap_dr] <;> omega) | assumption | exact oneC_slice | exact oneC_int | exact oneC_bool | exact oneC_ptr | exact oneC_iface | exact oneC_nil | exact oneC_str | exact oneC_map | exact oneC_func | rfl) only [ck_ptr, gs_false, gs_dec_pos, gs_not, un_not, oK_some, cell_eq, frozen_eq, cellOf_some, frozenOf_some, setOf_some, heap_set_same, heap_set_ne, heap_alloc_lt, heap_alloc_eq, heap_dr, stc, resCell_eq, List.getElem?_toArray, List.getElem?_cons_zero, List.getElem?_cons_succ, List.setIfInBounds_toArray, List.set_cons_zero, List.set_cons_succ, Nat.zero_add, Nat.add_zero, Int.toNat_natCast, true_and, and_true, Bool.false_eq_true, if_false, eq_self, bld_33, ld_26, st_33, fa_48_1, ld_46, ia_46, fa_89_2, ld_4, fa_89_1, ld_33, hd, hc1, g3, g4, he1]
        exact hfin _ 1 (Kp.set1.trans Kp.set1) (by simp [hb, hf])
      | true =>
        rw [hf] at g3
        simp (disch := first | omega | (simp only [size_alloc, size_set, heap_dr] <;> omega) | assumption | exact oneC_slice | exact oneC_int | exact oneC_bool | exact oneC_ptr | exact oneC_iface | exact oneC_nil | exact oneC_str | exact oneC_map | exact oneC_func | rfl) only [ck_ptr, gs_true, gs_false, gs_dec_pos, gs_not, un_not, oK_some, cell_eq, cellOf_some, heap_alloc_lt, List.getElem?_toArray, List.getElem?_cons_zero, List.getElem?_cons_succ, Nat.zero_add, Int.toNat_natCast, and_true, fa_48_1, ld_46, ia_46, fa_89_2, ld_4, fa_89_1, fa_89_0, ld_33, hd, hc1, g1, g2, g3, g4]
        refine copied_ok (g5.by.kp hka fun _ _ h => h) (g6.by.kp hka fun _ _ h => h) fun vh' vb' w' m hk hm hoh hob => ?_
        have hw : w'.heap[w.heap.size]? = some (.cells #[.slice none 0 0, .slice none 0 0] 33 (0, 0)) := hk.blk (heap_alloc_eq rfl) (fun h => h)
        have e1 := hoh.by.one
        have e2 := hob.by.one
        simp (disch := first | omega | (simp only [size_alloc, size_set, heap_dr] <;> omega) | assumption | exact oneC_slice | exact oneC_int | exact oneC_bool | exact oneC_ptr | exact oneC_iface | exact oneC_nil | exact oneC_str | exact oneC_map | exact oneC_func | rfl) only [oK_some, cell_eq, frozen_eq, cellOf_some, frozenOf_some, setOf_some, heap_set_same, stc, resCell_eq, List.getElem?_toArray, List.getElem?_cons_zero, List.getElem?_cons_succ, List.setIfInBounds_toArray, List.set_cons_zero, List.set_cons_succ, Nat.zero_add, Nat.add_zero, true_and, and_true, Bool.false_eq_true, if_false, eq_self, st_33, ld_33, hw]
        rw [size_alloc] at hm
        have hset : Kp (fun x => x = w.heap.size) w' ((w'.setCell ⟨w.heap.size, 0, none⟩ vh').setCell ⟨w.heap.size, 1, none⟩ vb') := Kp.set1.trans Kp.set1
        have hg : ∀ f : Cel → List UInt8, getc f cl (i : Int) = f cl[i] := fun f => by
          unfold getc; rw [asks_in hi]; simp [hb, hf, hi]
        have := hK vh' vb' _ m ((hka.trans hk).trans' hset fun x hx => .inr (by omega)) (by omega)
        rw [hg, hg, asks_in hi, hb, hf] at this
        exact this ((hoh.kp hset fun b h1 h2 => by rw [size_alloc] at h1; omega).mono fun b h1 => by rw [size_alloc] at h1; omega) (hob.kp hset fun b h1 h2 => by omega)
  · simp (disch := first | omega | (simp only [size_alloc, size_set, heap_dr] <;> omega) | assumption | exact oneC_slice | exact oneC_int | exact oneC_bool | exact oneC_ptr | exact oneC_iface | exact oneC_nil | exact oneC_str | exact oneC_map | exact oneC_func | rfl) only [gs_dec_neg, gs_not, un_not, oK_some, cell_eq, frozen_eq, cellOf_some, frozenOf_some, setOf_some, heap_set_same, heap_set_ne, heap_alloc_lt, heap_alloc_eq, heap_dr, stc, resCell_eq, List.getElem?_toArray, List.getElem?_cons_zero, List.getElem?_cons_succ, List.setIfInBounds_toArray, List.set_cons_zero, List.set_cons_succ, Nat.zero_add, Nat.add_zero, true_and, and_true, Bool.false_eq_true, if_false, eq_self, bld_33, ld_26, st_33, ld_33, he2]
    exact hfin _ 2 (Kp.set1.trans Kp.set1) (asks_out hs)

theorem Bo.set_other {w : World} {v : Value} {bs : List UInt8} {F : Nat → Prop} (h : Bo w v bs F) {g o e' : Nat} {cs : Array Value} {fr : Nat × Nat} {x : Value} (hg : w.heap[g]? = some (.cells cs e' fr)) (he : e' ≠ 5) : Bo (w.setCell ⟨g, o, none⟩ x) v bs F := ⟨h.1.set_other hg he, h.2⟩

/-- Head. -/
theorem head_ok {w : World} {d a : Nat} {rd : Int} {cl : List Cel} {F : Nat → Prop} {E : Nat → Addr} {s : Int} {K : Value → World → Prop} (h : DriveAt w d a rd cl F) (he0 : ErrAt w E 0) (he1 : ErrAt w E 1) (he2 : ErrAt w E 2)
    (hK : ∀ v w', Kp none_ w w' → Bo w' v (getc Cel.head cl s) (fun b => w.heap.size ≤ b) → K (.tuple #[v, er E (asks cl s)]) w') : call Tryd.prog 16 #[.pointer (some ⟨d, 0, none⟩), .int .i64 s] w K := by
  refine F16_ok ?_
  unfold F16
  refine readable_ok h he0 he1 he2 fun vh vb w1 m hk hm hh hb => ?_
  have e1 := hh.by.one
  have e2 := hb.by.one
  simp (disch := first | omega | (simp only [size_alloc, size_set, heap_dr] <;> omega) | assumption | exact oneC_slice | exact oneC_int | exact oneC_bool | exact oneC_ptr | exact oneC_iface | exact oneC_nil | exact oneC_str | exact oneC_map | exact oneC_func | rfl) only [ext_0, ext_1, oK_some, cell_eq, cellOf_some, heap_alloc_eq, List.getElem?_toArray, List.getElem?_cons_zero, and_true, ↓alst_33, fa_33_0, ld_31]
  have hset : Kp none_ w1 (w1.alloc (.cells #[vh, vb] 33)) := Kp.refl.alloc _
  have hsz := hk.1
  exact hK _ _ (hk.trans hset) ((hh.kp hset fun _ _ h => h).mono fun b h1 => h1.1)

theorem DriveAt.setRd {w : World} {d a : Nat} {rd r : Int} {cl : List Cel} {F : Nat → Prop} (h : DriveAt w d a rd cl F) : DriveAt (w.setCell ⟨d, 0, none⟩ (.int .i64 r)) d a r cl F := by
  have hd := h.blk
  obtain ⟨cs, h1, h2, h3⟩ := h.cells
  refine ⟨by rw [heap_set_same, hd]; rfl, h.len, h.ne, h.fd, h.fa, cs, (heap_set_ne h.ne.symm).trans h1, h2, fun i hi => ?_⟩
  obtain ⟨vh, vb, g1, g2, g3, g4, g5, g6⟩ := h3 i hi
  exact ⟨vh, vb, g1, g2, g3, g4, g5.set_other hd (by omega), g6.set_other hd (by omega)⟩

/-- add: the meter. -/
theorem add_ok {w : World} {d a : Nat} {rd n : Int} {cl : List Cel} {F : Nat → Prop} {K : Value → World → Prop} (h : DriveAt w d a rd cl F)
    (hK : K (.tuple #[]) (w.setCell ⟨d, 0, none⟩ (.int .i64 (IntKind.i64.wrap (rd + n))))) : call Tryd.prog 45 #[.pointer (some ⟨d, 0, none⟩), .int .i64 n] w K := by
  have hd := h.blk
  refine F45_ok ?_
  unfold F45
  simp (disch := first | omega | (simp only [size_alloc, size_set, heap_dr] <;> omega) | assumption | exact oneC_slice | exact oneC_int | exact oneC_bool | exact oneC_ptr | exact oneC_iface | exact oneC_nil | exact oneC_str | exact oneC_map | exact oneC_func | rfl) only [ck_ptr, bn_add, oK_some, cell_eq, frozen_eq, cellOf_some, frozenOf_some, List.getElem?_toArray, List.getElem?_cons_zero, and_true, Bool.false_eq_true, if_false, fa_45_0, ld_3, st_3, hd]
  exact hK

theorem By.val {w : World} {v : Value} {bs : List UInt8} {F : Nat → Prop} (h : By w v bs F) : ∃ a c, v = .slice a bs.length c := by obtain ⟨⟨a, c, h1, _⟩, _⟩ := h; exact ⟨a, c, h1⟩

/-- Body: what is read is metered. -/
theorem body_ok {w : World} {d a : Nat} {rd : Int} {cl : List Cel} {F : Nat → Prop} {E : Nat → Addr} {s : Int} {K : Value → World → Prop} (h : DriveAt w d a rd cl F) (he0 : ErrAt w E 0) (he1 : ErrAt w E 1) (he2 : ErrAt w E 2)
    (hK : ∀ v w', Kp (fun x => x = d) w w' → DriveAt w' d a (IntKind.i64.wrap (rd + (getc Cel.body cl s).length)) cl F → Bo w' v (getc Cel.body cl s) (fun b => w.heap.size ≤ b) → K (.tuple #[v, er E (asks cl s)]) w') :
    call Tryd.prog 17 #[.pointer (some ⟨d, 0, none⟩), .int .i64 s] w K := by
  have hdl := blk_lt h.blk
  refine F17_ok ?_
  unfold F17
  refine readable_ok h he0 he1 he2 fun vh vb w1 m hk hm hh hb => ?_
  have e1 := hh.by.one
  have e2 := hb.by.one
  obtain ⟨av, cv, rfl⟩ := hb.by.val
  have hd1 := hk.blk h.blk (fun h => h)
  have hdl1 := blk_lt hd1
  simp (disch := first | omega | (simp only [size_alloc, size_set, heap_dr] <;> omega) | assumption | exact oneC_slice | exact oneC_int | exact oneC_bool | exact oneC_ptr | exact oneC_iface | exact oneC_nil | exact oneC_str | exact oneC_map | exact oneC_func | rfl) only [ck_ptr, ext_0, ext_1, oK_some, cell_eq, cellOf_some, heap_alloc_eq, heap_dr, List.getElem?_toArray, List.getElem?_cons_zero, List.getElem?_cons_succ, Nat.zero_add, true_and, and_true, eq_self, ↓alst_33, fa_48_0, fa_33_1, ld_31, len_31]
  have hset : Kp none_ w1 (dr (w1.alloc (.cells #[vh, .slice av (getc Cel.body cl s).length cv] 33))) := (Kp.refl.alloc _).dr
  have hsz := hk.1
  have hD := (h.bound.kp hk fun _ _ h => h).kp hset fun _ _ h => h
  refine nmC fun w2 hw2 => ?_
  rw [← hw2] at hset hD
  have hb2 : w2.heap[w1.heap.size]? = some (.cells #[vh, .slice av (getc Cel.body cl s).length cv] 33 (0, 0)) := by rw [hw2]; simp (disch := first | omega | (simp only [size_alloc, size_set, heap_dr] <;> omega) | assumption) only [heap_alloc_eq, heap_dr]
  refine add_ok (hD.mono fun b hb => hb.1) ?_
  simp (disch := first | omega | (simp only [size_alloc, size_set, heap_dr] <;> omega) | assumption | exact oneC_slice | exact oneC_int | exact oneC_bool | exact oneC_ptr | exact oneC_iface | exact oneC_nil | exact oneC_str | exact oneC_map | exact oneC_func | rfl) only [oK_some, cell_eq, cellOf_some, heap_set_ne, List.getElem?_toArray, List.getElem?_cons_zero, List.getElem?_cons_succ, Nat.zero_add, and_true, fa_33_1, ld_31, hb2]
  have hd2 := hD.blk
  have hrd : Kp (fun x => x = d) w2 (w2.setCell ⟨d, 0, none⟩ (.int .i64 (IntKind.i64.wrap (rd + (getc Cel.body cl s).length)))) := Kp.set1
  refine hK _ _ (((hk.trans hset).ofNone).trans hrd) ((hD.mono fun b hb => hb.1).setRd) ?_
  exact ((hb.kp hset fun _ _ h => h).kp hrd fun b h1 h2 => by omega).mono fun b h1 => by omega
end Go.Proofs.YtfiakplgifimkaaDoor
