/- Contracts of package bank, second part: what goes to a drive. No statement of the seat is proved in this text. -/
import Derived.Test.YtfiakplgifimkaaDoorBank
namespace Go.Proofs.YtfiakplgifimkaaDoor
open Go.TS
set_option maxRecDepth 20000

theorem callV_fn {P : Program} {f : FuncId} {args : List Value} {w : World} {K : Value → World → Prop} : callV P (.func (.func f) #[] #[]) args w K = call P f args.toArray w K := nr (by simp [callV])
def bcl (s : BS) (d : Int) : List Cel := ((s.drives[d.toNat]?).map (·.2)).getD []
def brd (s : BS) (d : Int) : Int := ((s.drives[d.toNat]?).map (·.1)).getD 0
theorem bcl_in {s : BS} {i : Nat} (hi : i < s.drives.length) : bcl s (i : Int) = s.drives[i].2 := by simp [bcl, hi]
theorem brd_in {s : BS} {i : Nat} (hi : i < s.drives.length) : brd s (i : Int) = s.drives[i].1 := by simp [brd, hi]
/-- What a read answers. -/
def bRead (s : BS) (d sl : Int) : Option Nat := match bThere s d sl with
  | some e => some e
  | none => if s.down then some 4 else asks (bcl s d) sl
def getb (f : Cel → List UInt8) (s : BS) (d sl : Int) : List UInt8 := if bRead s d sl = none then getc f (bcl s d) sl else []
def bBody (s : BS) (d sl : Int) : BS := if bThere s d sl = none ∧ s.down = false then { s with drives := s.drives.set d.toNat (IntKind.i64.wrap (brd s d + (getc Cel.body (bcl s d) sl).length), bcl s d) } else s
/-- What a write leaves, and answers. -/
def bArmed (s : BS) : BS := if s.armed = true ∧ s.left = 0 then { s with down := true } else s
def bDone (s : BS) : BS := { s with left := if s.armed then IntKind.i64.wrap (s.left - 1) else s.left, writes := IntKind.i64.wrap (s.writes + 1) }
def bWrite (s : BS) (d sl : Int) (hs bs : List UInt8) : BS × Option Nat := match bThere s d sl with
  | some e => (s, some e)
  | none => if (bArmed s).down then (bArmed s, some 4) else ({ bDone (bArmed s) with drives := s.drives.set d.toNat (brd s d, (bcl s d).set sl.toNat ⟨hs, bs, true, false⟩) }, none)
theorem bArmed_drives {s : BS} : (bArmed s).drives = s.drives := by unfold bArmed; split <;> rfl
theorem bArmed_slots {s : BS} : (bArmed s).slots = s.slots := by unfold bArmed; split <;> rfl

section
variable {w : World} {b : Nat} {s : BS} {F : Nat → Prop} {E : Nat → Addr} {d sl : Int} {K : Value → World → Prop}
theorem bankHead_ok (h : BankAt w b s F) (he : Errs w E LB) (hK : ∀ v w', Kp none_ w w' → Bo w' v (getb Cel.head s d sl) (fun x => w.heap.size ≤ x) → K (.tuple #[v, er E (bRead s d sl)]) w') :
    call Tryd.prog 31 #[.pointer (some ⟨b, 0, none⟩), .int .i64 d, .int .i64 sl] w K := by
  have e4 := he.at_ 4 (by decide)
  unfold ErrAt at e4
  refine F31_ok ?_
  unfold F31
  refine F59_ok ?_
  unfold F59
  refine bankThere_ok h (he.at_ 5 (by decide)) (he.at_ 2 (by decide)) ?_
  cases ht : bThere s d sl with
  | some e =>
    have hr : bRead s d sl = some e := by unfold bRead; rw [ht]
    have hg : getb Cel.head s d sl = [] := by unfold getb; rw [hr]; rfl
    rw [hr, hg] at hK
    simp (disch := first | omega | (simp only [size_alloc, size_set, heap_dr] <;> omega) | assumption | exact oneC_slice | exact oneC_int | exact oneC_bool | exact oneC_ptr | exact oneC_iface | exact oneC_nil | exact oneC_str | exact oneC_map | exact oneC_func | rfl) only [gs_true, ext_0, ext_1, and_true, err_neq_nil, Option.isNone_some, Bool.not_false]
    exact hK _ _ .refl Bo.nil
  | none =>
    obtain ⟨i, j, hi, hj, rfl, rfl⟩ := bThere_none ht
    obtain ⟨dd, a, db, o, k, cs, Fi, h1, q4, qc, hD, hlen, hFi, upd⟩ := h.drive hi
    unfold bankCells at h1
    cases hdn : s.down with
    | true =>
      have hr : bRead s (i : Int) (j : Int) = some 4 := by unfold bRead; rw [ht, hdn]; rfl
      have hg : getb Cel.head s (i : Int) (j : Int) = [] := by unfold getb; rw [hr]; rfl
      rw [hr, hg] at hK
      rw [hdn] at h1
      simp (disch := first | omega | (simp only [size_alloc, size_set, heap_dr] <;> omega) | assumption | exact oneC_slice | exact oneC_int | exact oneC_bool | exact oneC_ptr | exact oneC_iface | exact oneC_nil | exact oneC_str | exact oneC_map | exact oneC_func | rfl) only [ck_ptr, gs_true, gs_false, ext_0, ext_1, oK_some, cell_eq, cellOf_some, heap_dr, List.getElem?_toArray, List.getElem?_cons_zero, List.getElem?_cons_succ, Nat.zero_add, true_and, and_true, eq_self, fa_107_3, ld_4, ld_26, err_neq_nil, Option.isNone_none, Bool.not_true, h1, e4]
      exact hK _ _ Kp.refl.dr Bo.nil
    | false =>
      have hr : bRead s (i : Int) (j : Int) = asks s.drives[i].2 j := by unfold bRead; rw [ht, hdn, bcl_in hi]; rfl
      have hg : getb Cel.head s (i : Int) (j : Int) = getc Cel.head s.drives[i].2 j := by
        unfold getb
        rw [hr, bcl_in hi]
        split
        · rfl
        · rename_i hn; unfold getc; rw [if_neg hn]
      rw [hr, hg] at hK
      rw [hdn] at h1
      simp (disch := first | omega | (simp only [size_alloc, size_set, heap_dr] <;> omega) | assumption | exact oneC_slice | exact oneC_int | exact oneC_bool | exact oneC_ptr | exact oneC_iface | exact oneC_nil | exact oneC_str | exact oneC_map | exact oneC_func | rfl) only [ck_ptr, gs_false, oK_some, cell_eq, cellOf_some, List.getElem?_toArray, List.getElem?_cons_zero, List.getElem?_cons_succ, Nat.zero_add, Int.toNat_natCast, and_true, fa_107_3, ld_4, fa_107_0, ld_105, ia_105, ld_24, err_neq_nil, callV_fn, Option.isNone_none, Bool.not_true, h1, q4, qc]
      refine head_ok hD (he.at_ 0 (by decide)) (he.at_ 1 (by decide)) (he.at_ 2 (by decide)) fun v w' hk hv => ?_
      simp (disch := first | omega | (simp only [size_alloc, size_set, heap_dr] <;> omega) | assumption | exact oneC_slice | exact oneC_int | exact oneC_bool | exact oneC_ptr | exact oneC_iface | exact oneC_nil | exact oneC_str | exact oneC_map | exact oneC_func | rfl) only [ext_0, ext_1, and_true]
      exact hK _ _ hk hv

theorem bankBody_ok (h : BankAt w b s F) (he : Errs w E LB) (hK : ∀ v w', Kp F w w' → BankAt w' b (bBody s d sl) (fun x => F x ∨ w.heap.size ≤ x) → Bo w' v (getb Cel.body s d sl) (fun x => w.heap.size ≤ x) → K (.tuple #[v, er E (bRead s d sl)]) w') :
    call Tryd.prog 34 #[.pointer (some ⟨b, 0, none⟩), .int .i64 d, .int .i64 sl] w K := by
  have e4 := he.at_ 4 (by decide)
  unfold ErrAt at e4
  refine F34_ok ?_
  unfold F34
  refine F59_ok ?_
  unfold F59
  refine bankThere_ok h (he.at_ 5 (by decide)) (he.at_ 2 (by decide)) ?_
  have hmono : BankAt w b s (fun x => F x ∨ w.heap.size ≤ x) := h.mono fun x hx => .inl hx
  cases ht : bThere s d sl with
  | some e =>
    have hr : bRead s d sl = some e := by unfold bRead; rw [ht]
    have hg : getb Cel.body s d sl = [] := by unfold getb; rw [hr]; rfl
    have hB : bBody s d sl = s := by unfold bBody; rw [ht]; rfl
    rw [hr, hg, hB] at hK
    simp (disch := first | omega | (simp only [size_alloc, size_set, heap_dr] <;> omega) | assumption | exact oneC_slice | exact oneC_int | exact oneC_bool | exact oneC_ptr | exact oneC_iface | exact oneC_nil | exact oneC_str | exact oneC_map | exact oneC_func | rfl) only [gs_true, ext_0, ext_1, and_true, err_neq_nil, Option.isNone_some, Bool.not_false]
    exact hK _ _ .refl hmono Bo.nil
  | none =>
    obtain ⟨i, j, hi, hj, rfl, rfl⟩ := bThere_none ht
    obtain ⟨dd, a, db, o, k, cs, Fi, h1, q4, qc, hD, hlen, hFi, upd⟩ := h.drive hi
    unfold bankCells at h1
    cases hdn : s.down with
    | true =>
      have hr : bRead s (i : Int) (j : Int) = some 4 := by unfold bRead; rw [ht, hdn]; rfl
      have hg : getb Cel.body s (i : Int) (j : Int) = [] := by unfold getb; rw [hr]; rfl
      have hB : bBody s (i : Int) (j : Int) = s := by unfold bBody; rw [ht, hdn]; rfl
      rw [hr, hg, hB] at hK
      rw [hdn] at h1
      simp (disch := first | omega | (simp only [size_alloc, size_set, heap_dr] <;> omega) | assumption | exact oneC_slice | exact oneC_int | exact oneC_bool | exact oneC_ptr | exact oneC_iface | exact oneC_nil | exact oneC_str | exact oneC_map | exact oneC_func | rfl) only [ck_ptr, gs_true, gs_false, ext_0, ext_1, oK_some, cell_eq, cellOf_some, heap_dr, List.getElem?_toArray, List.getElem?_cons_zero, List.getElem?_cons_succ, Nat.zero_add, true_and, and_true, eq_self, fa_107_3, ld_4, ld_26, err_neq_nil, Option.isNone_none, Bool.not_true, h1, e4]
      exact hK _ _ Kp.refl.dr (hmono.kn Kp.refl.dr) Bo.nil
    | false =>
      have hr : bRead s (i : Int) (j : Int) = asks s.drives[i].2 j := by unfold bRead; rw [ht, hdn, bcl_in hi]; rfl
      have hg : getb Cel.body s (i : Int) (j : Int) = getc Cel.body s.drives[i].2 j := by
        unfold getb
        rw [hr, bcl_in hi]
        split
        · rfl
        · rename_i hn; unfold getc; rw [if_neg hn]
      have hB : bBody s (i : Int) (j : Int) = { s with drives := s.drives.set i (IntKind.i64.wrap (s.drives[i].1 + (getc Cel.body s.drives[i].2 j).length), s.drives[i].2) } := by
        unfold bBody
        rw [if_pos ⟨ht, hdn⟩, bcl_in hi, brd_in hi, Int.toNat_natCast]
      rw [hr, hg, hB] at hK
      rw [hdn] at h1
      simp (disch := first | omega | (simp only [size_alloc, size_set, heap_dr] <;> omega) | assumption | exact oneC_slice | exact oneC_int | exact oneC_bool | exact oneC_ptr | exact oneC_iface | exact oneC_nil | exact oneC_str | exact oneC_map | exact oneC_func | rfl) only [ck_ptr, gs_false, oK_some, cell_eq, cellOf_some, List.getElem?_toArray, List.getElem?_cons_zero, List.getElem?_cons_succ, Nat.zero_add, Int.toNat_natCast, and_true, fa_107_3, ld_4, fa_107_0, ld_105, ia_105, ld_24, err_neq_nil, callV_fn, Option.isNone_none, Bool.not_true, h1, q4, qc]
      refine body_ok hD (he.at_ 0 (by decide)) (he.at_ 1 (by decide)) (he.at_ 2 (by decide)) fun v w' hk hD' hv => ?_
      simp (disch := first | omega | (simp only [size_alloc, size_set, heap_dr] <;> omega) | assumption | exact oneC_slice | exact oneC_int | exact oneC_bool | exact oneC_ptr | exact oneC_iface | exact oneC_nil | exact oneC_str | exact oneC_map | exact oneC_func | rfl) only [ext_0, ext_1, and_true]
      exact hK _ _ (hk.mono fun x hx => hx ▸ (hFi _ hD.fd).1) (upd w' _ _ _ _ hk (fun x hx => hx ▸ hD.fd) (hD'.mono fun x hx => .inl hx) hlen) hv

def bFull (s : BS) (d sl : Int) : Bool := (bThere s d sl).isNone && isFull (bcl s d) sl
def getbl (f : Cel → List UInt8) (s : BS) (d sl : Int) : List UInt8 := if bFull s d sl then getl f (bcl s d) sl else []
theorem bankLook_ok (h : BankAt w b s F) (he : Errs w E LB) (hK : ∀ vh vb w' m, Kp none_ w w' → w.heap.size ≤ m → Bo w' vh (getbl Cel.head s d sl) (fun x => w.heap.size ≤ x ∧ x < m) → Bo w' vb (getbl Cel.body s d sl) (fun x => m ≤ x) → K (.tuple #[.agg #[vh, vb], .bool (bFull s d sl)]) w') :
    call Tryd.prog 35 #[.pointer (some ⟨b, 0, none⟩), .int .i64 d, .int .i64 sl] w K := by
  have ka : Kp none_ w (w.alloc (.cells #[.slice none 0 0, .slice none 0 0] 33)) := Kp.refl.alloc _
  have hea := he.kpNew ka
  refine F35_ok ?_
  unfold F35
  simp (disch := first | omega | (simp only [size_alloc, size_set, heap_dr] <;> omega) | assumption | exact oneC_slice | exact oneC_int | exact oneC_bool | exact oneC_ptr | exact oneC_iface | exact oneC_nil | exact oneC_str | exact oneC_map | exact oneC_func | rfl) only [and_true, alc_33]
  refine bankThere_ok (h.kn ka) (hea.at_ 5 (by decide)) (hea.at_ 2 (by decide)) ?_
  cases ht : bThere s d sl with
  | some e =>
    have hf : bFull s d sl = false := by unfold bFull; rw [ht]; rfl
    have hg : ∀ f, getbl f s d sl = [] := fun f => by unfold getbl; rw [hf]; rfl
    rw [hf, hg, hg] at hK
    simp (disch := first | omega | (simp only [size_alloc, size_set, heap_dr] <;> omega) | assumption | exact oneC_slice | exact oneC_int | exact oneC_bool | exact oneC_ptr | exact oneC_iface | exact oneC_nil | exact oneC_str | exact oneC_map | exact oneC_func | rfl) only [gs_true, oK_some, cell_eq, frozen_eq, cellOf_some, frozenOf_some, setOf_some, heap_set_same, heap_alloc_eq, stc, resCell_eq, List.getElem?_toArray, List.getElem?_cons_zero, List.getElem?_cons_succ, List.setIfInBounds_toArray, List.set_cons_zero, List.set_cons_succ, Nat.zero_add, Nat.add_zero, true_and, and_true, Bool.false_eq_true, if_false, eq_self, bld_33, st_33, ld_33, err_neq_nil, Option.isNone_some, Bool.not_false]
    have hset : Kp (fun x => x = w.heap.size) (w.alloc (.cells #[.slice none 0 0, .slice none 0 0] 33)) (((w.alloc (.cells #[.slice none 0 0, .slice none 0 0] 33)).setCell ⟨w.heap.size, 0, none⟩ (.slice none 0 0)).setCell ⟨w.heap.size, 1, none⟩ (.slice none 0 0)) := Kp.set1.trans Kp.set1
    exact hK _ _ _ w.heap.size (ka.trans' hset fun x hx => .inr (by omega)) (Nat.le_refl _) Bo.nil Bo.nil
  | none =>
    obtain ⟨i, j, hi, hj, rfl, rfl⟩ := bThere_none ht
    obtain ⟨dd, a, db, o, k, cs, Fi, h1, q4, qc, hD, hlen, hFi, upd⟩ := h.drive hi
    unfold bankCells at h1
    have hbl := blk_lt h1
    have hdl := blk_lt q4
    have hf : bFull s (i : Int) (j : Int) = isFull s.drives[i].2 j := by unfold bFull; rw [ht, bcl_in hi]; rfl
    have hg : ∀ f, getbl f s (i : Int) (j : Int) = getl f s.drives[i].2 j := fun f => by
      unfold getbl
      rw [hf, bcl_in hi]
      split
      · rfl
      · rename_i hn; unfold getl; rw [if_neg hn]
    rw [hf, hg, hg] at hK
    simp (disch := first | omega | (simp only [size_alloc, size_set, heap_dr] <;> omega) | assumption | exact oneC_slice | exact oneC_int | exact oneC_bool | exact oneC_ptr | exact oneC_iface | exact oneC_nil | exact oneC_str | exact oneC_map | exact oneC_func | rfl) only [ck_ptr, gs_false, oK_some, cell_eq, cellOf_some, heap_alloc_lt, List.getElem?_toArray, List.getElem?_cons_zero, Int.toNat_natCast, and_true, fa_107_0, ld_105, ia_105, ld_24, err_neq_nil, Option.isNone_none, Bool.not_true, h1, q4, qc]
    refine look_ok (hD.kn ka) fun vh vb w1 m hk hm hvh hvb => ?_
    have bw := hk.blk (heap_alloc_eq (w := w) (o := .cells #[.slice none 0 0, .slice none 0 0] 33) rfl) (fun h => h)
    have e1 := hvh.by.one
    have e2 := hvb.by.one
    simp (disch := first | omega | (simp only [size_alloc, size_set, heap_dr] <;> omega) | assumption | exact oneC_slice | exact oneC_int | exact oneC_bool | exact oneC_ptr | exact oneC_iface | exact oneC_nil | exact oneC_str | exact oneC_map | exact oneC_func | rfl) only [ext_0, ext_1, oK_some, cell_eq, frozen_eq, cellOf_some, frozenOf_some, setOf_some, heap_set_same, stc, resCell_eq, List.getElem?_toArray, List.getElem?_cons_zero, List.getElem?_cons_succ, List.setIfInBounds_toArray, List.set_cons_zero, List.set_cons_succ, Nat.zero_add, Nat.add_zero, true_and, and_true, Bool.false_eq_true, if_false, eq_self, st_33, ld_33, bw]
    rw [size_alloc] at hm
    have hset : Kp (fun x => x = w.heap.size) w1 ((w1.setCell ⟨w.heap.size, 0, none⟩ vh).setCell ⟨w.heap.size, 1, none⟩ vb) := Kp.set1.trans Kp.set1
    refine hK _ _ _ m ((ka.trans hk).trans' hset fun x hx => .inr (by omega)) (by omega) ((hvh.kp hset fun x hx hx' => by rw [size_alloc] at hx; omega).mono fun x hx => by rw [size_alloc] at hx; omega) (hvb.kp hset fun x hx hx' => by omega)

def bWipe (s : BS) (d : Int) : BS × Option Nat := match bThere s d 0 with
  | some e => (s, some e)
  | none => ({ s with drives := s.drives.set d.toNat (brd s d, empties (bcl s d).length) }, none)
theorem bankWipe_ok (h : BankAt w b s F) (he : Errs w E LB) (hK : ∀ w', Kp F w w' → BankAt w' b (bWipe s d).1 (fun x => F x ∨ w.heap.size ≤ x) → K (er E (bWipe s d).2) w') :
    call Tryd.prog 36 #[.pointer (some ⟨b, 0, none⟩), .int .i64 d] w K := by
  refine F36_ok ?_
  unfold F36
  refine bankThere_ok h (he.at_ 5 (by decide)) (he.at_ 2 (by decide)) ?_
  cases ht : bThere s d 0 with
  | some e =>
    have hW : bWipe s d = (s, some e) := by unfold bWipe; rw [ht]
    rw [hW] at hK
    simp (disch := first | omega | (simp only [size_alloc, size_set, heap_dr] <;> omega) | assumption | exact oneC_slice | exact oneC_int | exact oneC_bool | exact oneC_ptr | exact oneC_iface | exact oneC_nil | exact oneC_str | exact oneC_map | exact oneC_func | rfl) only [gs_true, and_true, err_neq_nil, Option.isNone_some, Bool.not_false]
    exact hK _ .refl (h.mono fun x hx => .inl hx)
  | none =>
    obtain ⟨i, j, hi, hj, rfl, hj0⟩ := bThere_none ht
    obtain ⟨dd, a, db, o, k, cs, Fi, h1, q4, qc, hD, hlen, hFi, upd⟩ := h.drive hi
    unfold bankCells at h1
    have hW : bWipe s (i : Int) = ({ s with drives := s.drives.set i (s.drives[i].1, empties s.drives[i].2.length) }, none) := by unfold bWipe; rw [ht, bcl_in hi, brd_in hi, Int.toNat_natCast]
    rw [hW] at hK
    simp (disch := first | omega | (simp only [size_alloc, size_set, heap_dr] <;> omega) | assumption | exact oneC_slice | exact oneC_int | exact oneC_bool | exact oneC_ptr | exact oneC_iface | exact oneC_nil | exact oneC_str | exact oneC_map | exact oneC_func | rfl) only [ck_ptr, gs_false, oK_some, cell_eq, cellOf_some, List.getElem?_toArray, List.getElem?_cons_zero, Int.toNat_natCast, and_true, fa_107_0, ld_105, ia_105, ld_24, err_neq_nil, Option.isNone_none, Bool.not_true, h1, q4, qc]
    refine wipe_ok hD fun w' a' hk hD' => ?_
    exact hK _ (hk.mono fun x hx => hx ▸ (hFi _ hD.fd).1) (upd w' _ _ _ _ hk (fun x hx => hx ▸ hD.fd) hD' (by simpa [empties] using hlen))

def bSpoil (s : BS) (d sl : Int) : BS × Option Nat := match bThere s d sl with
  | some e => (s, some e)
  | none => ({ s with drives := s.drives.set d.toNat (brd s d, spoilt (bcl s d) sl) }, none)
theorem bankSpoil_ok (h : BankAt w b s F) (he : Errs w E LB) (hK : ∀ w', Kp F w w' → BankAt w' b (bSpoil s d sl).1 (fun x => F x ∨ w.heap.size ≤ x) → K (er E (bSpoil s d sl).2) w') :
    call Tryd.prog 37 #[.pointer (some ⟨b, 0, none⟩), .int .i64 d, .int .i64 sl] w K := by
  refine F37_ok ?_
  unfold F37
  refine bankThere_ok h (he.at_ 5 (by decide)) (he.at_ 2 (by decide)) ?_
  cases ht : bThere s d sl with
  | some e =>
    have hW : bSpoil s d sl = (s, some e) := by unfold bSpoil; rw [ht]
    rw [hW] at hK
    simp (disch := first | omega | (simp only [size_alloc, size_set, heap_dr] <;> omega) | assumption | exact oneC_slice | exact oneC_int | exact oneC_bool | exact oneC_ptr | exact oneC_iface | exact oneC_nil | exact oneC_str | exact oneC_map | exact oneC_func | rfl) only [gs_true, and_true, err_neq_nil, Option.isNone_some, Bool.not_false]
    exact hK _ .refl (h.mono fun x hx => .inl hx)
  | none =>
    obtain ⟨i, j, hi, hj, rfl, rfl⟩ := bThere_none ht
    obtain ⟨dd, a, db, o, k, cs, Fi, h1, q4, qc, hD, hlen, hFi, upd⟩ := h.drive hi
    unfold bankCells at h1
    have hW : bSpoil s (i : Int) (j : Int) = ({ s with drives := s.drives.set i (s.drives[i].1, spoilt s.drives[i].2 j) }, none) := by unfold bSpoil; rw [ht, bcl_in hi, brd_in hi, Int.toNat_natCast]
    have hin : inr s.drives[i].2 (j : Int) = true := decide_eq_true (by rw [hlen]; omega)
    rw [hW] at hK
    simp (disch := first | omega | (simp only [size_alloc, size_set, heap_dr] <;> omega) | assumption | exact oneC_slice | exact oneC_int | exact oneC_bool | exact oneC_ptr | exact oneC_iface | exact oneC_nil | exact oneC_str | exact oneC_map | exact oneC_func | rfl) only [ck_ptr, gs_false, oK_some, cell_eq, cellOf_some, List.getElem?_toArray, List.getElem?_cons_zero, Int.toNat_natCast, and_true, fa_107_0, ld_105, ia_105, ld_24, err_neq_nil, Option.isNone_none, Bool.not_true, h1, q4, qc]
    refine spoil_ok hD (he.at_ 2 (by decide)) fun w' hk hD' => ?_
    rw [hin]
    exact hK _ (hk.mono fun x hx => hx ▸ (hFi _ hD.fa).1) (upd w' _ _ _ _ hk (fun x hx => hx ▸ hD.fa) (hD'.mono fun x hx => .inl hx) (by unfold spoilt; split <;> simpa using hlen))
end
end Go.Proofs.YtfiakplgifimkaaDoor
