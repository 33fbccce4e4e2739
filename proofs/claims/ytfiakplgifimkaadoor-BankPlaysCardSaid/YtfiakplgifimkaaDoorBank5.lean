/- Contracts of package bank, fifth part: calls on a bank that is new since some world; the chapter's example. No statement of the seat is proved in this text. -/
import Derived.Test.YtfiakplgifimkaaDoorBank4
namespace Go.Proofs.YtfiakplgifimkaaDoor
open Go.TS
set_option maxRecDepth 20000

section
variable {w0 w : World} {b M : Nat} {s : BS} {E : Nat → Addr} {d sl : Int} {K : Value → World → Prop}
theorem bankWrite_new {vh vb : Value} {hs bs : List UInt8} (he : Errs w0 E LB) (hk : Kp none_ w0 w) (hM : M ≤ w.heap.size) (h : BankAt w b s (fun x => w0.heap.size ≤ x ∧ x < M)) (hh : By w vh hs (fun x => x < w0.heap.size ∨ M ≤ x)) (hb : By w vb bs (fun x => x < w0.heap.size ∨ M ≤ x))
    (hK : ∀ w', Kp (fun x => w0.heap.size ≤ x ∧ x < M) w w' → Kp none_ w0 w' → BankAt w' b (bWrite s d sl hs bs).1 (fun x => w0.heap.size ≤ x) → K (er E (bWrite s d sl hs bs).2) w') :
    call Tryd.prog 29 #[.pointer (some ⟨b, 0, none⟩), .int .i64 d, .int .i64 sl, .agg #[vh, vb]] w K :=
  bankWrite_ok h (he.kpNew hk) hh hb (fun x hx hx' => by rcases hx with hx | hx <;> omega) (fun g hg => ⟨fun hx => by have := (he.lt hg).1; omega, fun hx => by have := (he.lt hg).2; omega⟩)
    fun w' hk' hB => hK w' hk' (hk.trans' hk' fun x hx => .inr hx.1) (hB.mono fun x hx => by have := hk.1; omega)
theorem bankBody_new (he : Errs w0 E LB) (hk : Kp none_ w0 w) (h : BankAt w b s (fun x => w0.heap.size ≤ x)) (hK : ∀ v w', Kp none_ w0 w' → BankAt w' b (bBody s d sl) (fun x => w0.heap.size ≤ x) → Bo w' v (getb Cel.body s d sl) (fun x => w.heap.size ≤ x) → K (.tuple #[v, er E (bRead s d sl)]) w') :
    call Tryd.prog 34 #[.pointer (some ⟨b, 0, none⟩), .int .i64 d, .int .i64 sl] w K :=
  bankBody_ok h (he.kpNew hk) fun v w' hk' hB hv => hK v w' (hk.trans' hk' fun x hx => .inr hx) (hB.mono fun x hx => by have := hk.1; omega) hv
theorem bankWipe_new (he : Errs w0 E LB) (hk : Kp none_ w0 w) (h : BankAt w b s (fun x => w0.heap.size ≤ x)) (hK : ∀ w', Kp none_ w0 w' → BankAt w' b (bWipe s d).1 (fun x => w0.heap.size ≤ x) → K (er E (bWipe s d).2) w') :
    call Tryd.prog 36 #[.pointer (some ⟨b, 0, none⟩), .int .i64 d] w K :=
  bankWipe_ok h (he.kpNew hk) fun w' hk' hB => hK w' (hk.trans' hk' fun x hx => .inr hx) (hB.mono fun x hx => by have := hk.1; omega)
theorem bankSpoil_new (he : Errs w0 E LB) (hk : Kp none_ w0 w) (h : BankAt w b s (fun x => w0.heap.size ≤ x)) (hK : ∀ w', Kp none_ w0 w' → BankAt w' b (bSpoil s d sl).1 (fun x => w0.heap.size ≤ x) → K (er E (bSpoil s d sl).2) w') :
    call Tryd.prog 37 #[.pointer (some ⟨b, 0, none⟩), .int .i64 d, .int .i64 sl] w K :=
  bankSpoil_ok h (he.kpNew hk) fun w' hk' hB => hK w' (hk.trans' hk' fun x hx => .inr hx) (hB.mono fun x hx => by have := hk.1; omega)
def bArm (s : BS) (n : Int) : BS × Option Nat := if n < 0 then (s, some 3) else ({ s with armed := true, left := n }, none)
theorem bankArm_new {n : Int} (he : Errs w0 E LB) (hk : Kp none_ w0 w) (h : BankAt w b s (fun x => w0.heap.size ≤ x)) (hK : ∀ w', Kp none_ w0 w' → BankAt w' b (bArm s n).1 (fun x => w0.heap.size ≤ x) → K (er E (bArm s n).2) w') :
    call Tryd.prog 27 #[.pointer (some ⟨b, 0, none⟩), .int .i64 n] w K := by
  refine bankArm_ok h ((he.kpNew hk).at_ 3 (by decide)) (fun hn => ?_) (fun hn w' hk' hB => ?_)
  · have : bArm s n = (s, some 3) := by unfold bArm; rw [if_pos hn]
    rw [this] at hK
    exact hK w hk h
  · have : bArm s n = ({ s with armed := true, left := n }, none) := by unfold bArm; rw [if_neg (by omega)]
    rw [this] at hK
    exact hK w' (hk.trans' hk' fun x hx => .inr (hx ▸ h.fb)) hB
def bUp (s : BS) : BS := { s with down := false, armed := false, left := 0 }
theorem bankUp_new (hk : Kp none_ w0 w) (h : BankAt w b s (fun x => w0.heap.size ≤ x)) (hK : ∀ w', Kp none_ w0 w' → BankAt w' b (bUp s) (fun x => w0.heap.size ≤ x) → K (.tuple #[]) w') :
    call Tryd.prog 32 #[.pointer (some ⟨b, 0, none⟩)] w K :=
  bankUp_ok h fun w' hk' hB => hK w' (hk.trans' hk' fun x hx => .inr (hx ▸ h.fb)) hB
theorem BankAt.upto {F : Nat → Prop} (h : BankAt w b s (fun x => w0.heap.size ≤ x)) (hF : F = fun x => w0.heap.size ≤ x ∧ x < w.heap.size) : BankAt w b s F := hF ▸ h.bound
theorem ptr61_eql {p : Option Addr} {ox oy : Operand} : bn Tryd.prog .eql 61 ox oy (.pointer p) (.pointer none) w K = K (.bool p.isNone) w := bn_ptr_nil (e := 107) (by kernel_rfl)
end

/-- alive: the chapter's example. -/
theorem alive16_ok {w : World} {E : Nat → Addr} {K : Value → World → Prop} (he : Errs w E LB) (hK : ∀ w', Kp none_ w w' → K (.bool true) w') : call Tryd.prog 25 #[] w K := by
  refine F25_ok ?_
  unfold F25
  refine bankNew_ok he (fun e h => by cases h) fun m n hm hn _ _ _ _ _ w1 b hk1 hB1 => ?_
  obtain rfl : m = 2 := by omega
  obtain rfl : n = 4 := by omega
  simp (disch := first | omega | (simp only [size_alloc, size_set, heap_dr] <;> omega) | assumption | exact oneC_slice | exact oneC_int | exact oneC_bool | exact oneC_ptr | exact oneC_iface | exact oneC_nil | exact oneC_str | exact oneC_map | exact oneC_func | rfl) only [pick_bool, gs_false, ext_0, ext_1, and_true, cond_false, shr_eq, nil_neq, ptr61_eql, Option.isNone_some]
  refine bankArm_new he hk1 hB1 fun w2 hk2 hB2 => ?_
  rw [bsl_h]
  have s2 := hk2.1
  have b3 : (w2.alloc (.cells (u8s [104]).toArray 5)).heap[w2.heap.size]? = some (.cells (u8s [104]).toArray 5 (0, 0)) := heap_alloc_eq rfl
  have k3 : Kp none_ w2 (w2.alloc (.cells (u8s [104]).toArray 5)) := Kp.refl.alloc _
  generalize w2.alloc (.cells (u8s [104]).toArray 5) = w3 at b3 k3 ⊢
  refine cnv_mark (e := 5) (by kernel_rfl) (by kernel_rfl) b3 fun w4 fr4 k4 b4 => ?_
  have k24 : Kp none_ w2 w4 := k3.trans' k4 fun x hx => .inr (by omega)
  have s4 := k24.1
  have hv4 := (lit_by (bs := [104]) b4 rfl (by decide)).mono (G := fun x => x < w.heap.size ∨ w2.heap.size ≤ x) fun x hx => .inr (by omega)
  simp (disch := first | omega | (simp only [size_alloc, size_set, heap_dr] <;> omega) | assumption | exact oneC_slice | exact oneC_int | exact oneC_bool | exact oneC_ptr | exact oneC_iface | exact oneC_nil | exact oneC_str | exact oneC_map | exact oneC_func | rfl) only [and_true, bld_33_0]
  refine bankWrite_new he (hk2.trans k24) s4 (hB2.bound.kn k24) hv4 Bo.nil.by fun w5 _ hk5 hB5 => ?_
  rw [bsl_h]
  have b6 : (w5.alloc (.cells (u8s [104]).toArray 5)).heap[w5.heap.size]? = some (.cells (u8s [104]).toArray 5 (0, 0)) := heap_alloc_eq rfl
  have k6 : Kp none_ w5 (w5.alloc (.cells (u8s [104]).toArray 5)) := Kp.refl.alloc _
  generalize w5.alloc (.cells (u8s [104]).toArray 5) = w6 at b6 k6 ⊢
  refine cnv_mark (e := 5) (by kernel_rfl) (by kernel_rfl) b6 fun w7 fr7 k7 b7 => ?_
  have k57 : Kp none_ w5 w7 := k6.trans' k7 fun x hx => .inr (by omega)
  have hv7 := (lit_by (bs := [104]) b7 rfl (by decide)).mono (G := fun x => x < w.heap.size ∨ w5.heap.size ≤ x) fun x hx => .inr (by omega)
  simp (disch := first | omega | (simp only [size_alloc, size_set, heap_dr] <;> omega) | assumption | exact oneC_slice | exact oneC_int | exact oneC_bool | exact oneC_ptr | exact oneC_iface | exact oneC_nil | exact oneC_str | exact oneC_map | exact oneC_func | rfl) only [and_true, bld_33_0]
  refine bankWrite_new he (hk5.trans k57) k57.1 (hB5.bound.kn k57) hv7 Bo.nil.by fun w8 _ hk8 hB8 => ?_
  have r1 : (bArm (bank0 2 4) 1).2 = none := rfl
  have r2 : (bWrite (bArm (bank0 2 4) 1).1 0 0 [104] []).2 = none := rfl
  have r3 : (bWrite (bWrite (bArm (bank0 2 4) 1).1 0 0 [104] []).1 1 0 [104] []).2 = some 4 := rfl
  have r4 : (bWrite (bWrite (bArm (bank0 2 4) 1).1 0 0 [104] []).1 1 0 [104] []).1.down = true := rfl
  have r5 : (bWrite (bWrite (bArm (bank0 2 4) 1).1 0 0 [104] []).1 1 0 [104] []).1.writes = 1 := rfl
  have hE8 := he.kpNew hk8
  have e4 := hE8.at_ 4 (by decide)
  unfold ErrAt at e4
  rw [r1, r2, r3]
  simp (disch := first | omega | (simp only [size_alloc, size_set, heap_dr] <;> omega) | assumption | exact oneC_slice | exact oneC_int | exact oneC_bool | exact oneC_ptr | exact oneC_iface | exact oneC_nil | exact oneC_str | exact oneC_map | exact oneC_func | rfl) only [pick_bool, gs_true, oK_some, cell_eq, and_true, cond_true, eq_self, shr_eq, ld_26, err_eql_nil, Option.isNone_none, e4, err_eql (a := some 4) (g := 4) hE8 (by simp [LB]) (by decide), decide_true]
  refine bankDown_ok hB8 ?_
  rw [r4]
  simp (disch := first | omega | (simp only [size_alloc, size_set, heap_dr] <;> omega) | assumption | exact oneC_slice | exact oneC_int | exact oneC_bool | exact oneC_ptr | exact oneC_iface | exact oneC_nil | exact oneC_str | exact oneC_map | exact oneC_func | rfl) only [pick_bool, gs_true, and_true, cond_true, shr_eq]
  refine bankWrites_ok hB8 ?_
  rw [r5]
  simp (disch := first | omega | (simp only [size_alloc, size_set, heap_dr] <;> omega) | assumption | exact oneC_slice | exact oneC_int | exact oneC_bool | exact oneC_ptr | exact oneC_iface | exact oneC_nil | exact oneC_str | exact oneC_map | exact oneC_func | rfl) only [pick_bool, bn_eql, and_true, cond_true, eq_self, decide_true]
  exact hK _ hk8
end Go.Proofs.YtfiakplgifimkaaDoor
