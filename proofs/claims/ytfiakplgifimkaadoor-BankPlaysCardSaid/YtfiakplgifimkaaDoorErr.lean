/- The errors of package api as values, '==' on them; and the chapter's example of layer 15. No statement of the seat is proved in this text. -/
import Derived.Test.YtfiakplgifimkaaDoorDisk2
import Derived.Test.YtfiakplgifimkaaDoorTsLaws
namespace Go.Proofs.YtfiakplgifimkaaDoor
open Go.TS
set_option maxRecDepth 20000

/-- The errors of the list stand, each behind a pointer of its own. -/
structure Errs (w : World) (E : Nat → Addr) (L : List Nat) : Prop where
  at_ : ∀ g ∈ L, ErrAt w E g
  blk : ∀ g ∈ L, ∃ cs t, w.heap[(E g).block]? = some (.cells cs t (0, 0))
  inj : ∀ g ∈ L, ∀ g' ∈ L, E g = E g' → g = g'
theorem Errs.kp {w w' : World} {E : Nat → Addr} {L : List Nat} {S : Nat → Prop} (h : Errs w E L) (hk : Kp S w w') (hs : ∀ g ∈ L, ¬ S g ∧ ¬ S (E g).block) : Errs w' E L :=
  ⟨fun g hg => (h.at_ g hg).kp hk (hs g hg).1, fun g hg => let ⟨cs, t, hc⟩ := h.blk g hg; ⟨cs, t, hk.blk hc (hs g hg).2⟩, h.inj⟩
theorem Errs.lt {w : World} {E : Nat → Addr} {L : List Nat} (h : Errs w E L) {g : Nat} (hg : g ∈ L) : g < w.heap.size ∧ (E g).block < w.heap.size := ⟨(h.at_ g hg).lt, let ⟨_, _, hc⟩ := h.blk g hg; blk_lt hc⟩
theorem Errs.sub {w : World} {E : Nat → Addr} {L L' : List Nat} (h : Errs w E L) (hs : ∀ g ∈ L', g ∈ L) : Errs w E L' := ⟨fun g hg => h.at_ g (hs g hg), fun g hg => h.blk g (hs g hg), fun g hg g' hg' e => h.inj g (hs g hg) g' (hs g' hg') e⟩
/-- What is written is new since. -/
theorem Errs.kpNew {w0 w' : World} {E : Nat → Addr} {L : List Nat} (h : Errs w0 E L) (hk : Kp none_ w0 w') : Errs w' E L := h.kp hk fun _ _ => ⟨fun h => h, fun h => h⟩

section
variable {w : World} {K : Value → World → Prop} {ox oy : Operand} {E : Nat → Addr} {L : List Nat} {a : Option Nat} {z : Value}
theorem nil_eql : bn Tryd.prog .eql 26 ox (.const z) .nilIface .nilIface w K = K (.bool true) w := eql_nil_nil Tryd.underlying26
theorem nil_neq : bn Tryd.prog .neq 26 ox (.const z) .nilIface .nilIface w K = K (.bool false) w := neq_nil_nil Tryd.underlying26
theorem err_eql_nil : bn Tryd.prog .eql 26 ox (.const z) (er E a) .nilIface w K = K (.bool a.isNone) w := by cases a; exact nil_eql; exact eql_held_nil Tryd.underlying26
theorem err_neq_nil : bn Tryd.prog .neq 26 ox (.const z) (er E a) .nilIface w K = K (.bool (!a.isNone)) w := by cases a; exact nil_neq; exact neq_held_nil Tryd.underlying26
theorem err_eql {g : Nat} (h : Errs w E L) (ha : ∀ g', a = some g' → g' ∈ L) (hg : g ∈ L) : bn Tryd.prog .eql 26 ox oy (er E a) (er E (some g)) w K = K (.bool (decide (a = some g))) w := by
  cases a with
  | none => exact eql_nil_held Tryd.underlying26
  | some g' =>
    obtain ⟨ca, ta, hca⟩ := h.blk g' (ha g' rfl)
    obtain ⟨cb, tb, hcb⟩ := h.blk g hg
    refine (eql_iface_ptr (te := 130) (sz := 0) Tryd.underlying26 (by kernel_rfl) (by kernel_rfl) (by kernel_rfl) hca hcb).trans ?_
    have : decide (E g' = E g) = decide (some g' = some g) := decide_eq_decide.2 ⟨fun e => by rw [h.inj g' (ha g' rfl) g hg e], fun e => by cases e; rfl⟩
    rw [this]
theorem err_neq {g : Nat} (h : Errs w E L) (ha : ∀ g', a = some g' → g' ∈ L) (hg : g ∈ L) : bn Tryd.prog .neq 26 ox oy (er E a) (er E (some g)) w K = K (.bool (!decide (a = some g))) w := by
  cases a with
  | none => exact neq_nil_held Tryd.underlying26
  | some g' =>
    obtain ⟨ca, ta, hca⟩ := h.blk g' (ha g' rfl)
    obtain ⟨cb, tb, hcb⟩ := h.blk g hg
    refine (neq_iface_ptr (te := 130) (sz := 0) Tryd.underlying26 (by kernel_rfl) (by kernel_rfl) (by kernel_rfl) hca hcb).trans ?_
    have : decide (E g' = E g) = decide (some g' = some g) := decide_eq_decide.2 ⟨fun e => by rw [h.inj g' (ha g' rfl) g hg e], fun e => by cases e; rfl⟩
    rw [this]
theorem ptr_eql {p : Option Addr} : bn Tryd.prog .eql 24 ox oy (.pointer p) (.pointer none) w K = K (.bool p.isNone) w := bn_ptr_nil (e := 48) (by kernel_rfl)
theorem ptr30_eql {p : Option Addr} : bn Tryd.prog .eql 30 ox oy (.pointer p) (.pointer none) w K = K (.bool p.isNone) w := bn_ptr_nil (e := 33) (by kernel_rfl)
theorem str_of {v : Value} {bs : List UInt8} {F : Nat → Prop} (h : By w v bs F) : cnv Tryd.prog 31 9 v w K = K (.string ⟨bs.toArray⟩) w := cnv_bytes (e := 5) (by kernel_rfl) (by kernel_rfl) (by kernel_rfl) h.1
end

/-- Legal. -/
theorem legal_ok {w : World} {s : Int} {K : Value → World → Prop} (hK : K (.bool (decide (4 ≤ s ∧ s ≤ 256))) w) : call Tryd.prog 12 #[.int .i64 s] w K := by
  refine F12_ok ?_
  unfold F12
  by_cases h1 : 4 ≤ s
  · by_cases h2 : s ≤ 256
    · simp (disch := first | omega | (simp only [size_alloc, size_set, heap_dr] <;> omega) | assumption | exact oneC_slice | exact oneC_int | exact oneC_bool | exact oneC_ptr | exact oneC_iface | exact oneC_nil | exact oneC_str | exact oneC_map | exact oneC_func | rfl) only [pick_bool, gs_dec_pos, bn_leq, bn_geq, and_true, cond_true, shr_eq]
      simpa [h1, h2] using hK
    · simp (disch := first | omega | (simp only [size_alloc, size_set, heap_dr] <;> omega) | assumption | exact oneC_slice | exact oneC_int | exact oneC_bool | exact oneC_ptr | exact oneC_iface | exact oneC_nil | exact oneC_str | exact oneC_map | exact oneC_func | rfl) only [pick_bool, gs_dec_pos, bn_leq, bn_geq, and_true, cond_true, shr_eq]
      simpa [h1, h2] using hK
  · simp (disch := first | omega | (simp only [size_alloc, size_set, heap_dr] <;> omega) | assumption | exact oneC_slice | exact oneC_int | exact oneC_bool | exact oneC_ptr | exact oneC_iface | exact oneC_nil | exact oneC_str | exact oneC_map | exact oneC_func | rfl) only [pick_bool, gs_dec_neg, bn_geq, and_true, cond_false, shr_eq]
    simpa [h1] using hK

/-- Literal bytes, marked. -/
theorem lit_by {w : World} {b n : Nat} {bs : List UInt8} {fr : Nat × Nat} (h : w.heap[b]? = some (.cells (u8s bs).toArray 5 fr)) (hn : bs.length = n) (hs : n ≤ 65536) : By w (.slice (some ⟨b, 0, none⟩) n n) bs (fun x => x = b) := by
  subst hn
  refine ⟨⟨_, _, rfl, Nat.le_refl _, by simp [u8s], u8s_one, .inr ⟨b, 0, _, _, fr, rfl, rfl, h, fun j hj => by simp⟩⟩, by unfold MAXB; omega⟩

theorem u8h : u8s [104] = [.int .u8 104] := by simp [u8s]
theorem u8b : u8s [98, 111, 100, 121] = [.int .u8 98, .int .u8 111, .int .u8 100, .int .u8 121] := by simp [u8s]
section
variable {w : World} {K : Value → World → Prop}
theorem u31 : Tryd.prog.underlying 31 = some (.slice 5) := by kernel_rfl
theorem sz5 : szB Tryd.prog 5 = some 1 := by kernel_rfl
theorem ze5 : zeroB Tryd.prog 5 = some (.int .u8 0) := by kernel_rfl
theorem bsl_h : bsl Tryd.prog 31 1 [(0, (Value.int IntKind.u8 104))] w K = K (.slice (some ⟨w.heap.size, 0, none⟩) 1 1) (w.alloc (.cells (u8s [104]).toArray 5)) := by
  rw [u8h]
  have := bsl_vals (w := w) (K := K) (P := Tryd.prog) (e := 5) (n := 1) (vs := [.int .u8 104]) (z := .int .u8 0) u31 sz5 ze5 rfl (by simp) (by omega) (by omega) (by simp [oneC])
  simp only [List.zipIdx_cons, List.zipIdx_nil, List.map_cons, List.map_nil, Nat.zero_add] at this
  exact this
theorem bsl_b : bsl Tryd.prog 31 4 [(0, (Value.int IntKind.u8 98)), (1, (Value.int IntKind.u8 111)), (2, (Value.int IntKind.u8 100)), (3, (Value.int IntKind.u8 121))] w K = K (.slice (some ⟨w.heap.size, 0, none⟩) 4 4) (w.alloc (.cells (u8s [98, 111, 100, 121]).toArray 5)) := by
  rw [u8b]
  have := bsl_vals (w := w) (K := K) (P := Tryd.prog) (e := 5) (n := 4) (vs := [.int .u8 98, .int .u8 111, .int .u8 100, .int .u8 121]) (z := .int .u8 0) u31 sz5 ze5 rfl (by simp) (by omega) (by omega) (by simp [oneC])
  simp only [List.zipIdx_cons, List.zipIdx_nil, List.map_cons, List.map_nil, Nat.zero_add, Nat.reduceAdd] at this
  exact this
end

/-- alive: the chapter's example. -/
theorem alive15_ok {w : World} {E : Nat → Addr} {K : Value → World → Prop} (he : Errs w E [0, 1, 2]) (hK : ∀ w', Kp none_ w w' → K (.bool true) w') : call Tryd.prog 10 #[] w K := by
  refine F10_ok ?_
  unfold F10
  refine new_ok (he.at_ 2 (by simp)) (fun n hn h4 _ w1 d a hk1 hD1 => ?_) (fun h => by omega)
  obtain rfl : n = 4 := by omega
  simp (disch := first | omega | (simp only [size_alloc, size_set, heap_dr] <;> omega) | assumption | exact oneC_slice | exact oneC_int | exact oneC_bool | exact oneC_ptr | exact oneC_iface | exact oneC_nil | exact oneC_str | exact oneC_map | exact oneC_func | rfl) only [pick_bool, gs_false, ext_0, ext_1, and_true, cond_false, shr_eq, nil_neq, ptr_eql, Option.isNone_some]
  rw [bsl_h]
  have b1 : (w1.alloc (.cells (u8s [104]).toArray 5)).heap[w1.heap.size]? = some (.cells (u8s [104]).toArray 5 (0, 0)) := heap_alloc_eq rfl
  have k1 : Kp none_ w1 (w1.alloc (.cells (u8s [104]).toArray 5)) := Kp.refl.alloc _
  generalize w1.alloc (.cells (u8s [104]).toArray 5) = w2 at b1 k1 ⊢
  refine cnv_mark (e := 5) (by kernel_rfl) (by kernel_rfl) b1 fun w3 fr3 k3 b3 => ?_
  rw [bsl_b]
  have b4 : (w3.alloc (.cells (u8s [98, 111, 100, 121]).toArray 5)).heap[w3.heap.size]? = some (.cells (u8s [98, 111, 100, 121]).toArray 5 (0, 0)) := heap_alloc_eq rfl
  have k4 : Kp none_ w3 (w3.alloc (.cells (u8s [98, 111, 100, 121]).toArray 5)) := Kp.refl.alloc _
  generalize w3.alloc (.cells (u8s [98, 111, 100, 121]).toArray 5) = w4 at b4 k4 ⊢
  refine cnv_mark (e := 5) (by kernel_rfl) (by kernel_rfl) b4 fun w5 fr5 k5 b5 => ?_
  have s1 := hk1.1
  have s2 := k1.1
  have s3 := k3.1
  have s4 := k4.1
  have s5 := k5.1
  have b3' := k5.blk (k4.blk b3 (fun h => h)) (by have := blk_lt b3; omega)
  have kk : Kp none_ w1 w5 := ((k1.trans' k3 fun x hx => .inr (by omega)).trans k4).trans' k5 fun x hx => .inr (by omega)
  have kw := hk1.trans kk
  simp (disch := first | omega | (simp only [size_alloc, size_set, heap_dr] <;> omega) | assumption | exact oneC_slice | exact oneC_int | exact oneC_bool | exact oneC_ptr | exact oneC_iface | exact oneC_nil | exact oneC_str | exact oneC_map | exact oneC_func | rfl) only [and_true, bld_33_0_1]
  refine write_ok (G := fun _ => True) ((hD1.bound).kp kk fun _ _ h => h) ((he.kpNew kw).at_ 2 (by simp)) ((lit_by b3' rfl (by decide)).mono fun _ _ => trivial) ((lit_by b5 rfl (by decide)).mono fun _ _ => trivial) fun w6 k6 hD6 => ?_
  have had : w.heap.size ≤ a := hD1.fa
  have kw6 : Kp none_ w w6 := kw.trans' k6 fun x hx => .inr (by omega)
  have hin : inr (empties 4) 1 = true := by simp [inr, empties]
  rw [hin] at hD6 ⊢
  simp only [if_true] at hD6 ⊢
  have hE := he.kpNew kw6
  refine body_ok hD6 (hE.at_ 0 (by simp)) (hE.at_ 1 (by simp)) (hE.at_ 2 (by simp)) fun v w7 k7 hD7 hv => ?_
  have h1 : asks ((empties 4).set (Int.toNat 1) ⟨[104], [98, 111, 100, 121], true, false⟩) 1 = none := rfl
  have h2 : getc Cel.body ((empties 4).set (Int.toNat 1) ⟨[104], [98, 111, 100, 121], true, false⟩) 1 = [98, 111, 100, 121] := by simp [getc, empties, asks, emptyC]
  rw [h1]
  rw [h2] at hv hD7
  simp (disch := first | omega | (simp only [size_alloc, size_set, heap_dr] <;> omega) | assumption | exact oneC_slice | exact oneC_int | exact oneC_bool | exact oneC_ptr | exact oneC_iface | exact oneC_nil | exact oneC_str | exact oneC_map | exact oneC_func | rfl) only [pick_bool, gs_true, ext_0, ext_1, and_true, cond_true, shr_eq, err_eql_nil, Option.isNone_none]
  rw [str_of hv.by]
  simp (disch := first | omega | (simp only [size_alloc, size_set, heap_dr] <;> omega) | assumption | exact oneC_slice | exact oneC_int | exact oneC_bool | exact oneC_ptr | exact oneC_iface | exact oneC_nil | exact oneC_str | exact oneC_map | exact oneC_func | rfl) only [ck_ptr, pick_bool, gs_true, and_true, cond_true, eq_self, shr_eq, fa_48_0, bn_str_eql, decide_true]
  refine meter_ok hD7 ?_
  have h3 : IntKind.i64.wrap (0 + (([98, 111, 100, 121] : List UInt8).length : Int)) = 4 := by kernel_rfl
  rw [h3]
  simp (disch := first | omega | (simp only [size_alloc, size_set, heap_dr] <;> omega) | assumption | exact oneC_slice | exact oneC_int | exact oneC_bool | exact oneC_ptr | exact oneC_iface | exact oneC_nil | exact oneC_str | exact oneC_map | exact oneC_func | rfl) only [pick_bool, bn_eql, and_true, cond_true, eq_self, decide_true]
  exact hK _ (kw6.trans' k7 fun x hx => .inr (by have := hD1.fd; omega))
end Go.Proofs.YtfiakplgifimkaaDoor
