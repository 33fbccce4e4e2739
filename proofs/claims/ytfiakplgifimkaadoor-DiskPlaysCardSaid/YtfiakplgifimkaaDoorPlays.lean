/- DiskPlays over memory. No statement of the seat is proved in this text. -/
import Derived.Test.YtfiakplgifimkaaDoorPlay2
namespace Go.Proofs.YtfiakplgifimkaaDoor
open Go.TS
set_option maxRecDepth 20000

/-- Two drives beside the document's two; Z: blocks that no call turns. -/
structure Two (w0 w : World) (Z : Nat → Prop) (d0 m0 n0 d1 m1 n1 : Nat) : Prop where
  kp : Kp none_ w0 w
  zlt : ∀ b, Z b → b < w.heap.size
  ex : ∃ a0 r0 c0 A0 B0 a1 r1 c1 A1 B1, DriveAt w d0 a0 r0 c0 A0 ∧ RefAt w m0 r0 c0 B0 ∧ c0.length = n0 ∧ DriveAt w d1 a1 r1 c1 A1 ∧ RefAt w m1 r1 c1 B1 ∧ c1.length = n1 ∧
    (∀ b, (A0 b ∨ B0 b) ∨ (A1 b ∨ B1 b) → w0.heap.size ≤ b ∧ ¬ Z b) ∧ (∀ b, A0 b → ¬ B0 b) ∧ (∀ b, A1 b → ¬ B1 b) ∧ (∀ b, A0 b ∨ B0 b → ¬ (A1 b ∨ B1 b))
theorem Two.swap {w0 w : World} {Z : Nat → Prop} {d0 m0 n0 d1 m1 n1 : Nat} (h : Two w0 w Z d0 m0 n0 d1 m1 n1) : Two w0 w Z d1 m1 n1 d0 m0 n0 := by
  obtain ⟨a0, r0, c0, A0, B0, a1, r1, c1, A1, B1, h1, h2, h3, h4, h5, h6, h7, h8, h9, h10⟩ := h.ex
  exact ⟨h.kp, h.zlt, a1, r1, c1, A1, B1, a0, r0, c0, A0, B0, h4, h5, h6, h1, h2, h3, fun b hb => h7 b hb.symm, h9, h8, fun b hb hb' => h10 b hb' hb⟩
theorem Two.kn {w0 w w' : World} {Z : Nat → Prop} {d0 m0 n0 d1 m1 n1 : Nat} (h : Two w0 w Z d0 m0 n0 d1 m1 n1) (hk : Kp none_ w w') : Two w0 w' Z d0 m0 n0 d1 m1 n1 := by
  obtain ⟨a0, r0, c0, A0, B0, a1, r1, c1, A1, B1, h1, h2, h3, h4, h5, h6, h7, h8, h9, h10⟩ := h.ex
  exact ⟨h.kp.trans hk, fun b hb => Nat.lt_of_lt_of_le (h.zlt b hb) hk.1, a0, r0, c0, A0, B0, a1, r1, c1, A1, B1, h1.kn hk, h2.kn hk, h3, h4.kn hk, h5.kn hk, h6, h7, h8, h9, h10⟩
theorem Two.zadd {w0 w w' : World} {Z : Nat → Prop} {d0 m0 n0 d1 m1 n1 bl : Nat} (h : Two w0 w Z d0 m0 n0 d1 m1 n1) (hk : Kp none_ w w') (h1 : w.heap.size ≤ bl) (h2 : bl < w'.heap.size) : Two w0 w' (fun b => Z b ∨ b = bl) d0 m0 n0 d1 m1 n1 := by
  obtain ⟨a0, r0, c0, A0, B0, a1, r1, c1, A1, B1, q1, q2, q3, q4, q5, q6, h7, h8, h9, h10⟩ := h.ex
  refine ⟨h.kp.trans hk, fun b hb => hb.elim (fun hb => Nat.lt_of_lt_of_le (h.zlt b hb) hk.1) (fun hb => hb ▸ h2), a0, r0, c0, _, _, a1, r1, c1, _, _, q1.bound.kn hk, q2.bound.kn hk, q3, q4.bound.kn hk, q5.bound.kn hk, q6, fun b hb => ?_, fun b x y => h8 b x.1 y.1, fun b x y => h9 b x.1 y.1, fun b x y => h10 b (x.imp And.left And.left) (y.imp And.left And.left)⟩
  have hb1 : ((A0 b ∨ B0 b) ∨ (A1 b ∨ B1 b)) ∧ b < w.heap.size := by
    rcases hb with (h | h) | (h | h)
    · exact ⟨.inl (.inl h.1), h.2⟩
    · exact ⟨.inl (.inr h.1), h.2⟩
    · exact ⟨.inr (.inl h.1), h.2⟩
    · exact ⟨.inr (.inr h.1), h.2⟩
  have := h7 b hb1.1
  exact ⟨this.1, fun hz => hz.elim this.2 (fun e => by omega)⟩
theorem Two.zsub {w0 w : World} {Z Y : Nat → Prop} {d0 m0 n0 d1 m1 n1 : Nat} (h : Two w0 w Z d0 m0 n0 d1 m1 n1) (hs : ∀ b, Y b → Z b) : Two w0 w Y d0 m0 n0 d1 m1 n1 := by
  obtain ⟨a0, r0, c0, A0, B0, a1, r1, c1, A1, B1, q1, q2, q3, q4, q5, q6, h7, h8, h9, h10⟩ := h.ex
  exact ⟨h.kp, fun b hb => h.zlt b (hs b hb), a0, r0, c0, A0, B0, a1, r1, c1, A1, B1, q1, q2, q3, q4, q5, q6, fun b hb => ⟨(h7 b hb).1, fun hy => (h7 b hb).2 (hs b hy)⟩, h8, h9, h10⟩
/-- One call on the first pair. -/
theorem Two.play {w0 w : World} {E : Nat → Addr} {Z G : Nat → Prop} {d0 m0 n0 d1 m1 n1 : Nat} {kd wh s : Int} {vh vb : Value} {hs bs : List UInt8} {K : Value → World → Prop} (h : Two w0 w Z d0 m0 n0 d1 m1 n1) (he : Errs w0 E L25) (hh : By w0 vh hs G) (hb : By w0 vb bs G)
    (hK : ∀ w', Two w0 w' Z d0 m0 n0 d1 m1 n1 → (∀ b, Z b → w'.heap[b]? = w.heap[b]?) → K (.bool true) w') :
    call Tryd.prog 24 #[.pointer (some ⟨d0, 0, none⟩), .pointer (some ⟨m0, 0, none⟩), .agg #[.int .i64 kd, .int .i64 wh, .int .i64 s, vh, vb]] w K := by
  obtain ⟨a0, r0, c0, A0, B0, a1, r1, c1, A1, B1, h1, h2, h3, h4, h5, h6, h7, h8, h9, h10⟩ := h.ex
  have h4b := h4.bound
  have h5b := h5.bound
  refine play15_ok h.kp he hh hb h1 h2 (fun b hb => (h7 b (.inl (.inl hb))).1) (fun b hb => (h7 b (.inl (.inr hb))).1) h8 fun w' a' rd' cl' A0' B0' k0 k1 hD hR ha hb h12 hl => ?_
  have hz : ∀ b, Z b → w'.heap[b]? = w.heap[b]? := fun b hb => k1.2 b (h.zlt b hb) fun hs => (h7 b (.inl hs)).2 hb
  refine hK w' ⟨k0, fun b hb => Nat.lt_of_lt_of_le (h.zlt b hb) k1.1, a', rd', cl', A0', B0', a1, r1, c1, _, _, hD, hR, hl.trans h3, h4b.kp k1 fun b hb hs => h10 b hs (.inl hb.1), h5b.kp k1 fun b hb hs => h10 b hs (.inr hb.1), h6, fun b hb => ?_, h12, fun b h1 h2 => h9 b h1.1 h2.1, fun b hb hb' => ?_⟩ hz
  · have k := h.kp.1
    rcases hb with (h | h) | (h | h)
    · rcases ha b h with h | h'
      · exact h7 b (.inl (.inl h))
      · exact ⟨by omega, fun hz => by have := Two.zlt ‹_› b hz; omega⟩
    · rcases hb b h with h | h'
      · exact h7 b (.inl (.inr h))
      · exact ⟨by omega, fun hz => by have := Two.zlt ‹_› b hz; omega⟩
    · exact h7 b (.inr (.inl h.1))
    · exact h7 b (.inr (.inr h.1))
  · have hlt : b < w.heap.size ∧ (A1 b ∨ B1 b) := by
      rcases hb' with h | h
      · exact ⟨h.2, .inl h.1⟩
      · exact ⟨h.2, .inr h.1⟩
    rcases hb with h | h
    · rcases ha b h with h | h
      · exact h10 b (.inl h) hlt.2
      · omega
    · rcases ‹∀ b, B0' b → _› b h with h | h
      · exact h10 b (.inr h) hlt.2
      · omega

theorem and1 (x : Int) : ∃ k : Nat, k < 2 ∧ IntKind.i64.wrap ((BitVec.ofInt IntKind.i64.bits x &&& BitVec.ofInt IntKind.i64.bits 1).toNat : Int) = (k : Int) := by
  refine ⟨(BitVec.ofInt 64 x).toNat % 2, by omega, ?_⟩
  have h : (BitVec.ofInt IntKind.i64.bits x &&& BitVec.ofInt IntKind.i64.bits 1).toNat = (BitVec.ofInt 64 x).toNat % 2 := by
    show (BitVec.ofInt 64 x &&& BitVec.ofInt 64 1).toNat = _
    rw [BitVec.toNat_and, show (BitVec.ofInt 64 1).toNat = 1 from by decide, Nat.and_one_is_mod]
  rw [h]
  exact wrap64 (by omega) (by omega)

/-- DiskPlays. -/
theorem plays15_ok {w : World} {E : Nat → Addr} {s0 s1 : Int} {v : Value} {ops : List OpD} {F : Nat → Prop} {K : Value → World → Prop} (he : Errs w E L25) (ho : Ops w v ops F) (hK : ∀ w', Kp none_ w w' → K (.bool true) w') :
    call Tryd.prog 6 #[.agg #[.int .i64 s0, .int .i64 s1], v] w K := by
  refine F6_ok fun X h0 h1 h2 h3 h4 => ?_
  unfold F6_s
  obtain ⟨av, cv, hv, hlen⟩ := ho.len
  subst hv
  have kA : Kp none_ w (w.alloc (.cells #[.int .i64 s0, .int .i64 s1] 54)) := Kp.refl.alloc _
  have bA : (w.alloc (.cells #[.int .i64 s0, .int .i64 s1] 54)).heap[w.heap.size]? = some (.cells #[.int .i64 s0, .int .i64 s1] 54 (0, 0)) := heap_alloc_eq rfl
  have zA : (w.alloc (.cells #[.int .i64 s0, .int .i64 s1] 54)).heap.size = w.heap.size + 1 := size_alloc
  simp (disch := first | omega | (simp only [size_alloc, size_set, heap_dr] <;> omega) | assumption | exact oneC_slice | exact oneC_int | exact oneC_bool | exact oneC_ptr | exact oneC_iface | exact oneC_nil | exact oneC_str | exact oneC_map | exact oneC_func | rfl) only [bx_agg, and_true]
  generalize w.alloc (.cells #[.int .i64 s0, .int .i64 s1] 54) = wA at kA bA zA ⊢
  refine alive15_ok ((he.kpNew kA).sub (by decide)) fun wB kB => ?_
  have kAB := kA.trans kB
  have bB := kB.blk bA (fun h => h)
  simp (disch := first | omega | (simp only [size_alloc, size_set, heap_dr] <;> omega) | assumption | exact oneC_slice | exact oneC_int | exact oneC_bool | exact oneC_ptr | exact oneC_iface | exact oneC_nil | exact oneC_str | exact oneC_map | exact oneC_func | rfl) only [gs_false, un_not, size_alloc, and_true, alc_55, alc_57, Bool.not_true]
  have sB := kB.1
  have kC : Kp none_ wB ((wB.alloc (.cells #[.pointer none, .pointer none] 55)).alloc (.cells #[.pointer none, .pointer none] 57)) := (Kp.refl.alloc _).alloc _
  have b5 : ((wB.alloc (.cells #[.pointer none, .pointer none] 55)).alloc (.cells #[.pointer none, .pointer none] 57)).heap[wB.heap.size]? = some (.cells #[.pointer none, .pointer none] 55 (0, 0)) := (heap_alloc_lt (by rw [size_alloc]; omega)).trans (heap_alloc_eq rfl)
  have b6 : ((wB.alloc (.cells #[.pointer none, .pointer none] 55)).alloc (.cells #[.pointer none, .pointer none] 57)).heap[wB.heap.size + 1]? = some (.cells #[.pointer none, .pointer none] 57 (0, 0)) := heap_alloc_eq (by rw [size_alloc])
  have zC : ((wB.alloc (.cells #[.pointer none, .pointer none] 55)).alloc (.cells #[.pointer none, .pointer none] 57)).heap.size = wB.heap.size + 2 := by rw [size_alloc, size_alloc]
  have bC := kC.blk bB (fun h => h)
  generalize (wB.alloc (.cells #[.pointer none, .pointer none] 55)).alloc (.cells #[.pointer none, .pointer none] 57) = wC at kC b5 b6 zC bC ⊢
  have kAC := kAB.trans kC
  generalize hp6 : wB.heap.size + 1 = p6 at b6 ⊢
  generalize wB.heap.size = p5 at b5 zC sB hp6 ⊢
  let Z : Nat → Prop := fun b => b = w.heap.size ∨ b = p5 ∨ b = p6
  have nilBy : ∀ W : World, By W (.slice none 0 0) [] (fun _ => False) := fun W => Bo.nil.by
  -- behind the script: every slot of one drive
  have perk : ∀ (k : Nat) (c2 c5 c6 : Array Value) (dk mk nk dj mj nj : Nat), k < 2 → nk ≤ 256 → c2[k]? = some (.int .i64 nk) → c5[k]? = some (.pointer (some ⟨dk, 0, none⟩)) → c6[k]? = some (.pointer (some ⟨mk, 0, none⟩)) →
      (∀ W, Two w W Z dk mk nk dj mj nj → W.heap[w.heap.size]? = some (.cells c2 54 (0, 0)) → W.heap[p5]? = some (.cells c5 55 (0, 0)) → W.heap[p6]? = some (.cells c6 57 (0, 0)) → X 2 [.pointer (some ⟨w.heap.size, 0, none⟩), .pointer (some ⟨p5, 0, none⟩), .pointer (some ⟨p6, 0, none⟩), .int .i64 ((k : Int) + 1)] W) →
      ∀ (m : Nat) (t : Int) (W : World), t + m = nk + 1 → -1 ≤ t → Two w W Z dk mk nk dj mj nj → W.heap[w.heap.size]? = some (.cells c2 54 (0, 0)) → W.heap[p5]? = some (.cells c5 55 (0, 0)) → W.heap[p6]? = some (.cells c6 57 (0, 0)) →
        X 3 [.pointer (some ⟨w.heap.size, 0, none⟩), .pointer (some ⟨p5, 0, none⟩), .pointer (some ⟨p6, 0, none⟩), .int .i64 k, .int .i64 t, .int .i64 k] W := by
    intro k c2 c5 c6 dk mk nk dj mj nj hk2 hnk g2 g5 g6 cont m
    induction m with
    | zero =>
      intro t W ht h1t hT q2 q5 q6
      have hgt : ¬ t ≤ nk := by omega
      refine h3 _ _ _ _ _ _ _ ?_
      unfold F6_3
      simp (disch := first | omega | (simp only [size_alloc, size_set, heap_dr] <;> omega) | assumption | exact oneC_slice | exact oneC_int | exact oneC_bool | exact oneC_ptr | exact oneC_iface | exact oneC_nil | exact oneC_str | exact oneC_map | exact oneC_func | rfl) only [gs_dec_neg, bn_leq, oK_some, cell_eq, cellOf_some, heap_dr, Nat.zero_add, Int.toNat_natCast, true_and, and_true, eq_self, ia_54, ld_3, ia_55, ia_57, ld_24, ld_56, bld_35_0, q2, q5, q6, g2, g5, g6]
      refine (hT.kn Kp.refl.dr).play he (nilBy w) (nilBy w) fun W' hT' hz => ?_
      simp (disch := first | omega | (simp only [size_alloc, size_set, heap_dr] <;> omega) | assumption | exact oneC_slice | exact oneC_int | exact oneC_bool | exact oneC_ptr | exact oneC_iface | exact oneC_nil | exact oneC_str | exact oneC_map | exact oneC_func | rfl) only [gs_false, un_not, bn_add, wrap64, true_and, and_true, eq_self, Bool.not_true]
      exact cont W' hT' ((hz _ (.inl rfl)).trans q2) ((hz _ (.inr (.inl rfl))).trans q5) ((hz _ (.inr (.inr rfl))).trans q6)
    | succ m ih =>
      intro t W ht h1t hT q2 q5 q6
      have hle : t ≤ nk := by omega
      refine h3 _ _ _ _ _ _ _ ?_
      unfold F6_3
      simp (disch := first | omega | (simp only [size_alloc, size_set, heap_dr] <;> omega) | assumption | exact oneC_slice | exact oneC_int | exact oneC_bool | exact oneC_ptr | exact oneC_iface | exact oneC_nil | exact oneC_str | exact oneC_map | exact oneC_func | rfl) only [gs_dec_pos, bn_leq, oK_some, cell_eq, cellOf_some, Nat.zero_add, Int.toNat_natCast, and_true, ia_54, ld_3, q2, g2]
      have hb : ∀ K' : Value → World → Prop, bsl Tryd.prog 50 3 ((([.int .i64 2, .int .i64 3, .int .i64 4] : List Value).zipIdx).map fun p => (p.2, p.1)) W K' = _ := fun K' =>
        bsl_vals (w := W) (P := Tryd.prog) (t := 50) (e := 3) (n := 3) (vs := [.int .i64 2, .int .i64 3, .int .i64 4]) (z := .int .i64 0) (K := K') (by kernel_rfl) (by kernel_rfl) (by kernel_rfl) rfl rfl (by omega) (by omega) (by simp [oneC])
      refine Eq.mpr (hb _) ?_
      have kl : Kp none_ W (W.alloc (.cells ([.int .i64 2, .int .i64 3, .int .i64 4] : List Value).toArray 3)) := Kp.refl.alloc _
      have bl : (W.alloc (.cells ([.int .i64 2, .int .i64 3, .int .i64 4] : List Value).toArray 3)).heap[W.heap.size]? = some (.cells #[.int .i64 2, .int .i64 3, .int .i64 4] 3 (0, 0)) := heap_alloc_eq rfl
      have hT1 := hT.zadd kl (Nat.le_refl _) (blk_lt bl)
      have q2' := kl.blk q2 (fun h => h)
      have q5' := kl.blk q5 (fun h => h)
      have q6' := kl.blk q6 (fun h => h)
      generalize W.alloc (.cells ([.int .i64 2, .int .i64 3, .int .i64 4] : List Value).toArray 3) = W1 at kl bl hT1 q2' q5' q6' ⊢
      generalize W.heap.size = lb at bl hT1 ⊢
      have inner : ∀ (mm q : Nat) (W2 : World), q + mm = 3 → Two w W2 (fun b => Z b ∨ b = lb) dk mk nk dj mj nj → W2.heap[w.heap.size]? = some (.cells c2 54 (0, 0)) → W2.heap[p5]? = some (.cells c5 55 (0, 0)) → W2.heap[p6]? = some (.cells c6 57 (0, 0)) → W2.heap[lb]? = some (.cells #[.int .i64 2, .int .i64 3, .int .i64 4] 3 (0, 0)) →
          X 4 [.pointer (some ⟨w.heap.size, 0, none⟩), .pointer (some ⟨p5, 0, none⟩), .pointer (some ⟨p6, 0, none⟩), .int .i64 k, .int .i64 t, .int .i64 k, .slice (some ⟨lb, 0, none⟩) 3 3, .int .i64 3, .int .i64 q] W2 := by
        intro mm
        induction mm with
        | zero =>
          intro q W2 hq hT2 r2 r5 r6 rl
          obtain rfl : q = 3 := by omega
          refine h4 _ _ _ _ _ _ _ _ _ _ ?_
          unfold F6_4
          simp (disch := first | omega | (simp only [size_alloc, size_set, heap_dr] <;> omega) | assumption | exact oneC_slice | exact oneC_int | exact oneC_bool | exact oneC_ptr | exact oneC_iface | exact oneC_nil | exact oneC_str | exact oneC_map | exact oneC_func | rfl) only [gs_dec_neg, bn_add, bn_lss, wrap64, and_true]
          exact ih (t + 1) W2 (by omega) (by omega) (hT2.zsub fun b hb => .inl hb) r2 r5 r6
        | succ mm ihq =>
          intro q W2 hq hT2 r2 r5 r6 rl
          have hq3 : q < 3 := by omega
          obtain ⟨kd, hkd⟩ : ∃ kd : Int, (#[.int .i64 2, .int .i64 3, .int .i64 4] : Array Value)[q]? = some (.int .i64 kd) := by
            match q, hq3 with
            | 0, _ => exact ⟨2, rfl⟩
            | 1, _ => exact ⟨3, rfl⟩
            | 2, _ => exact ⟨4, rfl⟩
          refine h4 _ _ _ _ _ _ _ _ _ _ ?_
          unfold F6_4
          simp (disch := first | omega | (simp only [size_alloc, size_set, heap_dr] <;> omega) | assumption | exact oneC_slice | exact oneC_int | exact oneC_bool | exact oneC_ptr | exact oneC_iface | exact oneC_nil | exact oneC_str | exact oneC_map | exact oneC_func | rfl) only [gs_dec_pos, bn_lss, oK_some, cell_eq, cellOf_some, heap_dr, Nat.zero_add, Int.toNat_natCast, true_and, and_true, eq_self, ld_3, ia_55, ia_57, ld_24, ld_56, ia_50, bld_35_0_2, rl, hkd, r5, r6, g5, g6]
          refine (hT2.kn Kp.refl.dr).play he (nilBy w) (nilBy w) fun W' hT' hz => ?_
          simp (disch := first | omega | (simp only [size_alloc, size_set, heap_dr] <;> omega) | assumption | exact oneC_slice | exact oneC_int | exact oneC_bool | exact oneC_ptr | exact oneC_iface | exact oneC_nil | exact oneC_str | exact oneC_map | exact oneC_func | rfl) only [gs_false, un_not, bn_add, wrap64, true_and, and_true, eq_self, Bool.not_true]
          exact ihq (q + 1) W' (by omega) hT' ((hz _ (.inl (.inl rfl))).trans r2) ((hz _ (.inl (.inr (.inl rfl)))).trans r5) ((hz _ (.inl (.inr (.inr rfl)))).trans r6) ((hz _ (.inr rfl)).trans rl)
      simp (disch := first | omega | (simp only [size_alloc, size_set, heap_dr] <;> omega) | assumption | exact oneC_slice | exact oneC_int | exact oneC_bool | exact oneC_ptr | exact oneC_iface | exact oneC_nil | exact oneC_str | exact oneC_map | exact oneC_func | rfl) only [and_true, len_50]
      exact inner 3 0 W1 (by omega) hT1 q2' q5' q6' bl
  have fin2 : ∀ (d0 m0 n0 d1 m1 n1 : Nat) (W : World), n0 ≤ 256 → n1 ≤ 256 → Two w W Z d0 m0 n0 d1 m1 n1 → W.heap[w.heap.size]? = some (.cells #[.int .i64 n0, .int .i64 n1] 54 (0, 0)) → W.heap[p5]? = some (.cells #[.pointer (some ⟨d0, 0, none⟩), .pointer (some ⟨d1, 0, none⟩)] 55 (0, 0)) → W.heap[p6]? = some (.cells #[.pointer (some ⟨m0, 0, none⟩), .pointer (some ⟨m1, 0, none⟩)] 57 (0, 0)) →
      X 2 [.pointer (some ⟨w.heap.size, 0, none⟩), .pointer (some ⟨p5, 0, none⟩), .pointer (some ⟨p6, 0, none⟩), .int .i64 0] W := by
    intro d0 m0 n0 d1 m1 n1 W hn0 hn1 hT q2 q5 q6
    refine h2 _ _ _ _ _ ?_
    unfold F6_2
    simp (disch := first | omega | (simp only [size_alloc, size_set, heap_dr] <;> omega) | assumption | exact oneC_slice | exact oneC_int | exact oneC_bool | exact oneC_ptr | exact oneC_iface | exact oneC_nil | exact oneC_str | exact oneC_map | exact oneC_func | rfl) only [gs_dec_pos, bn_lss, and_true]
    refine perk 0 _ _ _ d0 m0 n0 d1 m1 n1 (by omega) hn0 rfl rfl rfl (fun W1 hT1 r2 r5 r6 => ?_) (n0 + 2) (-1) W (by omega) (by omega) hT q2 q5 q6
    refine h2 _ _ _ _ _ ?_
    unfold F6_2
    simp (disch := first | omega | (simp only [size_alloc, size_set, heap_dr] <;> omega) | assumption | exact oneC_slice | exact oneC_int | exact oneC_bool | exact oneC_ptr | exact oneC_iface | exact oneC_nil | exact oneC_str | exact oneC_map | exact oneC_func | rfl) only [gs_dec_pos, bn_lss, and_true]
    refine perk 1 _ _ _ d1 m1 n1 d0 m0 n0 (by omega) hn1 rfl rfl rfl (fun W2 hT2 _ _ _ => ?_) (n1 + 2) (-1) W1 (by omega) (by omega) hT1.swap r2 r5 r6
    refine h2 _ _ _ _ _ ?_
    unfold F6_2
    simp (disch := first | omega | (simp only [size_alloc, size_set, heap_dr] <;> omega) | assumption | exact oneC_slice | exact oneC_int | exact oneC_bool | exact oneC_ptr | exact oneC_iface | exact oneC_nil | exact oneC_str | exact oneC_map | exact oneC_func | rfl) only [gs_dec_neg, bn_lss, and_true]
    exact hK _ hT2.kp
  have script : ∀ (d0 m0 n0 d1 m1 n1 : Nat), n0 ≤ 256 → n1 ≤ 256 → ∀ (m i : Nat) (W : World), i + m = ops.length → Two w W Z d0 m0 n0 d1 m1 n1 → W.heap[w.heap.size]? = some (.cells #[.int .i64 n0, .int .i64 n1] 54 (0, 0)) → W.heap[p5]? = some (.cells #[.pointer (some ⟨d0, 0, none⟩), .pointer (some ⟨d1, 0, none⟩)] 55 (0, 0)) → W.heap[p6]? = some (.cells #[.pointer (some ⟨m0, 0, none⟩), .pointer (some ⟨m1, 0, none⟩)] 57 (0, 0)) →
      X 1 [.pointer (some ⟨w.heap.size, 0, none⟩), .pointer (some ⟨p5, 0, none⟩), .pointer (some ⟨p6, 0, none⟩), .slice av ops.length cv, .int .i64 ops.length, .int .i64 i] W := by
    intro d0 m0 n0 d1 m1 n1 hn0 hn1 m
    induction m with
    | zero =>
      intro i W hi hT q2 q5 q6
      obtain rfl : i = ops.length := by omega
      refine h1 _ _ _ _ _ _ _ ?_
      unfold F6_1
      simp (disch := first | omega | (simp only [size_alloc, size_set, heap_dr] <;> omega) | assumption | exact oneC_slice | exact oneC_int | exact oneC_bool | exact oneC_ptr | exact oneC_iface | exact oneC_nil | exact oneC_str | exact oneC_map | exact oneC_func | rfl) only [gs_dec_neg, bn_lss, and_true]
      exact fin2 d0 m0 n0 d1 m1 n1 W hn0 hn1 hT q2 q5 q6
    | succ m ih =>
      intro i W hi hT q2 q5 q6
      have hil : i < ops.length := by omega
      obtain ⟨b, o, kc, cs, e, fr, vh, vb, hv, hbl, hb, c0, c1, c2, c3, c4, hh, hbd⟩ := ho.at_ hil
      cases hv
      have hbW := hT.kp.blk hb (fun h => h)
      have hbWl := blk_lt hbW
      have l5 := blk_lt q5
      have l6 := blk_lt q6
      have e1 := hh.one
      have e2 := hbd.one
      obtain ⟨k, hk2, hke⟩ := and1 ops[i].which
      have ka : Kp none_ W (dr (W.alloc (.cells #[.int .i64 ops[i].kind, .int .i64 ops[i].which, .int .i64 ops[i].slot, vh, vb] 35))) := (Kp.refl.alloc _).dr
      have hTa := hT.kn ka
      refine h1 _ _ _ _ _ _ _ ?_
      unfold F6_1
      have hk01 : k = 0 ∨ k = 1 := by omega
      rcases hk01 with rfl | rfl
      · have g5 : (#[.pointer (some ⟨d0, 0, none⟩), .pointer (some ⟨d1, 0, none⟩)] : Array Value)[0]? = some (.pointer (some ⟨d0, 0, none⟩)) := rfl
        have g6 : (#[.pointer (some ⟨m0, 0, none⟩), .pointer (some ⟨m1, 0, none⟩)] : Array Value)[0]? = some (.pointer (some ⟨m0, 0, none⟩)) := rfl
        simp (disch := first | omega | (simp only [size_alloc, size_set, heap_dr] <;> omega) | assumption | exact oneC_slice | exact oneC_int | exact oneC_bool | exact oneC_ptr | exact oneC_iface | exact oneC_nil | exact oneC_str | exact oneC_map | exact oneC_func | rfl) only [gs_dec_pos, bn_lss, oK_some, cell_eq, cellOf_some, heap_alloc_lt, heap_alloc_eq, heap_dr, List.getElem?_toArray, List.getElem?_cons_zero, List.getElem?_cons_succ, Nat.zero_add, Nat.add_zero, Int.toNat_natCast, true_and, and_true, eq_self, ld_3, ia_55, ia_57, ia_22, ld_35, ↓alst_35, fa_35_1, ld_24, ld_56, bn_and, hbW, c0, c1, c2, c3, c4, hke, q5, q6, g5, g6]
        refine hTa.play he hh hbd fun W' hT' hz => ?_
        simp (disch := first | omega | (simp only [size_alloc, size_set, heap_dr] <;> omega) | assumption | exact oneC_slice | exact oneC_int | exact oneC_bool | exact oneC_ptr | exact oneC_iface | exact oneC_nil | exact oneC_str | exact oneC_map | exact oneC_func | rfl) only [gs_false, un_not, bn_add, wrap64, true_and, and_true, eq_self, Bool.not_true]
        have hzz : ∀ b, Z b → W'.heap[b]? = W.heap[b]? := fun b hb => (hz b hb).trans (ka.2 b (hT.zlt b hb) fun h => h)
        exact ih (i + 1) W' (by omega) hT' ((hzz _ (.inl rfl)).trans q2) ((hzz _ (.inr (.inl rfl))).trans q5) ((hzz _ (.inr (.inr rfl))).trans q6)
      · have g5 : (#[.pointer (some ⟨d0, 0, none⟩), .pointer (some ⟨d1, 0, none⟩)] : Array Value)[1]? = some (.pointer (some ⟨d1, 0, none⟩)) := rfl
        have g6 : (#[.pointer (some ⟨m0, 0, none⟩), .pointer (some ⟨m1, 0, none⟩)] : Array Value)[1]? = some (.pointer (some ⟨m1, 0, none⟩)) := rfl
        simp (disch := first | omega | (simp only [size_alloc, size_set, heap_dr] <;> omega) | assumption | exact oneC_slice | exact oneC_int | exact oneC_bool | exact oneC_ptr | exact oneC_iface | exact oneC_nil | exact oneC_str | exact oneC_map | exact oneC_func | rfl) only [gs_dec_pos, bn_lss, oK_some, cell_eq, cellOf_some, heap_alloc_lt, heap_alloc_eq, heap_dr, List.getElem?_toArray, List.getElem?_cons_zero, List.getElem?_cons_succ, Nat.zero_add, Int.toNat_natCast, true_and, and_true, eq_self, ld_3, ia_55, ia_57, ia_22, ld_35, ↓alst_35, fa_35_1, ld_24, ld_56, bn_and, hbW, c0, c1, c2, c3, c4, hke, q5, q6, g5, g6]
        refine hTa.swap.play he hh hbd fun W' hT' hz => ?_
        simp (disch := first | omega | (simp only [size_alloc, size_set, heap_dr] <;> omega) | assumption | exact oneC_slice | exact oneC_int | exact oneC_bool | exact oneC_ptr | exact oneC_iface | exact oneC_nil | exact oneC_str | exact oneC_map | exact oneC_func | rfl) only [gs_false, un_not, bn_add, wrap64, true_and, and_true, eq_self, Bool.not_true]
        have hzz : ∀ b, Z b → W'.heap[b]? = W.heap[b]? := fun b hb => (hz b hb).trans (ka.2 b (hT.zlt b hb) fun h => h)
        exact ih (i + 1) W' (by omega) hT'.swap ((hzz _ (.inl rfl)).trans q2) ((hzz _ (.inr (.inl rfl))).trans q5) ((hzz _ (.inr (.inr rfl))).trans q6)
  -- a drive and the document's drive made
  have newk : ∀ (k : Nat) (s : Int) (c2 c5 c6 : Array Value) (x y : Value) (W : World), k < 2 → Kp none_ w W → W.heap[w.heap.size]? = some (.cells c2 54 (0, 0)) → W.heap[p5]? = some (.cells c5 55 (0, 0)) → W.heap[p6]? = some (.cells c6 57 (0, 0)) → c2[k]? = some (.int .i64 s) → c5[k]? = some x → c6[k]? = some y →
      (∀ (n d m a : Nat) (W' : World) (A B : Nat → Prop), s = n → n ≤ 256 → Kp (fun b => b = p5 ∨ b = p6) W W' → DriveAt W' d a 0 (empties n) A → RefAt W' m 0 (empties n) B → (∀ b, A b → W.heap.size ≤ b) → (∀ b, B b → W.heap.size ≤ b) → (∀ b, A b → ¬ B b) → W'.heap[p5]? = some (.cells (c5.setIfInBounds k (.pointer (some ⟨d, 0, none⟩))) 55 (0, 0)) → W'.heap[p6]? = some (.cells (c6.setIfInBounds k (.pointer (some ⟨m, 0, none⟩))) 57 (0, 0)) →
        X 0 [.slice av ops.length cv, .pointer (some ⟨w.heap.size, 0, none⟩), .pointer (some ⟨p5, 0, none⟩), .pointer (some ⟨p6, 0, none⟩), .int .i64 ((k : Int) + 1)] W') →
      X 0 [.slice av ops.length cv, .pointer (some ⟨w.heap.size, 0, none⟩), .pointer (some ⟨p5, 0, none⟩), .pointer (some ⟨p6, 0, none⟩), .int .i64 k] W := by
    intro k s c2 c5 c6 x y W hk2 hkW q2 q5 q6 g2 g5 g6 cont
    have hE := he.kpNew hkW
    have l5 := blk_lt q5
    have l6 := blk_lt q6
    have n56 := blk_ne q5 q6 (by omega)
    refine h0 _ _ _ _ _ _ ?_
    unfold F6_0
    simp (disch := first | omega | (simp only [size_alloc, size_set, heap_dr] <;> omega) | assumption | exact oneC_slice | exact oneC_int | exact oneC_bool | exact oneC_ptr | exact oneC_iface | exact oneC_nil | exact oneC_str | exact oneC_map | exact oneC_func | rfl) only [gs_dec_pos, bn_lss, oK_some, cell_eq, cellOf_some, Nat.zero_add, Int.toNat_natCast, and_true, ia_54, ld_3, q2, g2]
    refine new_ok (hE.at_ 2 (by decide)) (fun n hn h4n h256 W1 d a k1 hD1 => ?_) (fun hno W1 k1 => ?_)
    · subst hn
      have q2a := k1.blk q2 (fun h => h)
      have q5a := k1.blk q5 (fun h => h)
      have q6a := k1.blk q6 (fun h => h)
      simp (disch := first | omega | (simp only [size_alloc, size_set, heap_dr] <;> omega) | assumption | exact oneC_slice | exact oneC_int | exact oneC_bool | exact oneC_ptr | exact oneC_iface | exact oneC_nil | exact oneC_str | exact oneC_map | exact oneC_func | rfl) only [ext_0, ext_1, oK_some, cell_eq, cellOf_some, Nat.zero_add, Int.toNat_natCast, and_true, ia_54, ld_3, q2a, g2]
      refine legal_ok ?_
      rw [show decide (4 ≤ (n : Int) ∧ (n : Int) ≤ 256) = true from decide_eq_true (by omega)]
      simp (disch := first | omega | (simp only [size_alloc, size_set, heap_dr] <;> omega) | assumption | exact oneC_slice | exact oneC_int | exact oneC_bool | exact oneC_ptr | exact oneC_iface | exact oneC_nil | exact oneC_str | exact oneC_map | exact oneC_func | rfl) only [pick_bool, gs_false, un_not, oK_some, cell_eq, cellOf_some, heap_dr, Nat.zero_add, Int.toNat_natCast, true_and, and_true, cond_false, eq_self, shr_eq, ia_54, ld_3, ia_55, nil_neq, ptr_eql, Bool.not_true, Option.isNone_some, q2a, g2]
      refine refNew_ok (w := dr W1) h256 fun W2 m k2 hR2 => ?_
      have k12 : Kp none_ W1 W2 := Kp.refl.dr.trans k2
      have q5b := k12.blk q5a (fun h => h)
      have q6b := k12.blk q6a (fun h => h)
      simp (disch := first | omega | (simp only [size_alloc, size_set, heap_dr] <;> omega) | assumption | exact oneC_slice | exact oneC_int | exact oneC_bool | exact oneC_ptr | exact oneC_iface | exact oneC_nil | exact oneC_str | exact oneC_map | exact oneC_func | rfl) only [bn_add, wrap64, oK_some, cell_eq, frozen_eq, cellOf_some, frozenOf_some, heap_set_ne, Nat.zero_add, Int.toNat_natCast, true_and, and_true, Bool.false_eq_true, if_false, eq_self, ia_55, st_24, ia_57, st_56, q5b, q6b, g5, g6]
      have s1 := k1.1
      have s2 : W1.heap.size ≤ W2.heap.size := k12.1
      have ks : Kp (fun b => b = p5 ∨ b = p6) W2 ((W2.setCell ⟨p5, k, none⟩ (.pointer (some ⟨d, 0, none⟩))).setCell ⟨p6, k, none⟩ (.pointer (some ⟨m, 0, none⟩))) := (Kp.set Kp.refl (.inl (.inl rfl))).set (.inl (.inr rfl))
      have hR2' : RefAt W2 m 0 (empties n) (fun b => W1.heap.size ≤ b) := hR2
      refine cont n d m a _ _ _ rfl h256 (((k1.ofNone).trans k12.ofNone).trans ks) ((hD1.bound.kn k12).kp ks fun b hb hx => by omega) (hR2'.kp ks fun b hb hx => by omega) (fun b hb => hb.1) (fun b hb => by omega) (fun b h1 h2 => by omega) ?_ ?_
      · rw [heap_set_ne n56, heap_set_same, q5b]; rfl
      · rw [heap_set_same, heap_set_ne n56.symm, q6b]; rfl
    · have q2a := k1.blk q2 (fun h => h)
      have hE1 := hE.kpNew k1
      have e2 := hE1.at_ 2 (by decide)
      unfold ErrAt at e2
      simp (disch := first | omega | (simp only [size_alloc, size_set, heap_dr] <;> omega) | assumption | exact oneC_slice | exact oneC_int | exact oneC_bool | exact oneC_ptr | exact oneC_iface | exact oneC_nil | exact oneC_str | exact oneC_map | exact oneC_func | rfl) only [ext_0, ext_1, oK_some, cell_eq, cellOf_some, Nat.zero_add, Int.toNat_natCast, and_true, ia_54, ld_3, q2a, g2]
      refine legal_ok ?_
      rw [show decide (4 ≤ s ∧ s ≤ 256) = false from decide_eq_false (by omega)]
      simp (disch := first | omega | (simp only [size_alloc, size_set, heap_dr] <;> omega) | assumption | exact oneC_slice | exact oneC_int | exact oneC_bool | exact oneC_ptr | exact oneC_iface | exact oneC_nil | exact oneC_str | exact oneC_map | exact oneC_func | rfl) only [pick_bool, gs_true, un_not, oK_some, cell_eq, and_true, cond_true, eq_self, shr_eq, ld_26, ptr_eql, Bool.not_false, Option.isNone_none, e2, err_eql (a := some 2) (g := 2) hE1 (fun g h => by cases h; decide) (by decide), decide_true]
      exact hK _ (hkW.trans k1)
  refine newk 0 s0 #[.int .i64 s0, .int .i64 s1] #[.pointer none, .pointer none] #[.pointer none, .pointer none] _ _ wC (by omega) kAC bC b5 b6 rfl rfl rfl fun n0 d0 m0 a0 W1 A0 B0 hs0 hn0 k1 hD0 hR0 hA0 hB0 hAB0 q5 q6 => ?_
  subst hs0
  have hw0 := kAC.1
  have hwC := blk_lt bC
  have q2 := k1.blk bC (by omega)
  have kW1 : Kp none_ w W1 := kAC.trans' k1 fun x hx => .inr (by omega)
  refine newk 1 s1 _ _ _ _ _ W1 (by omega) kW1 q2 q5 q6 rfl rfl rfl fun n1 d1 m1 a1 W2 A1 B1 hs1 hn1 k2 hD1 hR1 hA1 hB1 hAB1 r5 r6 => ?_
  subst hs1
  have r2 := k2.blk q2 (by omega)
  have kW2 : Kp none_ w W2 := kW1.trans' k2 fun x hx => .inr (by omega)
  have z1 := k1.1
  have hT : Two w W2 Z d0 m0 n0 d1 m1 n1 := by
    refine ⟨kW2, fun b hb => ?_, a0, 0, empties n0, _, _, a1, 0, empties n1, A1, B1, hD0.bound.kp k2 (fun b hb hx => ?_), hR0.bound.kp k2 (fun b hb hx => ?_), by simp [empties], hD1, hR1, by simp [empties], fun b hb => ?_, fun b x y => hAB0 b x.1 y.1, hAB1, fun b x y => ?_⟩
    · rcases hb with rfl | rfl | rfl
      · exact blk_lt r2
      · exact blk_lt r5
      · exact blk_lt r6
    · have := hA0 b hb.1; omega
    · have := hB0 b hb.1; omega
    · have hlo : wC.heap.size ≤ b := by
        rcases hb with (h | h) | (h | h)
        · exact hA0 b h.1
        · exact hB0 b h.1
        · have := hA1 b h; omega
        · have := hB1 b h; omega
      exact ⟨by omega, fun hz => by rcases hz with h | h | h <;> omega⟩
    · have hlt : b < W1.heap.size := by rcases x with x | x <;> exact x.2
      have hge : W1.heap.size ≤ b := by rcases y with y | y; exact hA1 b y; exact hB1 b y
      omega
  refine h0 _ _ _ _ _ _ ?_
  unfold F6_0
  simp (disch := first | omega | (simp only [size_alloc, size_set, heap_dr] <;> omega) | assumption | exact oneC_slice | exact oneC_int | exact oneC_bool | exact oneC_ptr | exact oneC_iface | exact oneC_nil | exact oneC_str | exact oneC_map | exact oneC_func | rfl) only [gs_dec_neg, bn_lss, and_true, len_22]
  exact script d0 m0 n0 d1 m1 n1 hn0 hn1 ops.length 0 W2 (by omega) hT r2 r5 r6
end Go.Proofs.YtfiakplgifimkaaDoor
