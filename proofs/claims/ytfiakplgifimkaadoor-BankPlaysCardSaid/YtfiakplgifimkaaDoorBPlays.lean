/- BankPlays over memory. No statement of the seat is proved in this text. -/
import Derived.Test.YtfiakplgifimkaaDoorBPlay2
import Derived.Test.YtfiakplgifimkaaDoorScript16
namespace Go.Proofs.YtfiakplgifimkaaDoor
open Go.TS
set_option maxRecDepth 20000

/-- Two banks beside the document's two; Z: blocks that no call turns. -/
structure Two16 (w0 w : World) (Z : Nat → Prop) (d0 m0 D0 S0 d1 m1 D1 S1 : Nat) : Prop where
  kp : Kp none_ w0 w
  zlt : ∀ b, Z b → b < w.heap.size
  ex : ∃ s0 A0 B0 s1 A1 B1, BankAt w d0 s0 A0 ∧ RBankAt w m0 s0 B0 ∧ BOk D0 S0 s0 ∧ BankAt w d1 s1 A1 ∧ RBankAt w m1 s1 B1 ∧ BOk D1 S1 s1 ∧
    (∀ b, (A0 b ∨ B0 b) ∨ (A1 b ∨ B1 b) → w0.heap.size ≤ b ∧ ¬ Z b) ∧ (∀ b, A0 b → ¬ B0 b) ∧ (∀ b, A1 b → ¬ B1 b) ∧ (∀ b, A0 b ∨ B0 b → ¬ (A1 b ∨ B1 b))
section
variable {w0 w w' : World} {Z : Nat → Prop} {d0 m0 D0 S0 d1 m1 D1 S1 : Nat}
theorem Two16.swap (h : Two16 w0 w Z d0 m0 D0 S0 d1 m1 D1 S1) : Two16 w0 w Z d1 m1 D1 S1 d0 m0 D0 S0 := by
  obtain ⟨s0, A0, B0, s1, A1, B1, h1, h2, h3, h4, h5, h6, h7, h8, h9, h10⟩ := h.ex
  exact ⟨h.kp, h.zlt, s1, A1, B1, s0, A0, B0, h4, h5, h6, h1, h2, h3, fun b hb => h7 b hb.symm, h9, h8, fun b hb hb' => h10 b hb' hb⟩
theorem Two16.kn (h : Two16 w0 w Z d0 m0 D0 S0 d1 m1 D1 S1) (hk : Kp none_ w w') : Two16 w0 w' Z d0 m0 D0 S0 d1 m1 D1 S1 := by
  obtain ⟨s0, A0, B0, s1, A1, B1, h1, h2, h3, h4, h5, h6, h7, h8, h9, h10⟩ := h.ex
  exact ⟨h.kp.trans hk, fun b hb => Nat.lt_of_lt_of_le (h.zlt b hb) hk.1, s0, A0, B0, s1, A1, B1, h1.kn hk, h2.kn hk, h3, h4.kn hk, h5.kn hk, h6, h7, h8, h9, h10⟩
/-- What the first of the document's banks tells. -/
theorem Two16.ref (h : Two16 w0 w Z d0 m0 D0 S0 d1 m1 D1 S1) : ∃ (a : Option Addr) (c : Nat) (x2 x3 x4 x5 : Value), w.heap[m0]? = some (.cells #[.slice a D0 c, .int .i64 S0, x2, x3, x4, x5] 85 (0, 0)) := by
  obtain ⟨s0, A0, B0, s1, A1, B1, h1, h2, h3, _⟩ := h.ex
  obtain ⟨_, _, _, v, _, g1, g2, _⟩ := h2.ex
  obtain ⟨av, cv, rfl⟩ := g2.val
  unfold bankCells at g1
  rw [h3.dn, h3.sn] at g1
  exact ⟨_, _, _, _, _, _, g1⟩
/-- One call on the first pair. -/
theorem Two16.play {E : Nat → Addr} {G : Nat → Prop} {kd wh dv sl n : Int} {vh vb : Value} {hs bs : List UInt8} {K : Value → World → Prop} (h : Two16 w0 w Z d0 m0 D0 S0 d1 m1 D1 S1) (hS : 0 < S0) (he : Errs w0 E L25) (hh : By w0 vh hs G) (hb : By w0 vb bs G)
    (hK : ∀ w', Two16 w0 w' Z d0 m0 D0 S0 d1 m1 D1 S1 → (∀ b, Z b → w'.heap[b]? = w.heap[b]?) → K (.bool true) w') :
    call Tryd.prog 41 #[.pointer (some ⟨d0, 0, none⟩), .pointer (some ⟨m0, 0, none⟩), .agg #[.int .i64 kd, .int .i64 wh, .int .i64 dv, .int .i64 sl, .int .i64 n, vh, vb]] w K := by
  obtain ⟨s0, A0, B0, s1, A1, B1, h1, h2, h3, h4, h5, h6, h7, h8, h9, h10⟩ := h.ex
  have h4b := h4.bound
  have h5b := h5.bound
  refine play16_ok h.kp he hh hb h1 h2 (fun b hb => (h7 b (.inl (.inl hb))).1) (fun b hb => (h7 b (.inl (.inr hb))).1) h8 (by rw [h3.sn]; exact hS) fun w' s' A0' B0' k0 k1 hD hR ha hb h12 hl => ?_
  have hz : ∀ b, Z b → w'.heap[b]? = w.heap[b]? := fun b hb => k1.2 b (h.zlt b hb) fun hs => (h7 b (.inl hs)).2 hb
  refine hK w' ⟨k0, fun b hb => Nat.lt_of_lt_of_le (h.zlt b hb) k1.1, s', A0', B0', s1, _, _, hD, hR, ⟨hl.dn.trans h3.dn, hl.sn.trans h3.sn⟩, h4b.kp k1 fun b hb hs => h10 b hs (.inl hb.1), h5b.kp k1 fun b hb hs => h10 b hs (.inr hb.1), h6, fun b hb' => ?_, h12, fun b h1 h2 => h9 b h1.1 h2.1, fun b hb1 hb' => ?_⟩ hz
  · have k := h.kp.1
    rcases hb' with (h' | h') | (h' | h')
    · rcases ha b h' with h'' | h''
      · exact h7 b (.inl (.inl h''))
      · exact ⟨by omega, fun hz => by have := h.zlt b hz; omega⟩
    · rcases hb b h' with h'' | h''
      · exact h7 b (.inl (.inr h''))
      · exact ⟨by omega, fun hz => by have := h.zlt b hz; omega⟩
    · exact h7 b (.inr (.inl h'.1))
    · exact h7 b (.inr (.inr h'.1))
  · have hlt : b < w.heap.size ∧ (A1 b ∨ B1 b) := by
      rcases hb' with h' | h'
      · exact ⟨h'.2, .inl h'.1⟩
      · exact ⟨h'.2, .inr h'.1⟩
    rcases hb1 with h' | h'
    · rcases ha b h' with h'' | h''
      · exact h10 b (.inl h'') hlt.2
      · omega
    · rcases hb b h' with h'' | h''
      · exact h10 b (.inr h'') hlt.2
      · omega
end
theorem and16 (x : Int) : ∃ k : Nat, k < 2 ∧ IntKind.i64.wrap ((BitVec.ofInt IntKind.i64.bits x &&& BitVec.ofInt IntKind.i64.bits 1).toNat : Int) = (k : Int) := by
  refine ⟨(BitVec.ofInt 64 x).toNat % 2, by omega, ?_⟩
  have h : (BitVec.ofInt IntKind.i64.bits x &&& BitVec.ofInt IntKind.i64.bits 1).toNat = (BitVec.ofInt 64 x).toNat % 2 := by
    show (BitVec.ofInt 64 x &&& BitVec.ofInt 64 1).toNat = _
    rw [BitVec.toNat_and, show (BitVec.ofInt 64 1).toNat = 1 from by decide, Nat.and_one_is_mod]
  rw [h]
  exact wrap64 (by omega) (by omega)
theorem code_num {dn sl : Int} : bankCode dn sl = numOf (bankErr dn sl) := by
  unfold bankCode bankErr
  split
  · rw [num5]
  · split
    · rw [numOf_slot]
    · rfl
theorem bankErr_mem {dn sl : Int} : ∀ g, bankErr dn sl = some g → g ∈ L25 := by
  intro g h
  unfold bankErr at h
  split at h
  · cases h; decide
  · split at h
    · cases h; decide
    · cases h
theorem ix4_ok {a b c d : Value} {k : Nat} {w : World} {K : Value → World → Prop} (hk : k < 2) : ix Tryd.prog 76 (.agg #[a, b, c, d]) (.int .i64 k) w K = K (.agg #[if k = 0 then a else c, if k = 0 then b else d]) w := by
  rw [ix_agg (l := 2) (e := 54) (n := 2) (by kernel_rfl) (by kernel_rfl) (by kernel_rfl) hk]
  match k, hk with
  | 0, _ => rfl
  | 1, _ => rfl

/-- BankPlays. -/
theorem plays16_ok {w : World} {E : Nat → Addr} {z0 z1 z2 z3 : Int} {v : Value} {ops : List Op16} {F : Nat → Prop} {K : Value → World → Prop} (he : Errs w E L25) (ho : Ops16 w v ops F) (hK : ∀ w', Kp none_ w w' → K (.bool true) w') :
    call Tryd.prog 9 #[.agg #[.int .i64 z0, .int .i64 z1, .int .i64 z2, .int .i64 z3], v] w K := by
  have heB : Errs w E LB := he.sub LB_L25
  refine F9_ok fun X h0 h1 h2 h3 h4 => ?_
  unfold F9_s
  obtain ⟨av, cv, hv, hlen⟩ := ho.len
  subst hv
  have kA : Kp none_ w (w.alloc (.cells #[.int .i64 z0, .int .i64 z1, .int .i64 z2, .int .i64 z3] 76)) := Kp.refl.alloc _
  have bA : (w.alloc (.cells #[.int .i64 z0, .int .i64 z1, .int .i64 z2, .int .i64 z3] 76)).heap[w.heap.size]? = some (.cells #[.int .i64 z0, .int .i64 z1, .int .i64 z2, .int .i64 z3] 76 (0, 0)) := heap_alloc_eq rfl
  have zA : (w.alloc (.cells #[.int .i64 z0, .int .i64 z1, .int .i64 z2, .int .i64 z3] 76)).heap.size = w.heap.size + 1 := size_alloc
  simp (disch := first | omega | (simp only [size_alloc, size_set, heap_dr] <;> omega) | assumption | exact oneC_slice | exact oneC_int | exact oneC_bool | exact oneC_ptr | exact oneC_iface | exact oneC_nil | exact oneC_str | exact oneC_map | exact oneC_func | rfl) only [bx_agg, and_true]
  generalize w.alloc (.cells #[.int .i64 z0, .int .i64 z1, .int .i64 z2, .int .i64 z3] 76) = wA at kA bA zA ⊢
  refine alive16_ok (heB.kpNew kA) fun wB kB => ?_
  have kAB := kA.trans kB
  have bB := kB.blk bA (fun h => h)
  simp (disch := first | omega | (simp only [size_alloc, size_set, heap_dr] <;> omega) | assumption | exact oneC_slice | exact oneC_int | exact oneC_bool | exact oneC_ptr | exact oneC_iface | exact oneC_nil | exact oneC_str | exact oneC_map | exact oneC_func | rfl) only [gs_false, un_not, cell_eq, and_true, alc_77, alc_79, ld_76, Bool.not_true]
  have sB := kB.1
  have kC : Kp none_ wB ((wB.alloc (.cells #[.pointer none, .pointer none] 77)).alloc (.cells #[.pointer none, .pointer none] 79)) := (Kp.refl.alloc _).alloc _
  have b5 : ((wB.alloc (.cells #[.pointer none, .pointer none] 77)).alloc (.cells #[.pointer none, .pointer none] 79)).heap[wB.heap.size]? = some (.cells #[.pointer none, .pointer none] 77 (0, 0)) := (heap_alloc_lt (by rw [size_alloc]; omega)).trans (heap_alloc_eq rfl)
  have b6 : ((wB.alloc (.cells #[.pointer none, .pointer none] 77)).alloc (.cells #[.pointer none, .pointer none] 79)).heap[wB.heap.size + 1]? = some (.cells #[.pointer none, .pointer none] 79 (0, 0)) := heap_alloc_eq (by rw [size_alloc])
  have zC : ((wB.alloc (.cells #[.pointer none, .pointer none] 77)).alloc (.cells #[.pointer none, .pointer none] 79)).heap.size = wB.heap.size + 2 := by rw [size_alloc, size_alloc]
  have bC := kC.blk bB (fun h => h)
  generalize (wB.alloc (.cells #[.pointer none, .pointer none] 77)).alloc (.cells #[.pointer none, .pointer none] 79) = wC at kC b5 b6 zC bC ⊢
  have kAC := kAB.trans kC
  simp (disch := first | omega | (simp only [size_alloc, size_set, heap_dr] <;> omega) | assumption | exact oneC_slice | exact oneC_int | exact oneC_bool | exact oneC_ptr | exact oneC_iface | exact oneC_nil | exact oneC_str | exact oneC_map | exact oneC_func | rfl) only [oK_some, cell_eq, cellOf_some, size_alloc, List.getElem?_toArray, List.getElem?_cons_zero, List.getElem?_cons_succ, Nat.zero_add, and_true, bC]
  generalize hp6 : wB.heap.size + 1 = p6 at b6 ⊢
  generalize wB.heap.size = p5 at b5 zC sB hp6 ⊢
  let Z : Nat → Prop := fun b => b = p5 ∨ b = p6
  have nilBy : ∀ W : World, By W (.slice none 0 0) [] (fun _ => False) := fun W => Bo.nil.by
  -- behind the script: every slot of one bank
  have perk : ∀ (k : Nat) (c5 c6 : Array Value) (dk mk Dk Sk dj mj Dj Sj : Nat), k < 2 → Dk ≤ 16 → 0 < Sk → Sk ≤ 256 → c5[k]? = some (.pointer (some ⟨dk, 0, none⟩)) → c6[k]? = some (.pointer (some ⟨mk, 0, none⟩)) →
      (∀ W, Two16 w W Z dk mk Dk Sk dj mj Dj Sj → W.heap[p5]? = some (.cells c5 77 (0, 0)) → W.heap[p6]? = some (.cells c6 79 (0, 0)) → X 2 [.pointer (some ⟨p5, 0, none⟩), .pointer (some ⟨p6, 0, none⟩), .int .i64 ((k : Int) + 1)] W) →
      ∀ (m : Nat) (t : Int) (W : World), t + m = Dk + 1 → -1 ≤ t → Two16 w W Z dk mk Dk Sk dj mj Dj Sj → W.heap[p5]? = some (.cells c5 77 (0, 0)) → W.heap[p6]? = some (.cells c6 79 (0, 0)) →
        X 3 [.pointer (some ⟨p5, 0, none⟩), .pointer (some ⟨p6, 0, none⟩), .int .i64 k, .int .i64 t, .int .i64 k] W := by
    intro k c5 c6 dk mk Dk Sk dj mj Dj Sj hk2 hDk hSk0 hSk g5 g6 cont m
    induction m with
    | zero =>
      intro t W ht h1t hT q5 q6
      have hgt : ¬ t ≤ Dk := by omega
      obtain ⟨ra, rc, x2, x3, x4, x5, hm⟩ := hT.ref
      refine h3 _ _ _ _ _ _ ?_
      unfold F9_3
      simp (disch := first | omega | (simp only [size_alloc, size_set, heap_dr] <;> omega) | assumption | exact oneC_slice | exact oneC_int | exact oneC_bool | exact oneC_ptr | exact oneC_iface | exact oneC_nil | exact oneC_str | exact oneC_map | exact oneC_func | rfl) only [ck_ptr, gs_dec_neg, bn_add, bn_leq, wrap64, oK_some, cell_eq, cellOf_some, List.getElem?_toArray, List.getElem?_cons_zero, Nat.zero_add, Int.toNat_natCast, and_true, ia_79, ld_78, fa_85_0, ld_83, len_83, q6, g6, hm]
      exact cont W hT q5 q6
    | succ m ih =>
      intro t W ht h1t hT q5 q6
      have hle : t ≤ Dk := by omega
      obtain ⟨ra, rc, x2, x3, x4, x5, hm⟩ := hT.ref
      refine h3 _ _ _ _ _ _ ?_
      unfold F9_3
      simp (disch := first | omega | (simp only [size_alloc, size_set, heap_dr] <;> omega) | assumption | exact oneC_slice | exact oneC_int | exact oneC_bool | exact oneC_ptr | exact oneC_iface | exact oneC_nil | exact oneC_str | exact oneC_map | exact oneC_func | rfl) only [ck_ptr, gs_dec_pos, bn_leq, oK_some, cell_eq, cellOf_some, List.getElem?_toArray, List.getElem?_cons_zero, Nat.zero_add, Int.toNat_natCast, and_true, ia_79, ld_78, fa_85_0, ld_83, len_83, q6, g6, hm]
      obtain ⟨L, hL, hLS⟩ : ∃ L : Nat, (if (9 : Int) < Sk then (9 : Int) else (Sk : Int)) = (L : Int) ∧ L ≤ 256 := by
        by_cases h : (9 : Int) < Sk
        · exact ⟨9, by rw [if_pos h]; rfl, by omega⟩
        · exact ⟨Sk, by rw [if_neg h], hSk⟩
      have inner : ∀ (mm q : Nat) (W2 : World), q + mm = L → Two16 w W2 Z dk mk Dk Sk dj mj Dj Sj → W2.heap[p5]? = some (.cells c5 77 (0, 0)) → W2.heap[p6]? = some (.cells c6 79 (0, 0)) →
          X 4 [.pointer (some ⟨p5, 0, none⟩), .pointer (some ⟨p6, 0, none⟩), .int .i64 k, .int .i64 t, .int .i64 q, .int .i64 k] W2 := by
        intro mm
        induction mm with
        | zero =>
          intro q W2 hq hT2 r5 r6
          obtain rfl : q = L := by omega
          obtain ⟨ra, rc, x2, x3, x4, x5, hm⟩ := hT2.ref
          refine h4 _ _ _ _ _ _ _ ?_
          unfold F9_4
          simp (disch := first | omega | (simp only [size_alloc, size_set, heap_dr] <;> omega) | assumption | exact oneC_slice | exact oneC_int | exact oneC_bool | exact oneC_ptr | exact oneC_iface | exact oneC_nil | exact oneC_str | exact oneC_map | exact oneC_func | rfl) only [ck_ptr, gs_dec_neg, bn_add, bn_lss, wrap64, oK_some, cell_eq, cellOf_some, min_int, List.getElem?_toArray, List.getElem?_cons_zero, List.getElem?_cons_succ, Nat.zero_add, Int.toNat_natCast, and_true, ld_3, ia_79, ld_78, fa_85_1, r6, g6, hm, hL]
          exact ih (t + 1) W2 (by omega) (by omega) hT2 r5 r6
        | succ mm ihq =>
          intro q W2 hq hT2 r5 r6
          have hqL : (q : Int) < L := by omega
          obtain ⟨ra, rc, x2, x3, x4, x5, hm⟩ := hT2.ref
          refine h4 _ _ _ _ _ _ _ ?_
          unfold F9_4
          simp (disch := first | omega | (simp only [size_alloc, size_set, heap_dr] <;> omega) | assumption | exact oneC_slice | exact oneC_int | exact oneC_bool | exact oneC_ptr | exact oneC_iface | exact oneC_nil | exact oneC_str | exact oneC_map | exact oneC_func | rfl) only [ck_ptr, gs_dec_pos, bn_lss, oK_some, cell_eq, cellOf_some, heap_dr, min_int, List.getElem?_toArray, List.getElem?_cons_zero, List.getElem?_cons_succ, Nat.zero_add, Int.toNat_natCast, true_and, and_true, eq_self, ld_3, ia_77, ia_79, ld_61, ld_78, fa_85_1, bld_72_0_2_3, r5, r6, g5, g6, hm, hL]
          refine (hT2.kn Kp.refl.dr).play hSk0 he (nilBy w) (nilBy w) fun W' hT' hz => ?_
          have r5' := (hz _ (.inl rfl)).trans r5
          have r6' := (hz _ (.inr rfl)).trans r6
          simp (disch := first | omega | (simp only [size_alloc, size_set, heap_dr] <;> omega) | assumption | exact oneC_slice | exact oneC_int | exact oneC_bool | exact oneC_ptr | exact oneC_iface | exact oneC_nil | exact oneC_str | exact oneC_map | exact oneC_func | rfl) only [gs_false, un_not, oK_some, cell_eq, cellOf_some, Nat.zero_add, Int.toNat_natCast, true_and, and_true, eq_self, ia_77, ia_79, ld_61, ld_78, bld_72_0_2_3, Bool.not_true, r5', r6', g5, g6]
          refine hT'.play hSk0 he (nilBy w) (nilBy w) fun W3 hT3 hz3 => ?_
          simp (disch := first | omega | (simp only [size_alloc, size_set, heap_dr] <;> omega) | assumption | exact oneC_slice | exact oneC_int | exact oneC_bool | exact oneC_ptr | exact oneC_iface | exact oneC_nil | exact oneC_str | exact oneC_map | exact oneC_func | rfl) only [pick_bool, gs_false, un_not, bn_add, wrap64, true_and, and_true, cond_false, eq_self, Bool.not_true]
          exact ihq (q + 1) W3 (by omega) hT3 ((hz3 _ (.inl rfl)).trans r5') ((hz3 _ (.inr rfl)).trans r6')
      exact inner L 0 W (by omega) hT q5 q6
  have fin2 : ∀ (d0 m0 D0 S0 d1 m1 D1 S1 : Nat) (W : World), D0 ≤ 16 → 0 < S0 → S0 ≤ 256 → D1 ≤ 16 → 0 < S1 → S1 ≤ 256 → Two16 w W Z d0 m0 D0 S0 d1 m1 D1 S1 → W.heap[p5]? = some (.cells #[.pointer (some ⟨d0, 0, none⟩), .pointer (some ⟨d1, 0, none⟩)] 77 (0, 0)) → W.heap[p6]? = some (.cells #[.pointer (some ⟨m0, 0, none⟩), .pointer (some ⟨m1, 0, none⟩)] 79 (0, 0)) →
      X 2 [.pointer (some ⟨p5, 0, none⟩), .pointer (some ⟨p6, 0, none⟩), .int .i64 0] W := by
    intro d0 m0 D0 S0 d1 m1 D1 S1 W hD0 hS0 hS0' hD1 hS1 hS1' hT q5 q6
    refine h2 _ _ _ _ ?_
    unfold F9_2
    simp (disch := first | omega | (simp only [size_alloc, size_set, heap_dr] <;> omega) | assumption | exact oneC_slice | exact oneC_int | exact oneC_bool | exact oneC_ptr | exact oneC_iface | exact oneC_nil | exact oneC_str | exact oneC_map | exact oneC_func | rfl) only [gs_dec_pos, bn_lss, and_true]
    refine perk 0 _ _ d0 m0 D0 S0 d1 m1 D1 S1 (by omega) hD0 hS0 hS0' rfl rfl (fun W1 hT1 r5 r6 => ?_) (D0 + 2) (-1) W (by omega) (by omega) hT q5 q6
    refine h2 _ _ _ _ ?_
    unfold F9_2
    simp (disch := first | omega | (simp only [size_alloc, size_set, heap_dr] <;> omega) | assumption | exact oneC_slice | exact oneC_int | exact oneC_bool | exact oneC_ptr | exact oneC_iface | exact oneC_nil | exact oneC_str | exact oneC_map | exact oneC_func | rfl) only [gs_dec_pos, bn_lss, and_true]
    refine perk 1 _ _ d1 m1 D1 S1 d0 m0 D0 S0 (by omega) hD1 hS1 hS1' rfl rfl (fun W2 hT2 _ _ => ?_) (D1 + 2) (-1) W1 (by omega) (by omega) hT1.swap r5 r6
    refine h2 _ _ _ _ ?_
    unfold F9_2
    simp (disch := first | omega | (simp only [size_alloc, size_set, heap_dr] <;> omega) | assumption | exact oneC_slice | exact oneC_int | exact oneC_bool | exact oneC_ptr | exact oneC_iface | exact oneC_nil | exact oneC_str | exact oneC_map | exact oneC_func | rfl) only [gs_dec_neg, bn_lss, and_true]
    exact hK _ hT2.kp
  have script : ∀ (d0 m0 D0 S0 d1 m1 D1 S1 : Nat), D0 ≤ 16 → 0 < S0 → S0 ≤ 256 → D1 ≤ 16 → 0 < S1 → S1 ≤ 256 → ∀ (m i : Nat) (W : World), i + m = ops.length → Two16 w W Z d0 m0 D0 S0 d1 m1 D1 S1 → W.heap[p5]? = some (.cells #[.pointer (some ⟨d0, 0, none⟩), .pointer (some ⟨d1, 0, none⟩)] 77 (0, 0)) → W.heap[p6]? = some (.cells #[.pointer (some ⟨m0, 0, none⟩), .pointer (some ⟨m1, 0, none⟩)] 79 (0, 0)) →
      X 1 [.pointer (some ⟨p5, 0, none⟩), .pointer (some ⟨p6, 0, none⟩), .slice av ops.length cv, .int .i64 ops.length, .int .i64 i] W := by
    intro d0 m0 D0 S0 d1 m1 D1 S1 hD0 hS0 hS0' hD1 hS1 hS1' m
    induction m with
    | zero =>
      intro i W hi hT q5 q6
      obtain rfl : i = ops.length := by omega
      refine h1 _ _ _ _ _ _ ?_
      unfold F9_1
      simp (disch := first | omega | (simp only [size_alloc, size_set, heap_dr] <;> omega) | assumption | exact oneC_slice | exact oneC_int | exact oneC_bool | exact oneC_ptr | exact oneC_iface | exact oneC_nil | exact oneC_str | exact oneC_map | exact oneC_func | rfl) only [gs_dec_neg, bn_lss, and_true]
      exact fin2 d0 m0 D0 S0 d1 m1 D1 S1 W hD0 hS0 hS0' hD1 hS1 hS1' hT q5 q6
    | succ m ih =>
      intro i W hi hT q5 q6
      have hil : i < ops.length := by omega
      obtain ⟨b, o, kc, cs, e, fr, vh, vb, hv, hbl, hb, c0, c1, c2, c3, c4, c5, c6, hh, hbd⟩ := ho.at_ hil
      cases hv
      have hbW := hT.kp.blk hb (fun h => h)
      have hbWl := blk_lt hbW
      have l5 := blk_lt q5
      have l6 := blk_lt q6
      have e1 := hh.one
      have e2 := hbd.one
      obtain ⟨k, hk2, hke⟩ := and16 ops[i].which
      have ka : Kp none_ W (dr (W.alloc (.cells #[.int .i64 ops[i].kind, .int .i64 ops[i].which, .int .i64 ops[i].drive, .int .i64 ops[i].slot, .int .i64 ops[i].n, vh, vb] 72))) := (Kp.refl.alloc _).dr
      have hTa := hT.kn ka
      refine h1 _ _ _ _ _ _ ?_
      unfold F9_1
      have hk01 : k = 0 ∨ k = 1 := by omega
      rcases hk01 with rfl | rfl
      · have g5 : (#[.pointer (some ⟨d0, 0, none⟩), .pointer (some ⟨d1, 0, none⟩)] : Array Value)[0]? = some (.pointer (some ⟨d0, 0, none⟩)) := rfl
        have g6 : (#[.pointer (some ⟨m0, 0, none⟩), .pointer (some ⟨m1, 0, none⟩)] : Array Value)[0]? = some (.pointer (some ⟨m0, 0, none⟩)) := rfl
        simp (disch := first | omega | (simp only [size_alloc, size_set, heap_dr] <;> omega) | assumption | exact oneC_slice | exact oneC_int | exact oneC_bool | exact oneC_ptr | exact oneC_iface | exact oneC_nil | exact oneC_str | exact oneC_map | exact oneC_func | rfl) only [gs_dec_pos, bn_lss, oK_some, cell_eq, cellOf_some, heap_alloc_lt, heap_alloc_eq, heap_dr, List.getElem?_toArray, List.getElem?_cons_zero, List.getElem?_cons_succ, Nat.zero_add, Nat.add_zero, Int.toNat_natCast, true_and, and_true, eq_self, ld_3, ia_77, ia_79, ia_69, ld_72, ↓alst_72, fa_72_1, ld_61, ld_78, bn_and, hbW, c0, c1, c2, c3, c4, c5, c6, hke, q5, q6, g5, g6]
        refine hTa.play hS0 he hh hbd fun W' hT' hz => ?_
        have hzz : ∀ b, Z b → W'.heap[b]? = W.heap[b]? := fun b hb => (hz b hb).trans (ka.2 b (hT.zlt b hb) fun h => h)
        have r5 := (hzz _ (.inl rfl)).trans q5
        have r6 := (hzz _ (.inr rfl)).trans q6
        simp (disch := first | omega | (simp only [size_alloc, size_set, heap_dr] <;> omega) | assumption | exact oneC_slice | exact oneC_int | exact oneC_bool | exact oneC_ptr | exact oneC_iface | exact oneC_nil | exact oneC_str | exact oneC_map | exact oneC_func | rfl) only [gs_false, un_not, oK_some, cell_eq, cellOf_some, Nat.add_zero, Int.toNat_natCast, true_and, and_true, eq_self, ia_77, ia_79, ld_61, ld_78, bld_72_0, Bool.not_true, hke, r5, r6, g5, g6]
        refine hT'.play hS0 he (nilBy w) (nilBy w) fun W2 hT2 hz2 => ?_
        simp (disch := first | omega | (simp only [size_alloc, size_set, heap_dr] <;> omega) | assumption | exact oneC_slice | exact oneC_int | exact oneC_bool | exact oneC_ptr | exact oneC_iface | exact oneC_nil | exact oneC_str | exact oneC_map | exact oneC_func | rfl) only [pick_bool, gs_false, un_not, bn_add, wrap64, true_and, and_true, cond_false, eq_self, Bool.not_true]
        exact ih (i + 1) W2 (by omega) hT2 ((hz2 _ (.inl rfl)).trans r5) ((hz2 _ (.inr rfl)).trans r6)
      · have g5 : (#[.pointer (some ⟨d0, 0, none⟩), .pointer (some ⟨d1, 0, none⟩)] : Array Value)[1]? = some (.pointer (some ⟨d1, 0, none⟩)) := rfl
        have g6 : (#[.pointer (some ⟨m0, 0, none⟩), .pointer (some ⟨m1, 0, none⟩)] : Array Value)[1]? = some (.pointer (some ⟨m1, 0, none⟩)) := rfl
        simp (disch := first | omega | (simp only [size_alloc, size_set, heap_dr] <;> omega) | assumption | exact oneC_slice | exact oneC_int | exact oneC_bool | exact oneC_ptr | exact oneC_iface | exact oneC_nil | exact oneC_str | exact oneC_map | exact oneC_func | rfl) only [gs_dec_pos, bn_lss, oK_some, cell_eq, cellOf_some, heap_alloc_lt, heap_alloc_eq, heap_dr, List.getElem?_toArray, List.getElem?_cons_zero, List.getElem?_cons_succ, Nat.zero_add, Int.toNat_natCast, true_and, and_true, eq_self, ld_3, ia_77, ia_79, ia_69, ld_72, ↓alst_72, fa_72_1, ld_61, ld_78, bn_and, hbW, c0, c1, c2, c3, c4, c5, c6, hke, q5, q6, g5, g6]
        refine hTa.swap.play hS1 he hh hbd fun W' hT' hz => ?_
        have hzz : ∀ b, Z b → W'.heap[b]? = W.heap[b]? := fun b hb => (hz b hb).trans (ka.2 b (hT.zlt b hb) fun h => h)
        have r5 := (hzz _ (.inl rfl)).trans q5
        have r6 := (hzz _ (.inr rfl)).trans q6
        simp (disch := first | omega | (simp only [size_alloc, size_set, heap_dr] <;> omega) | assumption | exact oneC_slice | exact oneC_int | exact oneC_bool | exact oneC_ptr | exact oneC_iface | exact oneC_nil | exact oneC_str | exact oneC_map | exact oneC_func | rfl) only [gs_false, un_not, oK_some, cell_eq, cellOf_some, Nat.zero_add, Int.toNat_natCast, true_and, and_true, eq_self, ia_77, ia_79, ld_61, ld_78, bld_72_0, Bool.not_true, hke, r5, r6, g5, g6]
        refine hT'.play hS1 he (nilBy w) (nilBy w) fun W2 hT2 hz2 => ?_
        simp (disch := first | omega | (simp only [size_alloc, size_set, heap_dr] <;> omega) | assumption | exact oneC_slice | exact oneC_int | exact oneC_bool | exact oneC_ptr | exact oneC_iface | exact oneC_nil | exact oneC_str | exact oneC_map | exact oneC_func | rfl) only [pick_bool, gs_false, un_not, bn_add, wrap64, true_and, and_true, cond_false, eq_self, Bool.not_true]
        exact ih (i + 1) W2 (by omega) hT2.swap ((hz2 _ (.inl rfl)).trans r5) ((hz2 _ (.inr rfl)).trans r6)
  -- a bank and the document's bank made
  have newk : ∀ (k : Nat) (x0 x1 : Int) (c5 c6 : Array Value) (x y : Value) (W : World), k < 2 → x0 = (if k = 0 then z0 else z2) → x1 = (if k = 0 then z1 else z3) → Kp none_ w W → W.heap[p5]? = some (.cells c5 77 (0, 0)) → W.heap[p6]? = some (.cells c6 79 (0, 0)) → c5[k]? = some x → c6[k]? = some y →
      (∀ (D S d m : Nat) (W' : World) (A B : Nat → Prop), 1 ≤ D → D ≤ 16 → 4 ≤ S → S ≤ 256 → Kp (fun b => b = p5 ∨ b = p6) W W' → BankAt W' d (bank0 D S) A → RBankAt W' m (bank0 D S) B → (∀ b, A b → W.heap.size ≤ b) → (∀ b, B b → W.heap.size ≤ b) → (∀ b, A b → ¬ B b) → W'.heap[p5]? = some (.cells (c5.setIfInBounds k (.pointer (some ⟨d, 0, none⟩))) 77 (0, 0)) → W'.heap[p6]? = some (.cells (c6.setIfInBounds k (.pointer (some ⟨m, 0, none⟩))) 79 (0, 0)) →
        X 0 [.slice av ops.length cv, .pointer (some ⟨p5, 0, none⟩), .pointer (some ⟨p6, 0, none⟩), .agg #[.int .i64 z0, .int .i64 z1, .int .i64 z2, .int .i64 z3], .int .i64 ((k : Int) + 1)] W') →
      X 0 [.slice av ops.length cv, .pointer (some ⟨p5, 0, none⟩), .pointer (some ⟨p6, 0, none⟩), .agg #[.int .i64 z0, .int .i64 z1, .int .i64 z2, .int .i64 z3], .int .i64 k] W := by
    intro k x0 x1 c5 c6 x y W hk2 hx0 hx1 hkW q5 q6 g5 g6 cont
    have hE := he.kpNew hkW
    have l5 := blk_lt q5
    have l6 := blk_lt q6
    have n56 := blk_ne q5 q6 (by omega)
    have hix : ∀ (w : World) (K : Value → World → Prop), ix Tryd.prog 76 (.agg #[.int .i64 z0, .int .i64 z1, .int .i64 z2, .int .i64 z3]) (.int .i64 k) w K = K (.agg #[.int .i64 x0, .int .i64 x1]) w := by
      intro w K
      rw [ix4_ok hk2, hx0, hx1]
      split <;> rfl
    refine h0 _ _ _ _ _ _ ?_
    unfold F9_0
    have kt : Kp none_ W (W.alloc (.cells #[.int .i64 x0, .int .i64 x1] 54)) := Kp.refl.alloc _
    have bt : (W.alloc (.cells #[.int .i64 x0, .int .i64 x1] 54)).heap[W.heap.size]? = some (.cells #[.int .i64 x0, .int .i64 x1] 54 (0, 0)) := heap_alloc_eq rfl
    have zt : (W.alloc (.cells #[.int .i64 x0, .int .i64 x1] 54)).heap.size = W.heap.size + 1 := size_alloc
    simp (disch := first | omega | (simp only [size_alloc, size_set, heap_dr] <;> omega) | assumption | exact oneC_slice | exact oneC_int | exact oneC_bool | exact oneC_ptr | exact oneC_iface | exact oneC_nil | exact oneC_str | exact oneC_map | exact oneC_func | rfl) only [gs_dec_pos, bn_lss, oK_some, cell_eq, cellOf_some, heap_alloc_eq, List.getElem?_toArray, List.getElem?_cons_zero, List.getElem?_cons_succ, Nat.zero_add, Nat.add_zero, and_true, ↓alst_54, ia_54, ld_3, hix, Int.toNat_zero, Int.toNat_one]
    generalize W.alloc (.cells #[.int .i64 x0, .int .i64 x1] 54) = Wt at kt bt zt ⊢
    have kwt := hkW.trans kt
    refine bankNew_ok (heB.kpNew kwt) (fun e hbe W1 k1 => ?_) (fun D S hD hS hD1 hD16 hS4 hS256 hbe W1 d k1 hB1 => ?_)
    · have bt1 := k1.blk bt (fun h => h)
      have kw1 := kwt.trans k1
      simp (disch := first | omega | (simp only [size_alloc, size_set, heap_dr] <;> omega) | assumption | exact oneC_slice | exact oneC_int | exact oneC_bool | exact oneC_ptr | exact oneC_iface | exact oneC_nil | exact oneC_str | exact oneC_map | exact oneC_func | rfl) only [ext_0, ext_1, oK_some, cell_eq, cellOf_some, List.getElem?_toArray, List.getElem?_cons_zero, List.getElem?_cons_succ, Nat.zero_add, Nat.add_zero, and_true, ia_54, ld_3, bt1, Int.toNat_zero, Int.toNat_one]
      refine legal16_ok ?_
      simp (disch := first | omega | (simp only [size_alloc, size_set, heap_dr] <;> omega) | assumption | exact oneC_slice | exact oneC_int | exact oneC_bool | exact oneC_ptr | exact oneC_iface | exact oneC_nil | exact oneC_str | exact oneC_map | exact oneC_func | rfl) only [and_true]
      refine num_ok (he.kpNew kw1) (fun g h => by cases h; exact bankErr_mem _ hbe) fun W2 k2 => ?_
      have hc : bankCode x0 x1 = numOf (some e) := by rw [code_num, hbe]
      rw [hc]
      simp (disch := first | omega | (simp only [size_alloc, size_set, heap_dr] <;> omega) | assumption | exact oneC_slice | exact oneC_int | exact oneC_bool | exact oneC_ptr | exact oneC_iface | exact oneC_nil | exact oneC_str | exact oneC_map | exact oneC_func | rfl) only [pick_bool, gs_true, gs_false, bn_neq, and_true, cond_false, eq_self, shr_eq, ptr61_eql, bn_bool_neq4, numOf_ne, decide_true, Bool.not_true, Bool.not_false, Option.isNone_none, beq_self_eq_true]
      exact hK _ (kw1.trans k2)
    · subst hD hS
      have bt1 := k1.blk bt (fun h => h)
      have kw1 := kwt.trans k1
      simp (disch := first | omega | (simp only [size_alloc, size_set, heap_dr] <;> omega) | assumption | exact oneC_slice | exact oneC_int | exact oneC_bool | exact oneC_ptr | exact oneC_iface | exact oneC_nil | exact oneC_str | exact oneC_map | exact oneC_func | rfl) only [ext_0, ext_1, oK_some, cell_eq, cellOf_some, List.getElem?_toArray, List.getElem?_cons_zero, List.getElem?_cons_succ, Nat.zero_add, Nat.add_zero, and_true, ia_54, ld_3, bt1, Int.toNat_zero, Int.toNat_one]
      refine legal16_ok ?_
      simp (disch := first | omega | (simp only [size_alloc, size_set, heap_dr] <;> omega) | assumption | exact oneC_slice | exact oneC_int | exact oneC_bool | exact oneC_ptr | exact oneC_iface | exact oneC_nil | exact oneC_str | exact oneC_map | exact oneC_func | rfl) only [and_true]
      refine num_ok (a := none) (he.kpNew kw1) (fun g h => by cases h) fun W2 k2 => ?_
      have bt2 := k2.blk bt1 (fun h => h)
      have hc : bankCode (D : Int) (S : Int) = 0 := by rw [code_num, hbe]; rfl
      rw [hc]
      have q5a := (kt.trans (k1.trans k2)).blk q5 (fun h => h)
      have q6a := (kt.trans (k1.trans k2)).blk q6 (fun h => h)
      simp (disch := first | omega | (simp only [size_alloc, size_set, heap_dr] <;> omega) | assumption | exact oneC_slice | exact oneC_int | exact oneC_bool | exact oneC_ptr | exact oneC_iface | exact oneC_nil | exact oneC_str | exact oneC_map | exact oneC_func | rfl) only [pick_bool, gs_false, bn_neq, oK_some, cell_eq, cellOf_some, heap_dr, List.getElem?_toArray, List.getElem?_cons_zero, List.getElem?_cons_succ, Nat.zero_add, Nat.add_zero, true_and, and_true, cond_false, eq_self, shr_eq, ia_54, ld_3, ia_77, ptr61_eql, bn_bool_neq4, num0, decide_true, Bool.not_true, Option.isNone_some, beq_self_eq_true, bt2, Int.toNat_zero, Int.toNat_one]
      refine rNew_ok (w := dr W2) hD16 hS256 fun W3 m k3 hR3 => ?_
      have k23 : Kp none_ W2 W3 := Kp.refl.dr.trans k3
      have q5b := k23.blk q5a (fun h => h)
      have q6b := k23.blk q6a (fun h => h)
      have s1 := k1.1
      have s2 := k2.1
      have s3 : W2.heap.size ≤ W3.heap.size := k23.1
      simp (disch := first | omega | (simp only [size_alloc, size_set, heap_dr] <;> omega) | assumption | exact oneC_slice | exact oneC_int | exact oneC_bool | exact oneC_ptr | exact oneC_iface | exact oneC_nil | exact oneC_str | exact oneC_map | exact oneC_func | rfl) only [bn_add, wrap64, oK_some, cell_eq, frozen_eq, cellOf_some, frozenOf_some, heap_set_ne, Nat.zero_add, Int.toNat_natCast, true_and, and_true, Bool.false_eq_true, if_false, eq_self, ia_77, st_61, ia_79, st_78, q5b, q6b, g5, g6]
      have ks : Kp (fun b => b = p5 ∨ b = p6) W3 ((W3.setCell ⟨p5, k, none⟩ (.pointer (some ⟨d, 0, none⟩))).setCell ⟨p6, k, none⟩ (.pointer (some ⟨m, 0, none⟩))) := (Kp.set Kp.refl (.inl (.inl rfl))).set (.inl (.inr rfl))
      have hR3' : RBankAt W3 m (bank0 D S) (fun b => W2.heap.size ≤ b) := hR3
      refine cont D S d m _ _ _ hD1 hD16 hS4 hS256 (((kt.ofNone).trans ((k1.ofNone).trans ((k2.ofNone).trans k23.ofNone))).trans ks) (((hB1.bound.kn k2).kn k23).kp ks fun b hb hx => by omega) (hR3'.kp ks fun b hb hx => by omega) (fun b hb => by omega) (fun b hb => by omega) (fun b h1 h2 => by omega) ?_ ?_
      · rw [heap_set_ne n56, heap_set_same, q5b]; rfl
      · rw [heap_set_same, heap_set_ne n56.symm, q6b]; rfl
  refine newk 0 z0 z1 #[.pointer none, .pointer none] #[.pointer none, .pointer none] _ _ wC (by omega) rfl rfl kAC b5 b6 rfl rfl fun D0 S0 d0 m0 W1 A0 B0 hD0 hD0' hS0 hS0' k1 hB0 hR0 hA0 hB0' hAB0 q5 q6 => ?_
  have kW1 : Kp none_ w W1 := kAC.trans' k1 fun x hx => .inr (by omega)
  have hw0 := kAC.1
  refine newk 1 z2 z3 _ _ _ _ W1 (by omega) rfl rfl kW1 q5 q6 rfl rfl fun D1 S1 d1 m1 W2 A1 B1 hD1 hD1' hS1 hS1' k2 hB1 hR1 hA1 hB1' hAB1 r5 r6 => ?_
  have kW2 : Kp none_ w W2 := kW1.trans' k2 fun x hx => .inr (by omega)
  have z1' := k1.1
  have hT : Two16 w W2 Z d0 m0 D0 S0 d1 m1 D1 S1 := by
    refine ⟨kW2, fun b hb => ?_, bank0 D0 S0, _, _, bank0 D1 S1, A1, B1, hB0.bound.kp k2 (fun b hb hx => ?_), hR0.bound.kp k2 (fun b hb hx => ?_), ⟨by simp [bank0], rfl⟩, hB1, hR1, ⟨by simp [bank0], rfl⟩, fun b hb => ?_, fun b x y => hAB0 b x.1 y.1, hAB1, fun b x y => ?_⟩
    · rcases hb with rfl | rfl
      · exact blk_lt r5
      · exact blk_lt r6
    · have := hA0 b hb.1; omega
    · have := hB0' b hb.1; omega
    · have hlo : wC.heap.size ≤ b := by
        rcases hb with (h | h) | (h | h)
        · exact hA0 b h.1
        · exact hB0' b h.1
        · have := hA1 b h; omega
        · have := hB1' b h; omega
      exact ⟨by omega, fun hz => by rcases hz with h | h <;> omega⟩
    · have hlt : b < W1.heap.size := by rcases x with x | x <;> exact x.2
      have hge : W1.heap.size ≤ b := by rcases y with y | y; exact hA1 b y; exact hB1' b y
      omega
  refine h0 _ _ _ _ _ _ ?_
  unfold F9_0
  simp (disch := first | omega | (simp only [size_alloc, size_set, heap_dr] <;> omega) | assumption | exact oneC_slice | exact oneC_int | exact oneC_bool | exact oneC_ptr | exact oneC_iface | exact oneC_nil | exact oneC_str | exact oneC_map | exact oneC_func | rfl) only [gs_dec_neg, bn_lss, and_true, len_69]
  exact script d0 m0 D0 S0 d1 m1 D1 S1 hD0' (by omega) hS0' hD1' (by omega) hS1' ops.length 0 W2 (by omega) hT r5 r6
end Go.Proofs.YtfiakplgifimkaaDoor
