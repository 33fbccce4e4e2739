/- The document's own drive, second part: New, Wipe, Write. No statement of the seat is proved in this text. -/
import Derived.Test.YtfiakplgifimkaaDoorRef
namespace Go.Proofs.YtfiakplgifimkaaDoor
open Go.TS
set_option maxRecDepth 20000

/-- A new drive of the document's. -/
theorem ref_made {W : World} {n m hb bb fb db : Nat} {F : Nat → Prop} (hn : n ≤ 256) (hm : m = W.heap.size) (h1 : W.heap[hb]? = some (.cells (zrs #[.slice none 0 0] n) 31 (0, 0))) (h2 : W.heap[bb]? = some (.cells (zrs #[.slice none 0 0] n) 31 (0, 0)))
    (h3 : W.heap[fb]? = some (.cells (zrs #[.bool false] n) 4 (0, 0))) (h4 : W.heap[db]? = some (.cells (zrs #[.bool false] n) 4 (0, 0))) (n1 : hb ≠ bb) (n2 : fb ≠ db) (f0 : F m) (f1 : F hb) (f2 : F bb) (f3 : F fb) (f4 : F db) :
    RefAt (W.alloc (.cells #[.slice (some ⟨hb, 0, none⟩) n n, .slice (some ⟨bb, 0, none⟩) n n, .slice (some ⟨fb, 0, none⟩) n n, .slice (some ⟨db, 0, none⟩) n n, .int .i64 0] 97)) m 0 (empties n) F := by
  subst hm
  have row : ∀ (x : Nat) (f : Cel → List UInt8), f emptyC = [] → W.heap[x]? = some (.cells (zrs #[.slice none 0 0] n) 31 (0, 0)) → RowB (W.alloc (.cells #[.slice (some ⟨hb, 0, none⟩) n n, .slice (some ⟨bb, 0, none⟩) n n, .slice (some ⟨fb, 0, none⟩) n n, .slice (some ⟨db, 0, none⟩) n n, .int .i64 0] 97)) x (empties n) f F := by
    intro x f hf hx
    refine ⟨_, (heap_alloc_lt (blk_lt hx)).trans hx, by rw [zrs_size]; simp [empties], fun i hi => ?_⟩
    have hi' : i < n := by simpa [empties] using hi
    have := zrs_get (z := #[.slice none 0 0]) (j := 0) hi' (by decide)
    refine ⟨.slice none 0 0, [], by simpa using this, Bo.nil, fun _ => ?_⟩
    simp [empties, hf]
  have flag : ∀ (f : Cel → Bool), f emptyC = false → flags (empties n) f = zrs #[.bool false] n := by
    intro f hf
    rw [zrs_one]
    unfold flags empties
    rw [List.map_replicate, hf]
  refine ⟨by kernel_rfl, by simpa [empties] using hn, hb, bb, fb, db, ?_, n1, n2, f0, f1, f2, f3, f4, row _ _ rfl h1, row _ _ rfl h2, ?_, ?_⟩
  · rw [heap_alloc_eq rfl]; simp [empties]
  · rw [heap_alloc_lt (blk_lt h3), h3, flag _ rfl]
  · rw [heap_alloc_lt (blk_lt h4), h4, flag _ rfl]
theorem refNew_ok {w : World} {n : Nat} {K : Value → World → Prop} (hn : n ≤ 256) (hK : ∀ w' m, Kp none_ w w' → RefAt w' m 0 (empties n) (fun b => w.heap.size ≤ b) → K (.pointer (some ⟨m, 0, none⟩)) w') : call Tryd.prog 23 #[.int .i64 n] w K := by
  have m94 : ∀ (w : World) (K : Value → World → Prop), mkS Tryd.prog 94 (.int .i64 n) (.int .i64 n) w K = K (.slice (some ⟨w.heap.size, 0, none⟩) n n) (w.alloc (.cells (zrs #[.slice none 0 0] n) 31)) := fun w K =>
    mkS_ok (e := 31) (sz := 1) (by_ := 24) (z := .slice none 0 0) (by kernel_rfl) (by kernel_rfl) (by kernel_rfl) (by kernel_rfl) rfl (by omega) (by omega) (by omega)
  have m95 : ∀ (w : World) (K : Value → World → Prop), mkS Tryd.prog 95 (.int .i64 n) (.int .i64 n) w K = K (.slice (some ⟨w.heap.size, 0, none⟩) n n) (w.alloc (.cells (zrs #[.bool false] n) 4)) := fun w K =>
    mkS_ok (e := 4) (sz := 1) (by_ := 1) (z := .bool false) (by kernel_rfl) (by kernel_rfl) (by kernel_rfl) (by kernel_rfl) rfl (by omega) (by omega) (by omega)
  refine F23_ok ?_
  unfold F23
  simp (disch := first | omega | (simp only [size_alloc, size_set, heap_dr] <;> omega) | assumption | exact oneC_slice | exact oneC_int | exact oneC_bool | exact oneC_ptr | exact oneC_iface | exact oneC_nil | exact oneC_str | exact oneC_map | exact oneC_func | rfl) only [size_alloc, heap_dr, bx_agg, true_and, and_true, eq_self, bld_97_0_1_2_3, m94, m95]
  repeat' apply And.intro
  all_goals
    refine hK _ _ (((((Kp.refl.dr.alloc _).alloc _).alloc _).alloc _).alloc _) ?_
    refine ref_made hn (by simp only [size_alloc, heap_dr]) (by first | (simp (disch := first | omega | (simp only [size_alloc, size_set, heap_dr] <;> omega) | assumption) only [heap_alloc_lt, heap_alloc_eq]; done) | (simp (disch := first | omega | (simp only [size_alloc, size_set, heap_dr] <;> omega) | assumption) only [heap_alloc_lt]; exact heap_alloc_eq rfl)) (by first | (simp (disch := first | omega | (simp only [size_alloc, size_set, heap_dr] <;> omega) | assumption) only [heap_alloc_lt, heap_alloc_eq]; done) | (simp (disch := first | omega | (simp only [size_alloc, size_set, heap_dr] <;> omega) | assumption) only [heap_alloc_lt]; exact heap_alloc_eq rfl)) (by first | (simp (disch := first | omega | (simp only [size_alloc, size_set, heap_dr] <;> omega) | assumption) only [heap_alloc_lt, heap_alloc_eq]; done) | (simp (disch := first | omega | (simp only [size_alloc, size_set, heap_dr] <;> omega) | assumption) only [heap_alloc_lt]; exact heap_alloc_eq rfl)) (by first | (simp (disch := first | omega | (simp only [size_alloc, size_set, heap_dr] <;> omega) | assumption) only [heap_alloc_lt, heap_alloc_eq]; done) | (simp (disch := first | omega | (simp only [size_alloc, size_set, heap_dr] <;> omega) | assumption) only [heap_alloc_lt]; exact heap_alloc_eq rfl)) (by omega) (by omega) (by omega) (by omega) (by omega) (by omega) (by omega)
theorem refWipe_ok {w : World} {m : Nat} {rd : Int} {cl : List Cel} {F : Nat → Prop} {K : Value → World → Prop} (h : RefAt w m rd cl F)
    (hK : ∀ w', Kp F w w' → RefAt w' m rd (empties cl.length) (fun b => F b ∨ w.heap.size ≤ b) → K (.tuple #[]) w') : call Tryd.prog 54 #[.pointer (some ⟨m, 0, none⟩)] w K := by
  obtain ⟨hb, bb, fb, db, h1, _, _, f0, _⟩ := h.ex
  have hml := blk_lt h1
  refine F54_ok ?_
  unfold F54
  simp (disch := first | omega | (simp only [size_alloc, size_set, heap_dr] <;> omega) | assumption | exact oneC_slice | exact oneC_int | exact oneC_bool | exact oneC_ptr | exact oneC_iface | exact oneC_nil | exact oneC_str | exact oneC_map | exact oneC_func | rfl) only [ck_ptr, oK_some, cell_eq, cellOf_some, List.getElem?_toArray, List.getElem?_cons_zero, List.getElem?_cons_succ, Nat.zero_add, and_true, fa_97_2, ld_95, len_95, h1]
  refine refNew_ok h.len fun w1 m1 hk1 hR1 => ?_
  have h1' := hk1.blk h1 (fun h => h)
  obtain ⟨hb1, bb1, fb1, db1, q1, q2, q3, g0, g1, g2, g3, g4, r1, r2, r3, r4⟩ := hR1.ex
  obtain ⟨hs, e1, _⟩ := id r1
  obtain ⟨hs', e2, _⟩ := id r2
  have hm1 := g0
  have hmm : m ≠ m1 := by omega
  have hmm' : m1 ≠ m := by omega
  simp (disch := first | omega | (simp only [size_alloc, size_set, heap_dr] <;> omega) | assumption | exact oneC_slice | exact oneC_int | exact oneC_bool | exact oneC_ptr | exact oneC_iface | exact oneC_nil | exact oneC_str | exact oneC_map | exact oneC_func | rfl) only [ck_ptr, oK_some, cell_eq, frozen_eq, cellOf_some, frozenOf_some, setOf_some, heap_set_same, heap_set_ne, stc, List.getElem?_toArray, List.getElem?_cons_zero, List.getElem?_cons_succ, List.setIfInBounds_toArray, List.set_cons_zero, List.set_cons_succ, Nat.zero_add, Nat.add_zero, and_true, Bool.false_eq_true, if_false, Nat.reduceAdd, fa_97_4, ld_3, st_3, ld_97, st_97, h1', q1]
  have hset : Kp (fun x => x = m ∨ x = m1) w1 ((((((w1.setCell ⟨m1, 4, none⟩ (.int .i64 rd)).setCell ⟨m, 0, none⟩ (.slice (some ⟨hb1, 0, none⟩) (empties cl.length).length (empties cl.length).length)).setCell ⟨m, 1, none⟩ (.slice (some ⟨bb1, 0, none⟩) (empties cl.length).length (empties cl.length).length)).setCell ⟨m, 2, none⟩ (.slice (some ⟨fb1, 0, none⟩) (empties cl.length).length (empties cl.length).length)).setCell ⟨m, 3, none⟩ (.slice (some ⟨db1, 0, none⟩) (empties cl.length).length (empties cl.length).length)).setCell ⟨m, 4, none⟩ (.int .i64 rd)) :=
    Kp.set (Kp.set (Kp.set (Kp.set (Kp.set (Kp.set Kp.refl (.inl (.inr rfl))) (.inl (.inl rfl))) (.inl (.inl rfl))) (.inl (.inl rfl))) (.inl (.inl rfl))) (.inl (.inl rfl))
  generalize hW : ((((((w1.setCell ⟨m1, 4, none⟩ (.int .i64 rd)).setCell ⟨m, 0, none⟩ (.slice (some ⟨hb1, 0, none⟩) (empties cl.length).length (empties cl.length).length)).setCell ⟨m, 1, none⟩ (.slice (some ⟨bb1, 0, none⟩) (empties cl.length).length (empties cl.length).length)).setCell ⟨m, 2, none⟩ (.slice (some ⟨fb1, 0, none⟩) (empties cl.length).length (empties cl.length).length)).setCell ⟨m, 3, none⟩ (.slice (some ⟨db1, 0, none⟩) (empties cl.length).length (empties cl.length).length)).setCell ⟨m, 4, none⟩ (.int .i64 rd)) = W at hset ⊢
  have n1 := blk_ne e1 q1 (by omega)
  have n2 := blk_ne e2 q1 (by omega)
  have n3 := blk_ne r3 q1 (by omega)
  have n4 := blk_ne r4 q1 (by omega)
  have hs1 := hk1.1
  have hty : ∀ b, (b = m ∨ b = m1) → ∀ cs, w1.heap[b]? ≠ some (.cells cs 5 (0, 0)) := by
    rintro b (rfl | rfl) cs h
    · rw [h1'] at h; cases h
    · rw [q1] at h; cases h
  refine hK W ((hk1.ofNone).trans' hset fun x hx => by rcases hx with rfl | rfl; exact .inl f0; exact .inr hm1) ⟨h.wr, hR1.len, hb1, bb1, fb1, db1, ?_, q2, q3, .inl f0, .inr g1, .inr g2, .inr g3, .inr g4, ?_, ?_, ?_, ?_⟩
  · rw [← hW, heap_set_same, heap_set_same, heap_set_same, heap_set_same, heap_set_same, heap_set_ne hmm, h1']
    rfl
  · exact (r1.kt hset (by omega) hty).mono fun b hb => .inr hb
  · exact (r2.kt hset (by omega) hty).mono fun b hb => .inr hb
  · exact hset.blk r3 (by omega)
  · exact hset.blk r4 (by omega)
end Go.Proofs.YtfiakplgifimkaaDoor
