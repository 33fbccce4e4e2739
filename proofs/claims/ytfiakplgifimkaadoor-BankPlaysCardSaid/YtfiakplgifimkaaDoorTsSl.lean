/- Slices cut, made and written: more laws over memory. No statement of the seat is proved in this text. -/
import Derived.Test.YtfiakplgifimkaaDoorTsMem
import Derived.Laws.Slices
import Derived.Laws.MakeOwn
import Derived.Laws.Small
namespace Go.TS
section
variable {P : Program} {w : World} {K : Value → World → Prop} {t : TypeId}

theorem elem_of {e : TypeId} (h : P.underlying t = some (.slice e)) : P.underlying t = some (.slice (P.elem t)) := by
  rw [h]; congr 2; unfold Program.elem; rw [h]
theorem elem_eq {e : TypeId} (h : P.underlying t = some (.slice e)) : P.elem t = e := by unfold Program.elem; rw [h]
theorem run_szW {n : Nat} {e : TypeId} (h : szB P e = some n) (w : World) : (sizeOf e).run P w = .ok n w := run_sz h
theorem add_any {a : Addr} : a.add 0 = a := by unfold Addr.add; rfl
theorem slc_h {e : TypeId} {s : Nat} {a : Option Addr} {len cap : Nat} {k : IntKind} {h : Int} (ht : P.underlying t = some (.slice e)) (hs : szB P e = some s) (h0 : 0 ≤ h) (h2 : h ≤ cap) :
    slc P t (.slice a len cap) none (some (.int k h)) none w K = K (.slice a h.toNat cap) w := by
  unfold slc
  apply sem_ok
  rw [run_sliceAt_slice w t _ _ _ _ (elem_of ht), run_slice_h w t a len cap (elem_of ht) k h h0 h2, elem_eq ht, run_sz hs]
  simp only [Result.andThen, sliced, Nat.zero_mul, Nat.sub_zero]
  have : (if cap = 0 then a else a.map fun x => x.add 0) = a := by
    split
    · rfl
    · cases a <;> simp [add_any]
  rw [this]
theorem slc_lh {e : TypeId} {s : Nat} {b o : Nat} {len cap : Nat} {k k' : IntKind} {l h : Int} (ht : P.underlying t = some (.slice e)) (hs : szB P e = some s) (h0 : 0 ≤ l) (h1 : l ≤ h) (h2 : h ≤ cap) :
    slc P t (.slice (some ⟨b, o, none⟩) len cap) (some (.int k l)) (some (.int k' h)) none w K = K (.slice (some ⟨b, if cap = l.toNat then o else o + l.toNat * s, none⟩) (h.toNat - l.toNat) (cap - l.toNat)) w := by
  unfold slc
  apply sem_ok
  rw [run_sliceAt_slice w t _ _ _ _ (elem_of ht), run_slice_lh w t _ len cap (elem_of ht) k k' l h h0 h1 h2, elem_eq ht, run_sz hs]
  simp only [Result.andThen, sliced, Option.map_some, add_block]
  split <;> rfl
theorem slc_l {e : TypeId} {s : Nat} {b o : Nat} {len cap : Nat} {k : IntKind} {l : Int} (ht : P.underlying t = some (.slice e)) (hs : szB P e = some s) (h0 : 0 ≤ l) (h1 : l ≤ len) :
    slc P t (.slice (some ⟨b, o, none⟩) len cap) (some (.int k l)) none none w K = K (.slice (some ⟨b, if cap = l.toNat then o else o + l.toNat * s, none⟩) (len - l.toNat) (cap - l.toNat)) w := by
  unfold slc
  apply sem_ok
  rw [run_sliceAt_slice w t _ _ _ _ (elem_of ht), run_slice_l w t _ len cap (elem_of ht) k l h0 h1, elem_eq ht, run_sz hs]
  simp only [Result.andThen, sliced, Option.map_some, add_block]
  split <;> rfl
theorem slc_lhm {e : TypeId} {s : Nat} {b o : Nat} {len cap : Nat} {k k' k2 : IntKind} {l h m : Int} (ht : P.underlying t = some (.slice e)) (hs : szB P e = some s) (h0 : 0 ≤ l) (h1 : l ≤ h) (h2 : h ≤ m) (h3 : m ≤ cap) :
    slc P t (.slice (some ⟨b, o, none⟩) len cap) (some (.int k l)) (some (.int k' h)) (some (.int k2 m)) w K = K (.slice (some ⟨b, if m.toNat = l.toNat then o else o + l.toNat * s, none⟩) (h.toNat - l.toNat) (m.toNat - l.toNat)) w := by
  unfold slc
  apply sem_ok
  rw [run_sliceAt_slice w t _ _ _ _ (elem_of ht), run_slice_lhm w t _ len cap (elem_of ht) k k' k2 l h m h0 h1 h2 h3, elem_eq ht, run_sz hs]
  simp only [Result.andThen, sliced, Option.map_some, add_block]
  split <;> rfl
theorem bCap_ok {e : TypeId} {ty : TypeId} {a : Option Addr} {n c : Nat} (h : P.underlying t = some (.slice e)) : bCap P #[t] ty [.slice a n c] w K = K (.int .i64 c) w := by
  unfold bCap
  apply sem_ok
  exact run_cap_slice w t ty a n c (elem_of h)
theorem bn_bool_eql {ox oy : Operand} {x y : Bool} (h : P.underlying t = some .bool) : bn P .eql t ox oy (.bool x) (.bool y) w K = K (.bool (x == y)) w := bn_of rfl (run_eql_bool w t x y h)
/-- make with room. -/
theorem mkS2_ok {e l c sz by_ : Nat} {z : Value} (h : P.underlying t = some (.slice e)) (hs : szB P e = some sz) (hz : zeroB P e = some z) (hb : bytesB P e = some by_) (hzs : z.cells.size = sz) (hlc : l ≤ c) (hfit : by_ * c ≤ 281474976710656) (hn : c ≤ 281474976710656) :
    mkS P t (.int .i64 l) (.int .i64 c) w K = K (.slice (some ⟨w.heap.size, 0, none⟩) l c) (w.alloc (.cells (madeCells z.cells (c * sz)) e)) := by
  obtain ⟨i, hi, h1, h2, h3⟩ := info_of hs hz hb
  unfold mkS
  apply sem_ok
  have := run_make w t e i z h hi h1 .i64 .i64 (l : Int) (c : Int) (by omega) (by omega) (by
    rw [h3]
    have : ((by_ * c : Nat) : Int) ≤ ((281474976710656 : Nat) : Int) := Int.ofNat_le.2 hfit
    rw [Int.natCast_mul] at this
    omega) (by omega)
  rw [this, h2]
  simp only [Int.toNat_natCast]
end

section
variable {w w' : World} {e sz n : Nat} {v : Value} {xs : List Value} {F G S : Nat → Prop}
/-- A cell of one's own, written. -/
theorem Own.setCell {b o c j : Nat} {x : Value} (h : Own w e sz (.slice (some ⟨b, o, none⟩) n c) n xs F) (hj : j < xs.length) (hx : oneC x = true) : Own (w.setCell ⟨b, o + j, none⟩ x) e sz (.slice (some ⟨b, o, none⟩) n c) n (xs.set j x) F := by
  obtain ⟨a, c', h1, h2, h3, h4, h5⟩ := h
  cases h1
  rcases h5 with ⟨h5, _⟩ | ⟨b', o', cs, h6, h7, h8, h9, h10⟩
  · cases h5
  · cases h6
    refine ⟨_, c, rfl, h2, by simpa using h3, fun y hy => ?_, .inr ⟨b, o, cs.setIfInBounds (o + j) x, rfl, h7, by rw [heap_set_same, h8]; rfl, by simpa using h9, fun i hi => ?_⟩⟩
    · rcases List.mem_or_eq_of_mem_set hy with hy | rfl
      · exact h4 y hy
      · exact hx
    · rw [List.length_set] at hi
      by_cases hij : i = j
      · subst hij
        have hlt : o + i < cs.size := by
          have := h10 i hi
          rw [List.getElem?_eq_getElem hi] at this
          exact (Array.getElem?_eq_some_iff.1 this).1
        rw [Array.getElem?_setIfInBounds_self_of_lt hlt, List.getElem?_set_self hi]
      · rw [Array.getElem?_setIfInBounds_ne (by omega), List.getElem?_set_ne (Ne.symm hij)]
        exact h10 i hi
/-- A part of a slice. -/
theorem Rd.cut {b o c l h : Nat} (hr : Rd w e sz (.slice (some ⟨b, o, none⟩) n c) n xs F) (h1 : l ≤ h) (h2 : h ≤ n) : Rd w e sz (.slice (some ⟨b, if c = l then o else o + l * sz, none⟩) (h - l) (c - l)) (h - l) ((xs.drop (l * sz)).take ((h - l) * sz)) F := by
  obtain ⟨a, c', e1, h3, h4, h5, h6⟩ := hr
  cases e1
  have hmul : h * sz ≤ n * sz := Nat.mul_le_mul_right _ h2
  have hmul2 : (h - l) * sz = h * sz - l * sz := Nat.sub_mul _ _ _
  have hmul3 : l * sz ≤ h * sz := Nat.mul_le_mul_right _ h1
  refine ⟨_, _, rfl, by omega, by rw [List.length_take, List.length_drop]; omega, fun x hx => h5 x (List.mem_of_mem_drop (List.mem_of_mem_take hx)), ?_⟩
  rcases h6 with rfl | ⟨b', o', cs, e', fr, e2, h7, h8, h9⟩
  · simp
  · cases e2
    by_cases hc : c = l
    · left
      have : h - l = 0 := by omega
      rw [this]; simp
    · right
      refine ⟨b, o + l * sz, cs, e', fr, by rw [if_neg hc], h7, h8, fun j hj => ?_⟩
      rw [List.length_take, List.length_drop] at hj
      rw [List.getElem?_take_of_lt (by omega), List.getElem?_drop, Nat.add_assoc]
      exact h9 _ (by omega)
theorem Own.cut {b o c l h : Nat} (hr : Own w e sz (.slice (some ⟨b, o, none⟩) n c) n xs F) (h1 : l ≤ h) (h2 : h ≤ n) : Own w e sz (.slice (some ⟨b, if c = l then o else o + l * sz, none⟩) (h - l) (c - l)) (h - l) ((xs.drop (l * sz)).take ((h - l) * sz)) F := by
  obtain ⟨a, c', e1, h3, h4, h5, h6⟩ := hr
  cases e1
  have hmul : h * sz ≤ n * sz := Nat.mul_le_mul_right _ h2
  have hmul2 : (h - l) * sz = h * sz - l * sz := Nat.sub_mul _ _ _
  have hmul3 : l * sz ≤ h * sz := Nat.mul_le_mul_right _ h1
  refine ⟨_, _, rfl, by omega, by rw [List.length_take, List.length_drop]; omega, fun x hx => h5 x (List.mem_of_mem_drop (List.mem_of_mem_take hx)), ?_⟩
  rcases h6 with ⟨h6, _⟩ | ⟨b', o', cs, e2, h7, h8, h9, h10⟩
  · cases h6
  · cases e2
    right
    have hmul4 : (c - l) * sz = c * sz - l * sz := Nat.sub_mul _ _ _
    have hmul5 : l * sz ≤ c * sz := Nat.mul_le_mul_right _ (by omega)
    by_cases hc : c = l
    · refine ⟨b, o, cs, by rw [if_pos hc], h7, h8, by omega, fun j hj => ?_⟩
      rw [List.length_take, List.length_drop] at hj
      have : h - l = 0 := by omega
      rw [this] at hj
      omega
    · refine ⟨b, o + l * sz, cs, by rw [if_neg hc], h7, h8, by omega, fun j hj => ?_⟩
      rw [List.length_take, List.length_drop] at hj
      rw [List.getElem?_take_of_lt (by omega), List.getElem?_drop, Nat.add_assoc]
      exact h10 _ (by omega)
/-- The first elements. -/
theorem Own.pre {a : Option Addr} {c k : Nat} (h : Own w e sz (.slice a n c) n xs F) (hk : k ≤ n) : Own w e sz (.slice a k c) k (xs.take (k * sz)) F := by
  obtain ⟨a', c', h1, h2, h3, h4, h5⟩ := h
  cases h1
  have hm : k * sz ≤ n * sz := Nat.mul_le_mul_right _ hk
  refine ⟨a, c, rfl, by omega, by rw [List.length_take]; omega, fun x hx => h4 x (List.mem_of_mem_take hx), h5.imp id fun ⟨b, o, cs, h6, h7, h8, h9, h10⟩ => ⟨b, o, cs, h6, h7, h8, h9, fun j hj => ?_⟩⟩
  rw [List.length_take] at hj
  rw [List.getElem?_take_of_lt (by omega)]
  exact h10 j (by omega)
theorem Rd.pre {a : Option Addr} {c k : Nat} (h : Rd w e sz (.slice a n c) n xs F) (hk : k ≤ n) : Rd w e sz (.slice a k c) k (xs.take (k * sz)) F := by
  obtain ⟨a', c', h1, h2, h3, h4, h5⟩ := h
  cases h1
  have hm : k * sz ≤ n * sz := Nat.mul_le_mul_right _ hk
  refine ⟨a, c, rfl, by omega, by rw [List.length_take]; omega, fun x hx => h4 x (List.mem_of_mem_take hx), ?_⟩
  rcases h5 with rfl | ⟨b, o, cs, e', fr, h6, h7, h8, h10⟩
  · simp
  · refine .inr ⟨b, o, cs, e', fr, h6, h7, h8, fun j hj => ?_⟩
    rw [List.length_take] at hj
    rw [List.getElem?_take_of_lt (by omega)]
    exact h10 j (by omega)
/-- A row just made, with room. -/
theorem Own.room {b c : Nat} {cs : Array Value} (hb : w.heap[b]? = some (.cells cs e (0, 0))) (hF : F b) (hl : cs.size = c * sz) : Own w e sz (.slice (some ⟨b, 0, none⟩) 0 c) 0 [] F :=
  ⟨_, c, rfl, Nat.zero_le _, by simp, by simp, .inr ⟨b, 0, cs, rfl, hF, hb, by omega, fun j hj => by simp at hj⟩⟩
end
end Go.TS
