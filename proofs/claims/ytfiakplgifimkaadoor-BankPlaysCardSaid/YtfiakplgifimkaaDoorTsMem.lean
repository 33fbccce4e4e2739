/- What memory holds, in this session's words: what is kept, slices that are read, slices of the call's own, append. No statement of the seat is proved in this text. -/
import Derived.Test.YtfiakplgifimkaaDoorTsSteps
import Derived.Deep.AppendSrc
namespace Go.TS

/-- All blocks but those of S stand; the heap has not shrunk; the outside is as it was. -/
structure Kp (S : Nat → Prop) (w w' : World) : Prop where
  sz : w.heap.size ≤ w'.heap.size
  at_ : ∀ b, b < w.heap.size → ¬ S b → w'.heap[b]? = w.heap[b]?
  os : w'.os = w.os
  out : w'.output = w.output
  tape : w'.tape = w.tape
def none_ : Nat → Prop := fun _ => False
theorem Kp.refl {S : Nat → Prop} {w : World} : Kp S w w := ⟨Nat.le_refl _, fun _ _ _ => rfl, rfl, rfl, rfl⟩
theorem Kp.trans {S : Nat → Prop} {a b c : World} (h : Kp S a b) (k : Kp S b c) : Kp S a c :=
  ⟨Nat.le_trans h.1 k.1, fun x hx hs => (k.2 x (Nat.lt_of_lt_of_le hx h.1) hs).trans (h.2 x hx hs), k.os.trans h.os, k.out.trans h.out, k.tape.trans h.tape⟩
/-- What is written later may be what is new since. -/
theorem Kp.trans' {S T : Nat → Prop} {a b c : World} (h : Kp S a b) (k : Kp T b c) (hT : ∀ x, T x → S x ∨ a.heap.size ≤ x) : Kp S a c :=
  ⟨Nat.le_trans h.1 k.1, fun x hx hs => (k.2 x (Nat.lt_of_lt_of_le hx h.1) (fun ht => (hT x ht).elim hs (fun h2 => by omega))).trans (h.2 x hx hs), k.os.trans h.os, k.out.trans h.out, k.tape.trans h.tape⟩
theorem Kp.mono {S T : Nat → Prop} {a b : World} (h : Kp S a b) (hS : ∀ x, S x → T x) : Kp T a b := ⟨h.1, fun x hx ht => h.2 x hx fun hs => ht (hS x hs), h.os, h.out, h.tape⟩
theorem Kp.ofNone {T : Nat → Prop} {a b : World} (h : Kp none_ a b) : Kp T a b := h.mono fun _ h => h.elim
theorem Kp.alloc {S : Nat → Prop} {a b : World} (h : Kp S a b) (o : Obj) : Kp S a (b.alloc o) :=
  h.trans (⟨by have := size_alloc (w := b) (o := o); omega, fun x hx _ => heap_alloc_lt hx, rfl, rfl, rfl⟩ : Kp S b (b.alloc o))
theorem Kp.dr {S : Nat → Prop} {a b : World} (h : Kp S a b) : Kp S a (dr b) := ⟨h.1, h.2, h.3, h.4, h.5⟩
theorem Kp.drew {S : Nat → Prop} {a b : World} (h : Kp S a b) : Kp S a b.drew := ⟨h.1, h.2, h.3, h.4, h.5⟩
theorem Kp.set {S : Nat → Prop} {a b : World} (h : Kp S a b) {g o : Nat} {v : Value} (hg : S g ∨ a.heap.size ≤ g) : Kp S a (b.setCell ⟨g, o, none⟩ v) :=
  h.trans' (T := fun x => x = g) ⟨by rw [size_set]; omega, fun x _ hx => heap_set_ne hx, rfl, rfl, rfl⟩ fun x hx => by rw [hx]; exact hg
theorem Kp.set1 {a : World} {g o : Nat} {v : Value} : Kp (fun x => x = g) a (a.setCell ⟨g, o, none⟩ v) := ⟨by rw [size_set]; omega, fun x _ hx => heap_set_ne hx, rfl, rfl, rfl⟩
/-- A new block, written at two places. -/
theorem Kp.new2 {a : World} {o : Obj} {i j : Nat} {x y : Value} : Kp none_ a (((a.alloc o).setCell ⟨a.heap.size, i, none⟩ x).setCell ⟨a.heap.size, j, none⟩ y) :=
  Kp.set (S := none_) (Kp.set (S := none_) (Kp.alloc Kp.refl _) (.inr (Nat.le_refl _))) (.inr (Nat.le_refl _))
theorem Kp.cells {S : Nat → Prop} {b : Nat} : ∀ {vs : List Value} {o : Nat} {a : World}, S b → Kp S a (a.setCells b o vs)
  | [], _, _, _ => Kp.refl
  | _ :: _, _, _, h => (Kp.set Kp.refl (.inl h)).trans (Kp.cells h)
theorem Kp.blk {S : Nat → Prop} {a b : World} (h : Kp S a b) {x : Nat} {o : Obj} (hx : a.heap[x]? = some o) (hs : ¬ S x) : b.heap[x]? = some o := (h.2 x (blk_lt hx) hs).trans hx

/-- n elements of type e, sz cells each, that can be read at v (in a row of whatever type); the block is among F. -/
def Rd (w : World) (e sz : Nat) (v : Value) (n : Nat) (xs : List Value) (F : Nat → Prop) : Prop :=
  ∃ a c, v = .slice a n c ∧ n ≤ c ∧ xs.length = n * sz ∧ (∀ x ∈ xs, oneC x = true) ∧
    (xs = [] ∨ ∃ b o cs e' fr, a = some ⟨b, o, none⟩ ∧ F b ∧ w.heap[b]? = some (.cells cs e' fr) ∧ ∀ j, j < xs.length → cs[o + j]? = xs[j]?)
/-- A slice of one's own: it may be written up to its capacity. -/
def Own (w : World) (e sz : Nat) (v : Value) (n : Nat) (xs : List Value) (F : Nat → Prop) : Prop :=
  ∃ a c, v = .slice a n c ∧ n ≤ c ∧ xs.length = n * sz ∧ (∀ x ∈ xs, oneC x = true) ∧
    ((a = none ∧ c = 0) ∨ ∃ b o cs, a = some ⟨b, o, none⟩ ∧ F b ∧ w.heap[b]? = some (.cells cs e (0, 0)) ∧ o + c * sz ≤ cs.size ∧ ∀ j, j < xs.length → cs[o + j]? = xs[j]?)

section
variable {w w' : World} {e sz n : Nat} {v : Value} {xs : List Value} {F G S : Nat → Prop}
theorem Own.rd (h : Own w e sz v n xs F) : Rd w e sz v n xs F := by
  obtain ⟨a, c, h1, h2, h3, h4, h5⟩ := h
  refine ⟨a, c, h1, h2, h3, h4, ?_⟩
  rcases h5 with ⟨_, h6⟩ | ⟨b, o, cs, h6, h7, h8, _, h9⟩
  · refine .inl (List.eq_nil_of_length_eq_zero ?_)
    have : n = 0 := by omega
    rw [h3, this, Nat.zero_mul]
  · exact .inr ⟨b, o, cs, _, _, h6, h7, h8, h9⟩
theorem Rd.mono (h : Rd w e sz v n xs F) (hF : ∀ b, F b → G b) : Rd w e sz v n xs G := by
  obtain ⟨a, c, h1, h2, h3, h4, h5⟩ := h
  exact ⟨a, c, h1, h2, h3, h4, h5.imp id fun ⟨b, o, cs, e', fr, h6, h7, h8⟩ => ⟨b, o, cs, e', fr, h6, hF b h7, h8⟩⟩
theorem Own.mono (h : Own w e sz v n xs F) (hF : ∀ b, F b → G b) : Own w e sz v n xs G := by
  obtain ⟨a, c, h1, h2, h3, h4, h5⟩ := h
  exact ⟨a, c, h1, h2, h3, h4, h5.imp id fun ⟨b, o, cs, h6, h7, h8⟩ => ⟨b, o, cs, h6, hF b h7, h8⟩⟩
/-- A store into a block of another element type. -/
theorem Own.set_other (h : Own w e sz v n xs F) {g o e' : Nat} {cs : Array Value} {fr : Nat × Nat} {x : Value} (hg : w.heap[g]? = some (.cells cs e' fr)) (he : e' ≠ e) : Own (w.setCell ⟨g, o, none⟩ x) e sz v n xs F := by
  obtain ⟨a, c, h1, h2, h3, h4, h5⟩ := h
  refine ⟨a, c, h1, h2, h3, h4, h5.imp id fun ⟨b, o', cs', h6, h7, h8, h9⟩ => ⟨b, o', cs', h6, h7, ?_, h9⟩⟩
  rw [heap_set_ne]
  · exact h8
  · rintro rfl
    rw [hg] at h8
    cases h8
    exact he rfl
/-- What a slice reads hangs on its own block alone. -/
theorem Rd.frame (h : Rd w e sz v n xs F) (hk : ∀ b, F b → b < w.heap.size → w'.heap[b]? = w.heap[b]?) : Rd w' e sz v n xs F := by
  obtain ⟨a, c, h1, h2, h3, h4, h5⟩ := h
  exact ⟨a, c, h1, h2, h3, h4, h5.imp id fun ⟨b, o, cs, e', fr, h6, h7, h8, h9⟩ => ⟨b, o, cs, e', fr, h6, h7, (hk b h7 (blk_lt h8)).trans h8, h9⟩⟩
theorem Own.frame (h : Own w e sz v n xs F) (hk : ∀ b, F b → b < w.heap.size → w'.heap[b]? = w.heap[b]?) : Own w' e sz v n xs F := by
  obtain ⟨a, c, h1, h2, h3, h4, h5⟩ := h
  exact ⟨a, c, h1, h2, h3, h4, h5.imp id fun ⟨b, o, cs, h6, h7, h8, h9⟩ => ⟨b, o, cs, h6, h7, (hk b h7 (blk_lt h8)).trans h8, h9⟩⟩
theorem Rd.kp (h : Rd w e sz v n xs F) (hk : Kp S w w') (hd : ∀ b, F b → ¬ S b) : Rd w' e sz v n xs F := h.frame fun b hb hl => hk.2 b hl (hd b hb)
theorem Own.kp (h : Own w e sz v n xs F) (hk : Kp S w w') (hd : ∀ b, F b → ¬ S b) : Own w' e sz v n xs F := h.frame fun b hb hl => hk.2 b hl (hd b hb)
theorem Rd.kn (h : Rd w e sz v n xs F) (hk : Kp none_ w w') : Rd w' e sz v n xs F := h.kp hk fun _ _ h => h
theorem Own.kn (h : Own w e sz v n xs F) (hk : Kp none_ w w') : Own w' e sz v n xs F := h.kp hk fun _ _ h => h
/-- What is written are blocks of another kind. -/
theorem Own.kt (h : Own w e sz v n xs F) (hk : Kp S w w') (hS : ∀ b, S b → ∀ cs, w.heap[b]? ≠ some (.cells cs e (0, 0))) : Own w' e sz v n xs F := by
  obtain ⟨a, c, h1, h2, h3, h4, h5⟩ := h
  exact ⟨a, c, h1, h2, h3, h4, h5.imp id fun ⟨b, o, cs, h6, h7, h8, h9⟩ => ⟨b, o, cs, h6, h7, hk.blk h8 fun hs => hS b hs cs h8, h9⟩⟩
/-- The block may be said to be an old one. -/
theorem Rd.bound (h : Rd w e sz v n xs F) : Rd w e sz v n xs (fun b => F b ∧ b < w.heap.size) := by
  obtain ⟨a, c, h1, h2, h3, h4, h5⟩ := h
  exact ⟨a, c, h1, h2, h3, h4, h5.imp id fun ⟨b, o, cs, e', fr, h6, h7, h8⟩ => ⟨b, o, cs, e', fr, h6, ⟨h7, blk_lt h8.1⟩, h8⟩⟩
theorem Own.bound (h : Own w e sz v n xs F) : Own w e sz v n xs (fun b => F b ∧ b < w.heap.size) := by
  obtain ⟨a, c, h1, h2, h3, h4, h5⟩ := h
  exact ⟨a, c, h1, h2, h3, h4, h5.imp id fun ⟨b, o, cs, h6, h7, h8⟩ => ⟨b, o, cs, h6, ⟨h7, blk_lt h8.1⟩, h8⟩⟩
theorem Own.nil : Own w e sz (.slice none 0 0) 0 [] F := ⟨none, 0, rfl, Nat.le_refl _, by simp, by simp, .inl ⟨rfl, rfl⟩⟩
theorem Rd.nil {c : Nat} {a : Option Addr} : Rd w e sz (.slice a 0 c) 0 [] F := ⟨a, c, rfl, Nat.zero_le _, by simp, by simp, .inl rfl⟩
/-- A row just made. -/
theorem Own.made {b : Nat} {cs : Array Value} (hb : w.heap[b]? = some (.cells cs e (0, 0))) (hF : F b) (hl : cs.size = n * sz) (h1 : ∀ x ∈ cs.toList, oneC x = true) : Own w e sz (.slice (some ⟨b, 0, none⟩) n n) n cs.toList F :=
  ⟨_, n, rfl, Nat.le_refl _, by simpa using hl, h1, .inr ⟨b, 0, cs, rfl, hF, hb, by omega, fun j _ => by simp⟩⟩
/-- The cell of an element. -/
theorem Rd.cell {b o n' c : Nat} (h : Rd w e sz (.slice (some ⟨b, o, none⟩) n' c) n xs F) {j : Nat} {x : Value} (hx : xs[j]? = some x) : cellOf w.heap[b]? (o + j) = some x := by
  obtain ⟨a, c', h1, h2, h3, h4, h5⟩ := h
  have hj := (List.getElem?_eq_some_iff.1 hx).1
  rcases h5 with rfl | ⟨b', o', cs, e', fr, h6, h7, h8, h9⟩
  · simp at hj
  · cases h1
    cases h6
    rw [h8]
    exact (h9 j hj).trans hx

/-- A slice that holds something. -/
theorem Rd.open_ (h : Rd w e sz v n xs F) (hn : xs ≠ []) : ∃ b o c cs e' fr, v = .slice (some ⟨b, o, none⟩) n c ∧ n ≤ c ∧ F b ∧ b < w.heap.size ∧ w.heap[b]? = some (.cells cs e' fr) ∧ ∀ j, j < xs.length → cs[o + j]? = xs[j]? := by
  obtain ⟨a, c, h1, h2, h3, h4, h5⟩ := h
  rcases h5 with rfl | ⟨b, o, cs, e', fr, rfl, h7, h8, h9⟩
  · exact absurd rfl hn
  · exact ⟨b, o, c, cs, e', fr, h1, h2, h7, blk_lt h8, h8, h9⟩
theorem Own.open_ (h : Own w e sz v n xs F) (hn : xs ≠ []) : ∃ b o c cs, v = .slice (some ⟨b, o, none⟩) n c ∧ n ≤ c ∧ F b ∧ b < w.heap.size ∧ w.heap[b]? = some (.cells cs e (0, 0)) ∧ o + c * sz ≤ cs.size ∧ ∀ j, j < xs.length → cs[o + j]? = xs[j]? := by
  obtain ⟨a, c, h1, h2, h3, h4, h5⟩ := h
  rcases h5 with ⟨rfl, rfl⟩ | ⟨b, o, cs, rfl, h7, h8, h9, h10⟩
  · have : n = 0 := by omega
    subst this
    exact absurd (List.eq_nil_of_length_eq_zero (by simpa using h3)) hn
  · exact ⟨b, o, c, cs, h1, h2, h7, blk_lt h8, h8, h9, h10⟩
theorem Rd.val (h : Rd w e sz v n xs F) : ∃ a c, v = .slice a n c := by obtain ⟨a, c, h, _⟩ := h; exact ⟨a, c, h⟩
theorem Own.val (h : Own w e sz v n xs F) : ∃ a c, v = .slice a n c := by obtain ⟨a, c, h, _⟩ := h; exact ⟨a, c, h⟩
theorem Rd.one (h : Rd w e sz v n xs F) : oneC v = true := by obtain ⟨a, c, rfl, _⟩ := h; rfl
theorem Own.one (h : Own w e sz v n xs F) : oneC v = true := by obtain ⟨a, c, rfl, _⟩ := h; rfl
theorem oneCell_of {v : Value} (h : oneC v = true) : v.oneCell' = true := by cases v <;> first | rfl | cases h

theorem heap_setCells_same {b : Nat} {e : TypeId} {fr : Nat × Nat} : ∀ (vs : List Value) (o : Nat) (w : World) (cs : Array Value), w.heap[b]? = some (.cells cs e fr) →
    ∃ cs' : Array Value, (w.setCells b o vs).heap[b]? = some (.cells cs' e fr) ∧ cs'.size = cs.size ∧ (∀ j, o ≤ j → j < o + vs.length → j < cs.size → cs'[j]? = vs[j - o]?) ∧ ∀ j, j < o ∨ o + vs.length ≤ j → cs'[j]? = cs[j]?
  | [], o, w, cs, h => ⟨cs, h, rfl, fun j h1 h2 _ => by simp at h2; omega, fun _ _ => rfl⟩
  | v :: r, o, w, cs, h => by
    have h1 : (w.setCell ⟨b, o, none⟩ v).heap[b]? = some (.cells (cs.setIfInBounds o v) e fr) := by rw [heap_set_same, h]; rfl
    obtain ⟨cs', g1, g2, g3, g4⟩ := heap_setCells_same r (o + 1) _ _ h1
    refine ⟨cs', g1, by simpa using g2, fun j hj1 hj2 hj3 => ?_, fun j hj => ?_⟩
    · by_cases hjo : j = o
      · subst hjo
        rw [g4 j (.inl (by omega))]
        simp [hj3]
      · rw [g3 j (by omega) (by simp at hj2; omega) (by simpa using hj3)]
        rw [show j - o = (j - (o + 1)) + 1 from by omega]
        simp
    · rw [g4 j (by simp at hj; omega)]
      rw [Array.getElem?_setIfInBounds_ne (by simp at hj; omega)]

def bytesB (P : Program) (t : TypeId) : Option Nat := (P.info? t).map (·.bytes)
theorem info_of {P : Program} {t sz by_ : Nat} {z : Value} (hs : szB P t = some sz) (hz : zeroB P t = some z) (hb : bytesB P t = some by_) : ∃ i, P.info? t = some i ∧ i.zero = some z ∧ i.size = sz ∧ i.bytes = by_ := by
  unfold szB at hs
  unfold zeroB at hz
  unfold bytesB at hb
  cases hi : P.info? t with
  | none => rw [hi] at hs; cases hs
  | some i =>
    rw [hi] at hs hz hb
    exact ⟨i, rfl, hz, Option.some.inj hs, Option.some.inj hb⟩
/-- What an append to a slice of one's own leaves. -/
theorem app_ok_i {P : Program} {K : Value → World → Prop} {t tx ty m : Nat} {x : Value} {ys : List Value} {i : TypeInfo} {z : Value} (ht : P.underlying t = some (.slice e)) (hx : P.underlying tx = some (.slice e)) (hi : P.info? e = some i) (hz : i.zero = some z)
    (hsz : i.size = sz) (hzs : z.cells.size = sz) (ho : Own w e sz v n xs F) (hr : Rd w e sz x m ys G) (hfit : (n + m) * i.bytes ≤ 140737488355328) (hmax : n + m ≤ 9223372036854775807) (hpos : 0 < sz)
    (hK : ∀ v' w', Kp F w w' → Own w' e sz v' (n + m) (xs ++ ys) (fun b => F b ∨ w.heap.size ≤ b) → K v' w') : bAppend P #[t, tx] ty [v, x] w K := by
  obtain ⟨a, c, rfl, h2, h3, h4, h5⟩ := ho
  obtain ⟨a2, c2, rfl, g2, g3, g4, g5⟩ := hr
  have hsrc : Src P i.size tx (.slice a2 m c2) m ys w := by
    rcases g5 with hy | ⟨b, o, cs, e', fr, rfl, g7, g8, g9⟩
    · have hm0 : m = 0 := by
        rw [hy, List.length_nil] at g3
        rcases Nat.eq_zero_or_pos m with h | h
        · exact h
        · have := Nat.mul_pos h hpos
          omega
      subst hy hm0
      have hc : ∀ W : World, (Builtin.firstCells i.size 0 (.slice a2 0 c2)).run P W = .ok #[] W := fun W => by
        cases a2 with
        | none => exact run_firstCells_none W _ _ _ _
        | some a2 => exact run_firstCells_some W _ _ a2 _ _ [] (by simp) (by simp)
      exact ⟨.inl ⟨e, hx⟩, fun _ => rfl, hc w, hc w.drew, by simp, by simp⟩
    · rw [hsz]
      exact Src.ofSlice w hx ⟨b, o, none⟩ m c2 ys g3 (fun j u hj => by
        have hl := (List.getElem?_eq_some_iff.1 hj).1
        rw [add_block, cell_eq, g8]
        exact (g9 j hl).trans hj) (fun u hu => oneCell_of (g4 u hu))
  unfold bAppend
  by_cases hroom : n + m ≤ c
  · rcases h5 with ⟨rfl, rfl⟩ | ⟨b, o, cs, rfl, h7, h8, h9, h10⟩
    · -- nothing in a nil slice
      have hn0 : n = 0 := by omega
      have hm0 : m = 0 := by omega
      subst hn0 hm0
      have hx0 : xs = [] := List.eq_nil_of_length_eq_zero (by simpa using h3)
      have hy0 : ys = [] := List.eq_nil_of_length_eq_zero (by simpa using g3)
      subst hx0 hy0
      rw [sem_ok (v := .slice none 0 0) (w' := w)]
      · exact hK _ _ .refl (Own.nil)
      · rcases hsrc.kind with ⟨e', hk⟩ | hk <;> simp [Builtin.append_, run_underlying ht, run_underlying hk, sizeOf, typeInfo, hi, hsrc.len, hsrc.cells]
    · have hbound : (n + m) * sz ≤ c * sz := Nat.mul_le_mul_right sz hroom
      have hsplit : (n + m) * sz = n * sz + m * sz := Nat.add_mul n m sz
      have hcell : ∀ j, j < ys.length → (w.cell? ⟨b, o + n * i.size + j, none⟩).isSome = true := fun j hj => by
        rw [cell_eq, h8, hsz]
        show (cs[o + n * sz + j]?).isSome = true
        rw [Array.getElem?_eq_getElem (by omega)]
        rfl
      have hfz : ∀ j, j < ys.length → w.frozen? ⟨b, o + n * i.size + j, none⟩ = false := fun j hj => by
        rw [frozen_eq, h8]; exact frozenOf_some
      rw [sem_ok (run_append_room_src w t tx ty e i ht hi b o n c _ m ys hsrc hroom hcell hfz), hsz]
      obtain ⟨cs', q1, q2, q3, q4⟩ := heap_setCells_same ys (o + n * sz) w cs h8
      refine hK _ _ (Kp.cells h7) ⟨_, c, rfl, hroom, by rw [List.length_append, h3, g3, hsplit], ?_, .inr ⟨b, o, cs', rfl, .inl h7, q1, by omega, fun j hj => ?_⟩⟩
      · intro u hu
        rcases List.mem_append.1 hu with h | h
        · exact h4 u h
        · exact g4 u h
      · rcases Nat.lt_or_ge j xs.length with hj2 | hj2
        · rw [q4 (o + j) (.inl (by omega)), h10 j hj2, List.getElem?_append_left hj2]
        · simp only [List.length_append] at hj
          rw [q3 (o + j) (by omega) (by omega) (by omega), List.getElem?_append_right hj2]
          congr 1
          omega
  · have hold : (Builtin.firstCells i.size n (.slice a n c)).run P w.drew = .ok xs.toArray w.drew := by
      rcases h5 with ⟨rfl, rfl⟩ | ⟨b, o, cs, rfl, h7, h8, h9, h10⟩
      · have hn0 : n = 0 := by omega
        subst hn0
        have hx0 : xs = [] := List.eq_nil_of_length_eq_zero (by simpa using h3)
        subst hx0
        exact run_firstCells_none _ _ _ _ _
      · exact run_firstCells_some _ _ _ _ _ _ xs (by rw [h3, hsz]) (fun j u hj => by
          have hl := (List.getElem?_eq_some_iff.1 hj).1
          rw [add_block, cell_eq]
          show cellOf w.heap[b]? (o + j) = some u
          rw [h8]
          exact (h10 j hl).trans hj)
    have hfits := growslice_fits (need := n + m) (old := c) (bytes := i.bytes) (by omega) hfit
    rw [sem_ok (run_append_grow_src w t tx ty e i z ht hi hz a n c xs hold _ m ys hsrc (by omega) (by omega) hfits)]
    have hge := grownCap_ge w (n + m) c e
    have hlen : (xs ++ ys).length = (n + m) * sz := by rw [List.length_append, h3, g3, Nat.add_mul]
    have hgK : Kp F w (w.drew.alloc (.cells ((xs ++ ys).toArray ++ Builtin.zeroCells z.cells (grownCap w (n + m) c e - (n + m))) e)) := Kp.alloc (Kp.drew Kp.refl) _
    refine hK _ _ hgK ⟨_, _, rfl, hge, hlen, ?_, .inr ⟨w.heap.size, 0, _, rfl, .inr (Nat.le_refl _), heap_alloc_eq (w := w.drew) rfl, ?_, fun j hj => ?_⟩⟩
    · intro u hu
      rcases List.mem_append.1 hu with h | h
      · exact h4 u h
      · exact g4 u h
    · rw [Array.size_append, size_zeroCells, hzs, List.size_toArray, hlen]
      have : (n + m) * sz + (grownCap w (n + m) c e - (n + m)) * sz = grownCap w (n + m) c e * sz := by rw [← Nat.add_mul]; congr 1; omega
      omega
    · rw [Nat.zero_add, Array.getElem?_append_left (by rw [List.size_toArray]; exact hj), List.getElem?_toArray]
end

section
variable {P : Program} {w : World} {K : Value → World → Prop} {t : TypeId}
theorem app_ok {e tx ty sz n m by_ : Nat} {v x z : Value} {xs ys : List Value} {F G : Nat → Prop} (ht : P.underlying t = some (.slice e)) (hx : P.underlying tx = some (.slice e)) (hs : szB P e = some sz) (hz : zeroB P e = some z) (hb : bytesB P e = some by_)
    (hzs : z.cells.size = sz) (hpos : 0 < sz) (ho : Own w e sz v n xs F) (hr : Rd w e sz x m ys G) (hfit : (n + m) * by_ ≤ 140737488355328) (hmax : n + m ≤ 9223372036854775807)
    (hK : ∀ v' w', Kp F w w' → Own w' e sz v' (n + m) (xs ++ ys) (fun b => F b ∨ w.heap.size ≤ b) → K v' w') : bAppend P #[t, tx] ty [v, x] w K := by
  obtain ⟨i, hi, h1, h2, h3⟩ := info_of hs hz hb
  exact app_ok_i ht hx hi h1 h2 hzs ho hr (by rw [h3]; exact hfit) hmax hpos hK
theorem bn_slice_nil {e n c : Nat} {a : Option Addr} {ox oy : Operand} (h : P.underlying t = some (.slice e)) : bn P .eql t ox oy (.slice a n c) (.slice none 0 0) w K = K (.bool a.isNone) w := by
  have hd : ∀ d : Nat, (Op.equalIn (d + 1) t (.slice a n c) (.slice none 0 0)).run P w = .ok a.isNone w := fun d => by cases a <;> simp [Op.equalIn, run_underlying h]
  refine bn_of rfl ?_
  simp only [binOp]
  simp [Op.equal, Op.maxDepth, hd 9999]
theorem bn_ptr_nil {e : Nat} {a : Option Addr} {ox oy : Operand} (h : P.underlying t = some (.pointer e)) : bn P .eql t ox oy (.pointer a) (.pointer none) w K = K (.bool a.isNone) w := by
  have hd : ∀ d : Nat, (Op.equalIn (d + 1) t (.pointer a) (.pointer none)).run P w = .ok a.isNone w := fun d => by cases a <;> simp [Op.equalIn, run_underlying h]
  refine bn_of (by cases a <;> rfl) ?_
  simp only [binOp]
  cases a <;> simp [Op.equal, Op.maxDepth, hd 9999]
theorem bn_ptr_nnil {e : Nat} {a : Option Addr} {ox oy : Operand} (h : P.underlying t = some (.pointer e)) : bn P .neq t ox oy (.pointer a) (.pointer none) w K = K (.bool (!a.isNone)) w := by
  have hd : ∀ d : Nat, (Op.equalIn (d + 1) t (.pointer a) (.pointer none)).run P w = .ok a.isNone w := fun d => by cases a <;> simp [Op.equalIn, run_underlying h]
  refine bn_of (by cases a <;> rfl) ?_
  simp only [binOp]
  cases a <;> simp [Op.equal, Op.maxDepth, hd 9999]
theorem bsl_0 {e n : Nat} (h : P.underlying t = some (.slice e)) (hs : szB P e = some n) : bsl P t 0 [] w K = K (.slice (some ⟨w.heap.size, 0, none⟩) 0 0) (w.alloc (.cells #[] e)) := by
  unfold bsl
  apply sem_ok
  unfold Instr.buildSlice
  rw [Sem.run_bind, run_und h]
  simp only [Result.andThen]
  rw [Sem.run_bind, run_sz hs]
  simp only [Result.andThen, Nat.zero_mul]
  have e0 : (Array.map (fun x : Nat => (#[] : Array Value)[x % (#[] : Array Value).size]!) (Array.range 0)) = #[] := by simp
  simp only [show ¬ (0 > 2 ^ 24) from by omega, if_false, if_true, pure_bind, e0, Instr.fill]
  rfl
/-- n zero elements, as cells. -/
def zrs (z : Array Value) (n : Nat) : Array Value := (Array.range (n * z.size)).map fun i => z[i % z.size]!
theorem zrs_size {z : Array Value} {n : Nat} : (zrs z n).size = n * z.size := by simp [zrs]
theorem zrs_get {z : Array Value} {n i j : Nat} (hi : i < n) (hj : j < z.size) : (zrs z n)[i * z.size + j]? = z[j]? := by
  have h1 : i * z.size + j < n * z.size := by
    have : (i + 1) * z.size ≤ n * z.size := Nat.mul_le_mul_right _ hi
    have h2 : (i + 1) * z.size = i * z.size + z.size := by rw [Nat.add_mul, Nat.one_mul]
    omega
  unfold zrs
  rw [Array.getElem?_map, Array.getElem?_range]
  simp only [h1, if_true, Option.map_some]
  rw [Nat.mul_comm, Nat.mul_add_mod, Nat.mod_eq_of_lt hj]
  rw [Array.getElem!_eq_getD, Array.getD_eq_getD_getElem?, Array.getElem?_eq_getElem hj]
  rfl
theorem mkS_ok_i {e n : Nat} {z : Value} {i : TypeInfo} (h : P.underlying t = some (.slice e)) (hi : P.info? e = some i) (hz : i.zero = some z) (hs : z.cells.size = i.size) (hpos : 0 < i.size) (hb : i.bytes * n ≤ 281474976710656) (hn : n ≤ 281474976710656) :
    mkS P t (.int .i64 n) (.int .i64 n) w K = K (.slice (some ⟨w.heap.size, 0, none⟩) n n) (w.alloc (.cells (zrs z.cells n) e)) := by
  have hw : IntKind.i64.wrap (n : Int) = n := wrap64 (by omega) (by omega)
  have hbb : ¬ ((i.bytes : Int) * (n : Int) > 2 ^ 48) := by
    have : ((i.bytes * n : Nat) : Int) ≤ ((281474976710656 : Nat) : Int) := Int.ofNat_le.2 hb
    rw [Int.natCast_mul] at this
    omega
  unfold mkS
  apply sem_ok
  unfold Instr.makeSlice
  rw [Sem.run_bind, run_und h]
  simp only [Result.andThen, asInt, asIntOf, pure_bind]
  rw [Sem.run_bind, run_typeInfo _ hi]
  simp only [Result.andThen, hw]
  have h1 : ¬ ((n : Int) < 0) := by omega
  have h2 : ¬ ((n : Int) > (n : Int)) := by omega
  simp only [h1, hbb, h2, decide_false, Bool.or_false, Bool.false_eq_true, if_false]
  rw [Sem.run_bind]
  have hask : ∀ b w', ∃ w'', (askRoom b).run P w' = .ok () w'' ∧ w'' = w' := fun b w' => by unfold askRoom; split <;> exact ⟨_, rfl, rfl⟩
  obtain ⟨w'', ha, rfl⟩ := hask ((n : Int).toNat * i.bytes) w
  rw [ha]
  simp only [Result.andThen, Int.toNat_natCast]
  have hsz : szB P e = some i.size := by unfold szB; rw [hi]; rfl
  have hzz : zeroB P e = some z := by unfold zeroB; rw [hi]; exact hz
  rw [Sem.run_bind, run_sz hsz]
  simp only [Result.andThen]
  by_cases h0 : n * i.size = 0
  · have hn0 : n = 0 := by
      rcases Nat.eq_zero_or_pos n with h | h
      · exact h
      · have := Nat.mul_pos h hpos; omega
    subst hn0
    rw [if_pos h0]
    have e1 : ∀ f : Nat → Value, Array.map f (Array.range 0) = #[] := fun f => by simp
    simp [Result.andThen, newRow, zrs]
    rw [e1, e1]
  · rw [if_neg h0]
    simp only [Sem.run_bind, run_zero hzz, Result.andThen, Sem.run_pure, newRow, zrs, hs]
    rfl
theorem mkS_ok {e n sz by_ : Nat} {z : Value} (h : P.underlying t = some (.slice e)) (hs : szB P e = some sz) (hz : zeroB P e = some z) (hb : bytesB P e = some by_) (hzs : z.cells.size = sz) (hpos : 0 < sz) (hfit : by_ * n ≤ 281474976710656) (hn : n ≤ 281474976710656) :
    mkS P t (.int .i64 n) (.int .i64 n) w K = K (.slice (some ⟨w.heap.size, 0, none⟩) n n) (w.alloc (.cells (zrs z.cells n) e)) := by
  obtain ⟨i, hi, h1, h2, h3⟩ := info_of hs hz hb
  exact mkS_ok_i h hi h1 (by rw [h2]; exact hzs) (by rw [h2]; exact hpos) (by rw [h3]; exact hfit) hn
end
end Go.TS
