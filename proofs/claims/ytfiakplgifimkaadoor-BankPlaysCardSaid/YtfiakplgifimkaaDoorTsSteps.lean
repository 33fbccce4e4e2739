/- Step laws of this session: what single operations come to, as equations over the texts' words. No statement of the seat is proved in this text. -/
import Derived.Test.YtfiakplgifimkaaDoorTsOps
import Derived.Laws.World
import Derived.Laws.Entries
import Derived.ChangeKeysEq
namespace Go.TS

def oK {α : Type} (o : Option α) (f : α → Prop) (n : Prop) : Prop := match o with | some v => f v | none => n
theorem oK_some {α : Type} {v : α} {f : α → Prop} {n : Prop} : oK (some v) f n = f v := nr rfl
def oneC : Value → Bool
  | .agg _ => false
  | .tuple _ => false
  | _ => true
theorem oneC_slice {a : Option Addr} {n c : Nat} : oneC (.slice a n c) = true := rfl
theorem oneC_int {k : IntKind} {n : Int} : oneC (.int k n) = true := rfl
theorem oneC_bool {b : Bool} : oneC (.bool b) = true := rfl
theorem oneC_ptr {a : Option Addr} : oneC (.pointer a) = true := rfl
theorem oneC_iface {t : TypeId} {v : Value} : oneC (.iface t v) = true := rfl
theorem oneC_nil : oneC .nilIface = true := rfl
theorem oneC_str {s : ByteArray} : oneC (.string s) = true := rfl
theorem oneC_map {m : Option Nat} : oneC (.map m) = true := rfl
theorem oneC_func {f : Fn} {a b : Array Value} : oneC (.func f a b) = true := rfl
theorem cells_agg {cs : Array Value} : (Value.agg cs).cells = cs := rfl
theorem cells_one {v : Value} (h : oneC v = true) : v.cells = #[v] := by cases v <;> first | rfl | cases h
def aggD : TypeDesc → Bool
  | .struct _ => true
  | .array _ _ => true
  | _ => false
def aggB (P : Program) (t : TypeId) : Option Bool := (P.underlying t).map aggD
def szB (P : Program) (t : TypeId) : Option Nat := (P.info? t).map (·.size)
def zeroB (P : Program) (t : TypeId) : Option Value := (P.info? t).bind (·.zero)

section
variable {P : Program} {w : World} {K : Value → World → Prop} {t : TypeId}

/-! ### What is read of the program -/
theorem run_und {d : TypeDesc} (h : P.underlying t = some d) : (underlying t).run P w = .ok d w := run_underlying h w
theorem run_agg {b : Bool} (h : aggB P t = some b) : (isAgg t).run P w = .ok b w := by
  unfold aggB at h
  cases hu : P.underlying t with
  | none => rw [hu] at h; cases h
  | some d =>
    rw [hu] at h
    simp only [Option.map_some, Option.some.injEq] at h
    unfold isAgg
    rw [Sem.run_bind, run_und hu]
    simp only [Result.andThen]
    cases d <;> simp [aggD] at h <;> subst h <;> rfl
theorem run_sz {n : Nat} (h : szB P t = some n) : (sizeOf t).run P w = .ok n w := by
  unfold szB at h
  cases hi : P.info? t with
  | none => rw [hi] at h; cases h
  | some i =>
    rw [hi] at h
    simp only [Option.map_some, Option.some.injEq] at h
    unfold sizeOf
    rw [Sem.run_bind, run_typeInfo _ hi]
    simp only [Result.andThen, Sem.run_pure, h]
theorem run_zero {z : Value} (h : zeroB P t = some z) : (zeroValue t).run P w = .ok z w := by
  unfold zeroB at h
  cases hi : P.info? t with
  | none => rw [hi] at h; cases h
  | some i =>
    rw [hi] at h
    simp only [Option.bind_some] at h
    unfold zeroValue
    rw [Sem.run_bind, run_typeInfo _ hi]
    simp only [Result.andThen, h, Sem.run_pure]

/-! ### Memory -/
def cellOf (o : Option Obj) (i : Nat) : Option Value := match o with | some (.cells c _ _) => c[i]? | _ => none
def frozenOf (o : Option Obj) (i : Nat) : Bool := match o with | some (.cells _ _ (lo, hi)) => lo ≤ i && i < hi | _ => false
def setOf (o : Option Obj) (i : Nat) (v : Value) : Option Obj := match o with | some (.cells c e f) => some (.cells (c.setIfInBounds i v) e f) | o => o
theorem cell_eq {b o : Nat} : w.cell? ⟨b, o, none⟩ = cellOf w.heap[b]? o := by
  unfold World.cell? cellOf
  split <;> simp_all
theorem frozen_eq {b o : Nat} : w.frozen? ⟨b, o, none⟩ = frozenOf w.heap[b]? o := by
  unfold World.frozen? frozenOf
  split <;> simp_all
theorem cellOf_some {c : Array Value} {e : TypeId} {f : Nat × Nat} {i : Nat} : cellOf (some (.cells c e f)) i = c[i]? := rfl
theorem frozenOf_some {c : Array Value} {e : TypeId} {i : Nat} : frozenOf (some (.cells c e (0, 0))) i = false := by simp [frozenOf]
theorem setOf_some {c : Array Value} {e : TypeId} {f : Nat × Nat} {i : Nat} {v : Value} : setOf (some (.cells c e f)) i v = some (.cells (c.setIfInBounds i v) e f) := rfl
theorem heap_set_same {b o : Nat} {v : Value} : (w.setCell ⟨b, o, none⟩ v).heap[b]? = setOf w.heap[b]? o v := by
  unfold World.setCell setOf
  simp only [Array.getElem?_modify]
  cases h : w.heap[b]? with
  | none => simp
  | some x => cases x <;> simp
theorem heap_set_ne {b b' o : Nat} {v : Value} (h : b' ≠ b) : (w.setCell ⟨b, o, none⟩ v).heap[b']? = w.heap[b']? := by
  unfold World.setCell
  simp only [Array.getElem?_modify]
  rw [if_neg (Ne.symm h)]
theorem size_set {a : Addr} {v : Value} : (w.setCell a v).heap.size = w.heap.size := by simp [World.setCell]
theorem heap_alloc_lt {b : Nat} {o : Obj} (h : b < w.heap.size) : (w.alloc o).heap[b]? = w.heap[b]? := by
  show (w.heap.push o)[b]? = _
  rw [Array.getElem?_push, if_neg (by omega)]
theorem heap_alloc_eq {b : Nat} {o : Obj} (h : b = w.heap.size) : (w.alloc o).heap[b]? = some o := by
  subst h
  show (w.heap.push o)[w.heap.size]? = _
  rw [Array.getElem?_push, if_pos rfl]
theorem size_alloc {o : Obj} : (w.alloc o).heap.size = w.heap.size + 1 := by show (w.heap.push o).size = _; simp
theorem heap_dr : (dr w).heap = w.heap := rfl
theorem blk_lt {b : Nat} {o : Obj} (h : w.heap[b]? = some o) : b < w.heap.size := (Array.getElem?_eq_some_iff.1 h).1

/-! ### Values alone -/
theorem ck_ptr {a : Addr} : ck (.pointer (some a)) w K = K (.pointer (some a)) w := nr rfl
theorem ck_iface {u : TypeId} {v : Value} : ck (.iface u v) w K = K (.iface u v) w := nr rfl
theorem ck_func {f : FuncId} {x y : Array Value} : ck (.func (.func f) x y) w K = K (.func (.func f) x y) w := nr rfl
theorem pick_bool {b : Bool} {x y : Value} : pickP (.bool b) x y w K = K (bif b then x else y) w := nr rfl
theorem gs_true {A B : Prop} : gsplit (.bool true) A B = A := nr rfl
theorem gs_false {A B : Prop} : gsplit (.bool false) A B = B := nr rfl
theorem gs_dec_pos {p : Prop} [Decidable p] {A B : Prop} (h : p) : gsplit (.bool (decide p)) A B = A := by rw [decide_eq_true h]; rfl
theorem gs_dec_neg {p : Prop} [Decidable p] {A B : Prop} (h : ¬ p) : gsplit (.bool (decide p)) A B = B := by rw [decide_eq_false h]; rfl
theorem gs_not {b : Bool} {A B : Prop} : gsplit (.bool (!b)) A B = gsplit (.bool b) B A := by cases b <;> rfl
theorem gs_split {b : Bool} {A B : Prop} (h1 : b = true → A) (h2 : b = false → B) : gsplit (.bool b) A B := by cases b; exact h2 rfl; exact h1 rfl
theorem gs_dec {p : Prop} [Decidable p] {A B : Prop} (h1 : p → A) (h2 : ¬ p → B) : gsplit (.bool (decide p)) A B := by
  by_cases h : p
  · rw [gs_dec_pos h]; exact h1 h
  · rw [gs_dec_neg h]; exact h2 h
theorem pick_dec_pos {p : Prop} [Decidable p] {x y : Value} (h : p) : pickP (.bool (decide p)) x y w K = K x w := by rw [decide_eq_true h]; rfl
theorem pick_dec_neg {p : Prop} [Decidable p] {x y : Value} (h : ¬ p) : pickP (.bool (decide p)) x y w K = K y w := by rw [decide_eq_false h]; rfl
theorem ext_0 {a : Value} {l : List Value} : ext P (.tuple (a :: l).toArray) 0 w K = K a w := nr rfl
theorem ext_1 {a b : Value} {l : List Value} : ext P (.tuple (a :: b :: l).toArray) 1 w K = K b w := nr rfl
theorem ext_2 {a b c : Value} {l : List Value} : ext P (.tuple (a :: b :: c :: l).toArray) 2 w K = K c w := nr rfl
theorem ext_3 {a b c d : Value} {l : List Value} : ext P (.tuple (a :: b :: c :: d :: l).toArray) 3 w K = K d w := nr rfl
theorem un_not {b : Bool} : un P .not (.bool b) w K = K (.bool (!b)) w := nr rfl
theorem un_neg {k : IntKind} {n : Int} : un P .neg (.int k n) w K = K (.int k (k.wrap (0 - n))) w := nr rfl

theorem sem_ok {s : Sem Value} {v : Value} {w' : World} (h : s.run P w = .ok v w') : sem P s w K = K v w' := by unfold sem; rw [h]
theorem semU_ok {s : Sem Unit} {w' : World} {K : World → Prop} (h : s.run P w = .ok () w') : semU P s w K = K w' := by unfold semU; rw [h]

/-! ### Integers -/
section ints
variable {ox oy : Operand} {k : IntKind} {x y : Int}
theorem bn_run {op : BinOp} {v : Value} (hg : (eqGuard op t ox oy (.int k x) (.int k y)).run P w = .ok () w) (h : (binOp op t (.int k x) (.int k y)).run P w = .ok v w) : bn P op t ox oy (.int k x) (.int k y) w K = K v w := by
  unfold bn; rw [semU_ok hg, sem_ok h]
theorem bn_add : bn P .add t ox oy (.int k x) (.int k y) w K = K (.int k (k.wrap (x + y))) w := bn_run rfl (by simp [binOp, Op.intArith])
theorem bn_sub : bn P .sub t ox oy (.int k x) (.int k y) w K = K (.int k (k.wrap (x - y))) w := bn_run rfl (by simp [binOp, Op.intArith])
theorem bn_mul : bn P .mul t ox oy (.int k x) (.int k y) w K = K (.int k (k.wrap (x * y))) w := bn_run rfl (by simp [binOp, Op.intArith])
theorem bn_quo (h : y ≠ 0) : bn P .quo t ox oy (.int k x) (.int k y) w K = K (.int k (k.wrap (x.tdiv y))) w := bn_run rfl (by simp [binOp, Op.intDiv, h])
theorem bn_rem (h : y ≠ 0) : bn P .rem t ox oy (.int k x) (.int k y) w K = K (.int k (x.tmod y)) w := bn_run rfl (by simp [binOp, Op.intDiv, h])
theorem bn_lss : bn P .lss t ox oy (.int k x) (.int k y) w K = K (.bool (decide (x < y))) w := bn_run rfl (by simp [binOp, Op.intCmp])
theorem bn_leq : bn P .leq t ox oy (.int k x) (.int k y) w K = K (.bool (decide (x ≤ y))) w := bn_run rfl (by simp [binOp, Op.intCmp])
theorem bn_gtr : bn P .gtr t ox oy (.int k x) (.int k y) w K = K (.bool (decide (y < x))) w := bn_run rfl (by simp [binOp, Op.intCmp])
theorem bn_geq : bn P .geq t ox oy (.int k x) (.int k y) w K = K (.bool (decide (y ≤ x))) w := bn_run rfl (by simp [binOp, Op.intCmp])
theorem bn_eql : bn P .eql t ox oy (.int k x) (.int k y) w K = K (.bool (decide (x = y))) w := bn_run rfl (by simp [binOp, Op.intCmp]; rfl)
theorem bn_neq : bn P .neq t ox oy (.int k x) (.int k y) w K = K (.bool (!decide (x = y))) w := bn_run rfl (by simp [binOp, Op.intCmp, bne]; rfl)
theorem bn_xor : bn P .xor t ox oy (.int k x) (.int k y) w K = K (.int k (k.wrap (BitVec.ofInt k.bits x ^^^ BitVec.ofInt k.bits y).toNat)) w := bn_run rfl (by simp [binOp, Op.intBits])
theorem bn_and : bn P .and t ox oy (.int k x) (.int k y) w K = K (.int k (k.wrap (BitVec.ofInt k.bits x &&& BitVec.ofInt k.bits y).toNat)) w := bn_run rfl (by simp [binOp, Op.intBits])
theorem bn_or : bn P .or t ox oy (.int k x) (.int k y) w K = K (.int k (k.wrap (BitVec.ofInt k.bits x ||| BitVec.ofInt k.bits y).toNat)) w := bn_run rfl (by simp [binOp, Op.intBits])
theorem wrap64 {x : Int} (h1 : -9223372036854775808 ≤ x) (h2 : x ≤ 9223372036854775807) : IntKind.i64.wrap x = x := by
  simp only [IntKind.wrap, IntKind.bits, IntKind.signed]
  simp
  omega
theorem wrap8 {x : Int} (h1 : 0 ≤ x) (h2 : x ≤ 255) : IntKind.u8.wrap x = x := by
  simp only [IntKind.wrap, IntKind.bits, IntKind.signed]
  simp
  omega
end ints

/-! ### Loads and stores -/
/-- What a load comes to where a cell isn't there. -/
def ldL (P : Program) (t : TypeId) (a : Addr) (w : World) (K : Value → World → Prop) : Prop := sem P (loadVar t a) w K
def ldc (w : World) (b o : Nat) : Nat → (List Value → Prop) → Prop → Prop
  | 0, k, _ => k []
  | n + 1, k, L => oK (w.cell? ⟨b, o, none⟩) (fun v => ldc w b (o + 1) n (fun vs => k (v :: vs)) L) L
theorem ld_one {a : Addr} (h : aggB P t = some false) : ld P t (.pointer (some a)) w K = oK (w.cell? a) (fun v => K v w) (ldL P t a w K) := by
  have e : ld P t (.pointer (some a)) w K = ldL P t a w K := rfl
  cases hc : w.cell? a with
  | none => exact e
  | some v =>
    rw [e]
    unfold ldL
    rw [sem_ok (v := v) (w' := w)]
    · rfl
    · unfold loadVar
      rw [Sem.run_bind, run_agg h]
      simp [Result.andThen, hc]
theorem add_block {b o n : Nat} : (⟨b, o, none⟩ : Addr).add n = ⟨b, o + n, none⟩ := by
  unfold Addr.add
  split
  · subst_vars; rfl
  · rfl
theorem loadCells_ldc {b o : Nat} {k : List Value → Prop} {L : Prop} : ∀ (n i : Nat) (acc : Array Value), ldc w b (o + i) n (fun vs => k (acc.toList ++ vs)) L → (∃ vs : List Value, k (acc.toList ++ vs) ∧ (loadCellsFrom ⟨b, o, none⟩ i n acc).run P w = .ok (acc ++ vs.toArray) w) ∨ L
  | 0, i, acc, h => .inl ⟨[], h, by simp [loadCellsFrom]⟩
  | n + 1, i, acc, h => by
    simp only [ldc] at h
    cases hc : w.cell? ⟨b, o + i, none⟩ with
    | none => rw [hc] at h; exact .inr h
    | some v =>
      rw [hc] at h
      simp only [oK_some] at h
      have h' : ldc w b (o + (i + 1)) n (fun vs => k ((acc.push v).toList ++ vs)) L := by
        have e : (fun vs => k ((acc.push v).toList ++ vs)) = fun vs => k (acc.toList ++ (v :: vs)) := by funext vs; simp
        rw [e]; exact h
      rcases loadCells_ldc n (i + 1) (acc.push v) h' with ⟨vs, hk, hr⟩ | hL
      · refine .inl ⟨v :: vs, by simpa using hk, ?_⟩
        simp only [loadCellsFrom, add_block]
        rw [Sem.run_bind]
        have : (load ⟨b, o + i, none⟩ : Sem Value).run P w = .ok v w := by simp [hc]
        rw [this]
        simp only [Result.andThen]
        rw [hr]
        congr 1
        apply Array.ext'
        simp
      · exact .inr hL
theorem ldc_total {b : Nat} {k : List Value → Prop} {L : Prop} : ∀ (n o : Nat), (∃ vs : List Value, vs.length = n ∧ (∀ j, j < n → w.cell? ⟨b, o + j, none⟩ = vs[j]?) ∧ ∀ (k' : List Value → Prop), ldc w b o n k' L = k' vs) ∨ (∀ k' : List Value → Prop, ldc w b o n k' L = L)
  | 0, o => .inl ⟨[], rfl, fun j hj => by omega, fun _ => rfl⟩
  | n + 1, o => by
    cases hc : w.cell? ⟨b, o, none⟩ with
    | none => exact .inr fun k' => by simp only [ldc, hc]; rfl
    | some v =>
      rcases ldc_total (b := b) (k := fun _ => True) (L := L) n (o + 1) with ⟨vs, h1, h2, h3⟩ | h
      · refine .inl ⟨v :: vs, by simp [h1], fun j hj => ?_, fun k' => by simp only [ldc, hc, oK_some, h3]⟩
        cases j with
        | zero => simpa using hc
        | succ j =>
          have := h2 j (by omega)
          rw [show o + (j + 1) = o + 1 + j from by omega, this]; simp
      · exact .inr fun k' => by simp only [ldc, hc, oK_some, h]
theorem ld_many {b o n : Nat} (h : aggB P t = some true) (hs : szB P t = some n) : ld P t (.pointer (some ⟨b, o, none⟩)) w K = ldc w b o n (fun vs => K (.agg vs.toArray) w) (ldL P t ⟨b, o, none⟩ w K) := by
  have e : ld P t (.pointer (some ⟨b, o, none⟩)) w K = ldL P t ⟨b, o, none⟩ w K := rfl
  rcases ldc_total (w := w) (b := b) (k := fun _ => True) (L := ldL P t ⟨b, o, none⟩ w K) n o with ⟨vs, h1, h2, h3⟩ | h3
  · rw [h3, e]
    unfold ldL
    rw [sem_ok (v := .agg vs.toArray) (w' := w)]
    unfold loadVar
    rw [Sem.run_bind, run_agg h]
    simp only [Result.andThen, if_true]
    rw [Sem.run_bind, run_sz hs]
    simp only [Result.andThen]
    rw [Sem.run_bind]
    have := loadCells_ldc (P := P) (w := w) (b := b) (o := o) (k := fun x => x = vs) (L := False) n 0 #[] (by
      rcases ldc_total (w := w) (b := b) (k := fun _ => True) (L := False) n o with ⟨us, g1, g2, g3⟩ | g3
      · simp only [Nat.add_zero]
        rw [g3]
        have : us = vs := by
          apply List.ext_getElem?
          intro j
          rcases Nat.lt_or_ge j n with hj | hj
          · rw [← g2 j hj, h2 j hj]
          · rw [List.getElem?_eq_none (by omega), List.getElem?_eq_none (by omega)]
        simp [this]
      · exfalso
        have key : ∀ (n o : Nat) (vs : List Value), vs.length = n → (∀ j, j < n → w.cell? ⟨b, o + j, none⟩ = vs[j]?) → ldc w b o n (fun _ => True) False := by
          intro n
          induction n with
          | zero => intro o vs _ _; trivial
          | succ n ih =>
            intro o vs hl hv
            match vs, hl with
            | v :: vs, hl =>
              have h0 := hv 0 (by omega)
              simp only [Nat.add_zero, List.getElem?_cons_zero] at h0
              simp only [ldc, h0, oK_some]
              exact ih (o + 1) vs (by simpa using hl) (fun j hj => by
                have := hv (j + 1) (by omega)
                rw [show o + 1 + j = o + (j + 1) from by omega, this]; simp)
        have := key n o vs h1 h2
        rw [g3] at this
        exact this)
    rcases this with ⟨us, hu, hr⟩ | hf
    · have : us = vs := by simpa using hu
      subst this
      rw [show loadCells ⟨b, o, none⟩ n = loadCellsFrom ⟨b, o, none⟩ 0 n #[] from rfl, hr]
      simp [Result.andThen]
    · exact hf.elim
  · rw [h3, e]

/-- What a store comes to where a cell isn't there. -/
def stL (P : Program) (t : TypeId) (a : Addr) (x : Value) (w : World) (K : World → Prop) : Prop := semU P (storeVar t a x) w K
theorem run_store1 {a : Addr} {x : Value} (hx : oneC x = true) : (store a x : Sem Unit).run P w = match w.cell? a with
    | some _ => if w.frozen? a then .halt (.unsupported (.unsafePointer "a write to bytes that a string shares")) w else .ok () (w.setCell a x)
    | none => match w.farStore P a x false with | .ok (w, _) => .ok () w | .error h => .halt h w := by
  cases x <;> first | rfl | cases hx
theorem st_one {a : Addr} {x : Value} {K : World → Prop} (hs : szB P t = some 1) (hx : oneC x = true) : st P t (.pointer (some a)) x w K = oK (w.cell? a) (fun _ => if w.frozen? a = true then False else K (w.setCell a x)) (stL P t a x w K) := by
  have e : st P t (.pointer (some a)) x w K = stL P t a x w K := rfl
  cases hc : w.cell? a with
  | none => exact e
  | some v =>
    rw [e]
    unfold stL storeVar semU
    rw [Sem.run_bind, run_sz hs]
    simp only [Result.andThen, cells_one hx]
    simp only [show (#[x].size ≠ 1) = False from by simp, if_false]
    simp only [storeCells, Sem.run_bind]
    rw [show (Addr.add a 0) = a from rfl, run_store1 hx, hc]
    simp only [oK_some]
    cases hf : w.frozen? a <;> simp [Result.andThen]

/-! ### Addresses -/
/-- A field's place, where the field has cells. -/
def offB (P : Program) (s : TypeId) (f : Nat) : Option Nat :=
  match P.underlying s with
  | some (.struct fs) => match fs[f]? with
    | some x => match szB P x.type with | some (_ + 1) => some x.offset | _ => none
    | none => none
  | _ => none
theorem fa_ok {s : TypeId} {b o f off : Nat} (h : offB P s f = some off) : fa P s (.pointer (some ⟨b, o, none⟩)) f w K = K (.pointer (some ⟨b, o + off, none⟩)) w := by
  unfold offB at h
  split at h
  · rename_i fs hu
    split at h
    · rename_i x hx
      split at h
      · rename_i m hm
        simp only [Option.some.injEq] at h
        subst h
        unfold fa
        apply sem_ok
        unfold Instr.fieldAt
        rw [Sem.run_bind, run_und hu]
        simp only [Result.andThen, hx, Instr.sureAddr, pure_bind]
        simp only [Sem.run_bind, fieldPlace, run_sz hm, Result.andThen]
        simp [add_block]
      · cases h
    · cases h
  · cases h
def elemSz (P : Program) (t : TypeId) : Option Nat := match P.underlying t with | some (.slice e) => szB P e | _ => none
theorem boundsPanic_sem {k : IntKind} {i : Int} {n : Nat} {c : BoundsCode} {s : Sem Value} {K : Value → World → Prop} (h : ∀ w', ∃ x w'', s.run P w' = .halt x w'') : sem P s w K = False := by
  obtain ⟨x, w'', h⟩ := h w
  unfold sem
  rw [h]
theorem ia_ok {b o n c sz : Nat} {k : IntKind} {i : Int} (h : elemSz P t = some sz) (h0 : 0 ≤ i) (h1 : i < n) : ia P t (.slice (some ⟨b, o, none⟩) n c) (.int k i) w K = K (.pointer (some ⟨b, o + i.toNat * sz, none⟩)) w := by
  unfold elemSz at h
  split at h
  · rename_i e hu
    unfold ia
    apply sem_ok
    unfold Instr.indexAt
    simp only [asIntOf, pure_bind]
    rw [Sem.run_bind, run_und hu]
    simp only [Result.andThen]
    rw [Sem.run_bind, run_und hu]
    simp only [Result.andThen]
    rw [if_pos ⟨h0, h1⟩]
    simp only [Sem.run_bind, run_sz h, Result.andThen, Sem.run_pure, add_block]
  · cases h

def arrSz (P : Program) (t : TypeId) : Option (Nat × Nat) := match P.underlying t with | some (.array l e) => (szB P e).map fun n => (l, n) | _ => none
theorem ia_arr {b o l sz : Nat} {k : IntKind} {i : Int} (h : arrSz P t = some (l, sz)) (h0 : 0 ≤ i) (h1 : i < l) : ia P t (.pointer (some ⟨b, o, none⟩)) (.int k i) w K = K (.pointer (some ⟨b, o + i.toNat * sz, none⟩)) w := by
  unfold arrSz at h
  split at h
  · rename_i l' e hu
    cases hs : szB P e with
    | none => rw [hs] at h; cases h
    | some n =>
      rw [hs] at h
      simp only [Option.map_some, Option.some.injEq, Prod.mk.injEq] at h
      obtain ⟨rfl, rfl⟩ := h
      unfold ia
      apply sem_ok
      unfold Instr.indexAt
      simp only [asIntOf, pure_bind]
      rw [Sem.run_bind, run_und hu]
      simp only [Result.andThen, Instr.sureAddr, pure_bind]
      rw [Sem.run_bind, run_und hu]
      simp only [Result.andThen]
      rw [if_pos ⟨h0, h1⟩]
      simp only [Sem.run_bind, run_sz hs, Result.andThen, Sem.run_pure, add_block]
  · cases h

/-! ### Making -/
theorem alc_ok {e : TypeId} {z : Value} (h : zeroB P e = some z) : alc P e w K = K (.pointer (some ⟨w.heap.size, 0, none⟩)) (w.alloc (.cells z.cells e)) := by
  unfold alc
  apply sem_ok
  unfold Instr.alloc
  rw [Sem.run_bind, run_zero h]
  rfl
theorem bx_ok {e : TypeId} {x : Value} : bx P e x w K = K (.pointer (some ⟨w.heap.size, 0, none⟩)) (w.alloc (.cells x.cells e)) := nr rfl
theorem bx_agg {e : TypeId} {cs : Array Value} : bx P e (.agg cs) w K = K (.pointer (some ⟨w.heap.size, 0, none⟩)) (w.alloc (.cells cs e)) := nr rfl
theorem bx_one {e : TypeId} {x : Value} (h : oneC x = true) : bx P e x w K = K (.pointer (some ⟨w.heap.size, 0, none⟩)) (w.alloc (.cells #[x] e)) := by rw [bx_ok, cells_one h]
theorem nmC {f : FuncId} {v : Array Value} (h : ∀ w1, w1 = w → call P f v w1 K) : call P f v w K := h w rfl
def placesB (P : Program) (t : TypeId) : Option (List (Nat × Nat)) :=
  match P.underlying t with
  | some (.struct fs) => fs.toList.mapM fun f => (szB P f.type).map fun n => (f.offset, n)
  | _ => none
theorem run_mapM {α β : Type} {f : α → Sem β} {g : α → Option β} : ∀ (l : List α) {r : List β}, (∀ x y, g x = some y → (f x).run P w = .ok y w) → l.mapM g = some r → (l.mapM f).run P w = .ok r w
  | [], r, _, h => by
    simp only [List.mapM_nil, Option.pure_def, Option.some.injEq] at h
    subst h
    simp
  | x :: l, r, hf, h => by
    simp only [List.mapM_cons, Option.pure_def, Option.bind_eq_bind, Option.bind_eq_some_iff] at h
    obtain ⟨y, hy, ys, hys, h⟩ := h
    simp only [Option.some.injEq] at h
    subst h
    simp only [List.mapM_cons, Sem.run_bind, hf x y hy, Result.andThen, run_mapM l hf hys, Sem.run_pure]
theorem bld_ok {parts : List (Nat × Value)} {z : Value} {pl : List (Nat × Nat)} {cs : Array Value} (hz : zeroB P t = some z) (hp : placesB P t = some pl) (hf : Instr.fill (pl.toArray[·]?) z.cells parts = some cs) :
    bld P t parts w K = K (.agg cs) w := by
  unfold placesB at hp
  split at hp
  · rename_i fs hu
    unfold bld
    apply sem_ok
    unfold Instr.build
    simp only [Sem.run_bind, run_zero hz, Result.andThen, run_und hu]
    have : (fs.mapM fun f => do pure (f.offset, ← sizeOf f.type) : Sem (Array (Nat × Nat))).run P w = .ok pl.toArray w := by
      have h2 := run_mapM (P := P) (w := w) (f := fun f : Field => (do pure (f.offset, ← sizeOf f.type) : Sem (Nat × Nat))) fs.toList (fun x y hxy => by
        cases hn : szB P x.type with
        | none => rw [hn] at hxy; cases hxy
        | some n =>
          rw [hn] at hxy
          simp only [Option.map_some, Option.some.injEq] at hxy
          subst hxy
          simp only [Sem.run_bind, run_sz hn, Result.andThen, Sem.run_pure]) hp
      rw [← Array.toArray_toList (xs := fs), List.mapM_toArray]
      rw [Sem.run_map, h2]
      rfl
    rw [this]
    simp only [hf, Sem.run_pure]
  · cases hp

/-! ### Stores of several cells; results in memory -/
def stc (P : Program) (b o : Nat) : List Value → Nat → World → (World → Prop) → Prop
  | [], _, w, K => K w
  | x :: r, i, w, K => oK (w.cell? ⟨b, o + i, none⟩) (fun _ => if w.frozen? ⟨b, o + i, none⟩ = true then False else stc P b o r (i + 1) (w.setCell ⟨b, o + i, none⟩ x) K) (semU P (storeCells ⟨b, o, none⟩ (x :: r) i) w K)
theorem stc_eq {b o : Nat} {K : World → Prop} : ∀ (xs : List Value) (i : Nat) (w : World), (∀ x ∈ xs, oneC x = true) → semU P (storeCells ⟨b, o, none⟩ xs i) w K = stc P b o xs i w K
  | [], i, w, _ => by simp [storeCells, semU, stc]
  | x :: r, i, w, h => by
    simp only [stc]
    cases hc : w.cell? ⟨b, o + i, none⟩ with
    | none => rfl
    | some v =>
      simp only [oK_some]
      have ih := stc_eq (b := b) (o := o) (K := K) r (i + 1) (w.setCell ⟨b, o + i, none⟩ x) (fun y hy => h y (List.mem_cons_of_mem _ hy))
      rw [← ih]
      unfold semU
      simp only [storeCells, add_block, Sem.run_bind]
      rw [run_store1 (h x List.mem_cons_self), hc]
      cases hf : w.frozen? ⟨b, o + i, none⟩ <;> simp [Result.andThen]
theorem st_many {b o n : Nat} {xs : List Value} {K : World → Prop} (hs : szB P t = some n) (hn : xs.length = n) (hx : ∀ x ∈ xs, oneC x = true) :
    st P t (.pointer (some ⟨b, o, none⟩)) (.agg xs.toArray) w K = stc P b o xs 0 w K := by
  rw [← stc_eq xs 0 w hx]
  show semU P (storeVar t ⟨b, o, none⟩ (.agg xs.toArray)) w K = _
  unfold storeVar semU
  rw [Sem.run_bind, run_sz hs]
  simp only [Result.andThen]
  have e : (Value.agg xs.toArray).cells = xs.toArray := rfl
  rw [e]
  simp only [List.size_toArray, hn, ne_eq, not_true_eq_false, if_false]
/-- A new block, filled at once. -/
theorem alloc_set {cs : Array Value} {e : TypeId} {i : Nat} {v : Value} : (w.alloc (.cells cs e)).setCell ⟨w.heap.size, i, none⟩ v = w.alloc (.cells (cs.setIfInBounds i v) e) := by
  unfold World.setCell World.alloc
  congr 1
  apply Array.ext
  · simp
  · intro j h1 h2
    simp only [Array.getElem_modify, Array.getElem_push]
    by_cases hj : j < w.heap.size
    · have : ¬ w.heap.size = j := by omega
      simp [hj, this]
    · have : w.heap.size = j := by simp at h2; omega
      simp [this]
theorem stc_alloc {e : TypeId} {K : World → Prop} : ∀ (xs pre ys : List Value), ys.length = xs.length → stc P w.heap.size 0 xs pre.length (w.alloc (.cells (pre ++ ys).toArray e)) K = K (w.alloc (.cells (pre ++ xs).toArray e))
  | [], pre, ys, h => by
    obtain rfl : ys = [] := List.eq_nil_of_length_eq_zero h
    rfl
  | x :: xs, pre, [], h => by simp at h
  | x :: xs, pre, y :: ys, h => by
    simp only [stc, cell_eq, frozen_eq, heap_alloc_eq rfl, Nat.zero_add, cellOf_some, frozenOf_some]
    rw [show (pre ++ y :: ys).toArray[pre.length]? = some y from by simp]
    simp only [oK_some, Bool.false_eq_true, if_false, alloc_set]
    have e1 : (pre ++ y :: ys).toArray.setIfInBounds pre.length x = ((pre ++ [x]) ++ ys).toArray := by simp
    rw [e1]
    have := stc_alloc (e := e) (K := K) xs (pre ++ [x]) ys (by simpa using h)
    rw [List.length_append] at this
    refine this.trans ?_
    simp
theorem alst_many {e : TypeId} {n : Nat} {zs xs : List Value} {K : Value → World → Prop} (hz : zeroB P e = some (.agg zs.toArray)) (hs : szB P e = some n) (hn : xs.length = n) (hzn : zs.length = n) (hx : ∀ x ∈ xs, oneC x = true) :
    alc P e w (fun a w => st P e a (.agg xs.toArray) w (K a)) = K (.pointer (some ⟨w.heap.size, 0, none⟩)) (w.alloc (.cells xs.toArray e)) := by
  rw [alc_ok hz]
  show st P e (.pointer (some ⟨w.heap.size, 0, none⟩)) (.agg xs.toArray) (w.alloc (.cells zs.toArray e)) _ = _
  rw [st_many hs hn hx]
  exact stc_alloc xs [] zs (by omega)
theorem alst_one {e : TypeId} {z x : Value} {K : Value → World → Prop} (hz : zeroB P e = some z) (h1 : oneC z = true) (hs : szB P e = some 1) (hx : oneC x = true) :
    alc P e w (fun a w => st P e a x w (K a)) = K (.pointer (some ⟨w.heap.size, 0, none⟩)) (w.alloc (.cells #[x] e)) := by
  rw [alc_ok hz, cells_one h1]
  show st P e (.pointer (some ⟨w.heap.size, 0, none⟩)) x (w.alloc (.cells #[z] e)) _ = _
  rw [st_one hs hx]
  simp only [cell_eq, frozen_eq, heap_alloc_eq rfl, cellOf_some, frozenOf_some]
  rw [show (#[z] : Array Value)[0]? = some z from rfl]
  simp only [oK_some, Bool.false_eq_true, if_false, alloc_set]
  rfl
theorem resCell_eq {a : Addr} {k : Value → Prop} : resCell P t (.pointer (some a)) w k = ld P t (.pointer (some a)) w fun x w' => w' = w ∧ k x := nr rfl

/-! ### Lengths, cuts, conversions -/
def undB (P : Program) (t : TypeId) : Option TypeDesc := P.underlying t
theorem len_slice {e : TypeId} {ty : TypeId} {a : Option Addr} {n c : Nat} (h : P.underlying t = some (.slice e)) : bLen P #[t] ty [.slice a n c] w K = K (.int .i64 n) w := by
  unfold bLen
  apply sem_ok
  simp [Builtin.len_, run_und h, Result.andThen, goInt]
theorem len_string {ty : TypeId} {s : ByteArray} (h : P.underlying t = some .string) : bLen P #[t] ty [.string s] w K = K (.int .i64 s.size) w := by
  unfold bLen
  apply sem_ok
  simp [Builtin.len_, run_und h, Result.andThen, goInt]
theorem cnv_int {s d : TypeId} {k k' : IntKind} {x : Int} {ds : TypeDesc} (hs : P.underlying s = some ds) (h : P.underlying d = some (.int k')) : cnv P s d (.int k x) w K = K (.int k' (k'.wrap x)) w := by
  unfold cnv
  apply sem_ok
  unfold convert
  rw [Sem.run_bind, run_und hs]
  simp only [Result.andThen]
  rw [Sem.run_bind, run_und h]
  simp only [Result.andThen]
  cases ds <;> rfl
theorem min_int {ts : Array TypeId} {ty : TypeId} {k : IntKind} {x y : Int} : bMin P ts ty [.int k x, .int k y] w K = K (.int k (if y < x then y else x)) w := nr rfl
theorem max_int {ts : Array TypeId} {ty : TypeId} {k : IntKind} {x y : Int} : bMax P ts ty [.int k x, .int k y] w K = K (.int k (if x < y then y else x)) w := by
  unfold bMax
  apply sem_ok
  simp [Builtin.max_, Builtin.max2]
theorem mkI_ok {d : TypeDesc} {x : Value} (h : P.underlying t = some d) (hd : (match d with | .interface _ => false | _ => true) = true) : mkI P t x w K = K (.iface t x) w := by
  unfold mkI
  apply sem_ok
  unfold Instr.makeInterface
  rw [Sem.run_bind, run_und h]
  simp only [Result.andThen]
  cases d <;> first | rfl | cases hd
theorem mkF_ok {fn : Fn} {a b : List Value} : mkF P fn a b w K = K (.func fn a.toArray b.toArray) w := nr rfl

/-! ### '==' with nil and between errors -/
theorem bn_of {op : BinOp} {x y v : Value} {ox oy : Operand} (hg : (eqGuard op t ox oy x y).run P w = .ok () w) (h : (binOp op t x y).run P w = .ok v w) : bn P op t ox oy x y w K = K v w := by
  unfold bn; rw [semU_ok hg, sem_ok h]
theorem equal_run {x y : Value} {b : Bool} (h : (Op.equalIn 10000 t x y).run P w = .ok b w) : (Op.equal t x y).run P w = .ok b w := h
end

/-! ### simp looks at a step's values alone, not at what follows -/
section
variable {P : Program} {w : World} {K : Value → World → Prop} {t : TypeId}
@[congr] theorem oK_congr {p_ : Prop} (h_ : (True ∧ True) = p_) {α : Type} {o o' : Option α} {f : α → Prop} {n : Prop} (h : o = o') : oK o f n = oK o' f n := by rw [h]
@[congr] theorem shr_congr {p_ : Prop} (h_ : (True ∧ True) = p_) {α : Sort _} {k : α} {f : α → Prop} : shr k f = shr k f := rfl
@[congr] theorem gsplit_congr {p_ : Prop} (h_ : (True ∧ True) = p_) {v v' : Value} {A B : Prop} (h : v = v') : gsplit v A B = gsplit v' A B := by rw [h]
@[congr] theorem ck_congr {p_ : Prop} (h_ : (True ∧ True) = p_) {v v' : Value} (h : v = v') : ck v w K = ck v' w K := by rw [h]
@[congr] theorem pickP_congr {p_ : Prop} (h_ : (True ∧ True) = p_) {c c' a b : Value} (h : c = c') : pickP c a b w K = pickP c' a b w K := by rw [h]
@[congr] theorem alc_congr {p_ : Prop} (h_ : (True ∧ True) = p_) : alc P t w K = alc P t w K := rfl
@[congr] theorem bx_congr {p_ : Prop} (h_ : (True ∧ True) = p_) {v v' : Value} (h : v = v') : bx P t v w K = bx P t v' w K := by rw [h]
@[congr] theorem bld_congr {p_ : Prop} (h_ : (True ∧ True) = p_) {v v' : List (Nat × Value)} (h : v = v') : bld P t v w K = bld P t v' w K := by rw [h]
@[congr] theorem bsl_congr {p_ : Prop} (h_ : (True ∧ True) = p_) {w' : World} (hw : w = w') {n : Nat} {v v' : List (Nat × Value)} (h : v = v') : bsl P t n v w K = bsl P t n v' w' K := by rw [hw, h]
@[congr] theorem ld_congr {p_ : Prop} (h_ : (True ∧ True) = p_) {v v' : Value} (h : v = v') : ld P t v w K = ld P t v' w K := by rw [h]
@[congr] theorem st_congr {p_ : Prop} (h_ : (True ∧ True) = p_) {v v' x x' : Value} {K : World → Prop} (h : v = v') (h2 : x = x') : st P t v x w K = st P t v' x' w K := by rw [h, h2]
@[congr] theorem bn_congr {p_ : Prop} (h_ : (True ∧ True) = p_) {op : BinOp} {ox oy : Operand} {v v' x x' : Value} (h : v = v') (h2 : x = x') : bn P op t ox oy v x w K = bn P op t ox oy v' x' w K := by rw [h, h2]
@[congr] theorem un_congr {p_ : Prop} (h_ : (True ∧ True) = p_) {op : UnOp} {v v' : Value} (h : v = v') : un P op v w K = un P op v' w K := by rw [h]
@[congr] theorem cnv_congr {p_ : Prop} (h_ : (True ∧ True) = p_) {w' : World} (hw : w = w') {d : TypeId} {v v' : Value} (h : v = v') : cnv P t d v w K = cnv P t d v' w' K := by rw [hw, h]
@[congr] theorem mkI_congr {p_ : Prop} (h_ : (True ∧ True) = p_) {v v' : Value} (h : v = v') : mkI P t v w K = mkI P t v' w K := by rw [h]
@[congr] theorem mkF_congr {p_ : Prop} (h_ : (True ∧ True) = p_) {f : Fn} {a a' b b' : List Value} (h : a = a') (h2 : b = b') : mkF P f a b w K = mkF P f a' b' w K := by rw [h, h2]
@[congr] theorem mkM_congr {p_ : Prop} (h_ : (True ∧ True) = p_) {w' : World} (hw : w = w') {r : Option Value} : mkM P t r w K = mkM P t r w' K := by rw [hw]
@[congr] theorem mkS_congr {p_ : Prop} (h_ : (True ∧ True) = p_) {w' : World} (hw : w = w') {v v' x x' : Value} (h : v = v') (h2 : x = x') : mkS P t v x w K = mkS P t v' x' w' K := by rw [hw, h, h2]
@[congr] theorem slc_congr {p_ : Prop} (h_ : (True ∧ True) = p_) {w' : World} (hw : w = w') {v v' : Value} {a a' b b' c c' : Option Value} (h : v = v') (h2 : a = a') (h3 : b = b') (h4 : c = c') : slc P t v a b c w K = slc P t v' a' b' c' w' K := by rw [hw, h, h2, h3, h4]
@[congr] theorem fa_congr {p_ : Prop} (h_ : (True ∧ True) = p_) {f : Nat} {v v' : Value} (h : v = v') : fa P t v f w K = fa P t v' f w K := by rw [h]
@[congr] theorem fld_congr {p_ : Prop} (h_ : (True ∧ True) = p_) {f : Nat} {v v' : Value} (h : v = v') : fld P t v f w K = fld P t v' f w K := by rw [h]
@[congr] theorem ia_congr {p_ : Prop} (h_ : (True ∧ True) = p_) {v v' x x' : Value} (h : v = v') (h2 : x = x') : ia P t v x w K = ia P t v' x' w K := by rw [h, h2]
@[congr] theorem ix_congr {p_ : Prop} (h_ : (True ∧ True) = p_) {v v' x x' : Value} (h : v = v') (h2 : x = x') : ix P t v x w K = ix P t v' x' w K := by rw [h, h2]
@[congr] theorem lkp_congr {p_ : Prop} (h_ : (True ∧ True) = p_) {w' : World} (hw : w = w') {b : Bool} {v v' x x' : Value} (h : v = v') (h2 : x = x') : lkp P t v x b w K = lkp P t v' x' b w' K := by rw [hw, h, h2]
@[congr] theorem mpU_congr {p_ : Prop} (h_ : (True ∧ True) = p_) {w' : World} (hw : w = w') {v v' x x' y y' : Value} {K : World → Prop} (h : v = v') (h2 : x = x') (h3 : y = y') : mpU P t v x y w K = mpU P t v' x' y' w' K := by rw [hw, h, h2, h3]
@[congr] theorem mpE_congr {p_ : Prop} (h_ : (True ∧ True) = p_) {w' : World} (hw : w = w') {v v' x x' : Value} (h : v = v') (h2 : x = x') : mpE P t v x w K = mpE P t v' x' w' K := by rw [hw, h, h2]
@[congr] theorem enS_congr {p_ : Prop} (h_ : (True ∧ True) = p_) {w' : World} (hw : w = w') {v v' x x' y y' : Value} {K : World → Prop} (h : v = v') (h2 : x = x') (h3 : y = y') : enS P t v x y w K = enS P t v' x' y' w' K := by rw [hw, h, h2, h3]
@[congr] theorem tas_congr {p_ : Prop} (h_ : (True ∧ True) = p_) {w' : World} (hw : w = w') {u : TypeId} {b : Bool} {v v' : Value} (h : v = v') : tas P v t u b w K = tas P v' t u b w' K := by rw [hw, h]
@[congr] theorem ext_congr {p_ : Prop} (h_ : (True ∧ True) = p_) {i : Nat} {v v' : Value} (h : v = v') : ext P v i w K = ext P v' i w K := by rw [h]
@[congr] theorem call_congr {p_ : Prop} (h_ : (True ∧ True) = p_) {w' : World} (hw : w = w') {f : FuncId} {v v' : Array Value} (h : v = v') : call P f v w K = call P f v' w' K := by rw [hw, h]
@[congr] theorem callV_congr {p_ : Prop} (h_ : (True ∧ True) = p_) {w' : World} (hw : w = w') {f f' : Value} {v v' : List Value} (h : f = f') (h2 : v = v') : callV P f v w K = callV P f' v' w' K := by rw [hw, h, h2]
@[congr] theorem callI_congr {p_ : Prop} (h_ : (True ∧ True) = p_) {w' : World} (hw : w = w') {f f' : Value} {n : String} {v v' : List Value} (h : f = f') (h2 : v = v') : callI P f n v w K = callI P f' n v' w' K := by rw [hw, h, h2]
@[congr] theorem bAppend_congr {p_ : Prop} (h_ : (True ∧ True) = p_) {w' : World} (hw : w = w') {ts : Array TypeId} {v v' : List Value} (h : v = v') : bAppend P ts t v w K = bAppend P ts t v' w' K := by rw [hw, h]
@[congr] theorem bLen_congr {p_ : Prop} (h_ : (True ∧ True) = p_) {ts : Array TypeId} {v v' : List Value} (h : v = v') : bLen P ts t v w K = bLen P ts t v' w K := by rw [h]
@[congr] theorem bCap_congr {p_ : Prop} (h_ : (True ∧ True) = p_) {ts : Array TypeId} {v v' : List Value} (h : v = v') : bCap P ts t v w K = bCap P ts t v' w K := by rw [h]
@[congr] theorem bCopy_congr {p_ : Prop} (h_ : (True ∧ True) = p_) {w' : World} (hw : w = w') {ts : Array TypeId} {v v' : List Value} (h : v = v') : bCopy P ts t v w K = bCopy P ts t v' w' K := by rw [hw, h]
@[congr] theorem bDelete_congr {p_ : Prop} (h_ : (True ∧ True) = p_) {w' : World} (hw : w = w') {ts : Array TypeId} {v v' : List Value} (h : v = v') : bDelete P ts t v w K = bDelete P ts t v' w' K := by rw [hw, h]
@[congr] theorem bMin_congr {p_ : Prop} (h_ : (True ∧ True) = p_) {ts : Array TypeId} {v v' : List Value} (h : v = v') : bMin P ts t v w K = bMin P ts t v' w K := by rw [h]
@[congr] theorem bMax_congr {p_ : Prop} (h_ : (True ∧ True) = p_) {ts : Array TypeId} {v v' : List Value} (h : v = v') : bMax P ts t v w K = bMax P ts t v' w K := by rw [h]
@[congr] theorem ldL_congr {p_ : Prop} (h_ : (True ∧ True) = p_) {a : Addr} : ldL P t a w K = ldL P t a w K := rfl
@[congr] theorem resCell_congr {p_ : Prop} (h_ : (True ∧ True) = p_) {v v' : Value} {k : Value → Prop} (h : v = v') : resCell P t v w k = resCell P t v' w k := by rw [h]
@[congr] theorem stc_congr {p_ : Prop} (h_ : (True ∧ True) = p_) {b o i : Nat} {xs : List Value} {K : World → Prop} : stc P b o xs i w K = stc P b o xs i w K := rfl
end
end Go.TS
