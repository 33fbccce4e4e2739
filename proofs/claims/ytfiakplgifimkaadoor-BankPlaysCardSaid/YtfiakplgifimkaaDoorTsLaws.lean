/- More laws of this session over the texts' words: errors, strings out of bytes, literals of bytes. No statement of the seat is proved in this text. -/
import Derived.Test.YtfiakplgifimkaaDoorTsMem
import Derived.Laws.BytesArg
import Derived.Laws.Strings
import Derived.LaidEql
import Derived.LaidEqlPtr
namespace Go.TS
section
variable {P : Program} {w : World} {K : Value → World → Prop} {t : TypeId} {ox oy : Operand}

/-! ### nil and interface values -/
theorem eqIn_nil_nil {ms : Array (String × TypeId)} (h : P.underlying t = some (.interface ms)) (d : Nat) : (Op.equalIn (d + 1) t .nilIface .nilIface).run P w = .ok true w := by simp [Op.equalIn, run_underlying h]
theorem eqIn_held_nil {ms : Array (String × TypeId)} {u : TypeId} {v : Value} (h : P.underlying t = some (.interface ms)) (d : Nat) : (Op.equalIn (d + 1) t (.iface u v) .nilIface).run P w = .ok false w := by simp [Op.equalIn, run_underlying h]
theorem eqIn_nil_held {ms : Array (String × TypeId)} {u : TypeId} {v : Value} (h : P.underlying t = some (.interface ms)) (d : Nat) : (Op.equalIn (d + 1) t .nilIface (.iface u v)).run P w = .ok false w := by simp [Op.equalIn, run_underlying h]
theorem guard_nil_const {op : BinOp} {z : Value} : (eqGuard op t ox (.const z) .nilIface .nilIface).run P w = .ok () w := by
  unfold eqGuard
  cases op <;> cases ox <;> rfl
theorem eql_nil_nil {ms : Array (String × TypeId)} {z : Value} (h : P.underlying t = some (.interface ms)) : bn P .eql t ox (.const z) .nilIface .nilIface w K = K (.bool true) w := by
  refine bn_of guard_nil_const ?_
  simp only [binOp]
  simp [Op.equal, Op.maxDepth, eqIn_nil_nil h 9999]
theorem neq_nil_nil {ms : Array (String × TypeId)} {z : Value} (h : P.underlying t = some (.interface ms)) : bn P .neq t ox (.const z) .nilIface .nilIface w K = K (.bool false) w := by
  refine bn_of guard_nil_const ?_
  simp only [binOp]
  simp [Op.equal, Op.maxDepth, eqIn_nil_nil h 9999]
theorem eql_held_nil {ms : Array (String × TypeId)} {u : TypeId} {v : Value} (h : P.underlying t = some (.interface ms)) : bn P .eql t ox oy (.iface u v) .nilIface w K = K (.bool false) w := by
  refine bn_of rfl ?_
  simp only [binOp]
  simp [Op.equal, Op.maxDepth, eqIn_held_nil h 9999]
theorem neq_held_nil {ms : Array (String × TypeId)} {u : TypeId} {v : Value} (h : P.underlying t = some (.interface ms)) : bn P .neq t ox oy (.iface u v) .nilIface w K = K (.bool true) w := by
  refine bn_of rfl ?_
  simp only [binOp]
  simp [Op.equal, Op.maxDepth, eqIn_held_nil h 9999]
theorem eql_nil_held {ms : Array (String × TypeId)} {u : TypeId} {v : Value} (h : P.underlying t = some (.interface ms)) : bn P .eql t ox oy .nilIface (.iface u v) w K = K (.bool false) w := by
  refine bn_of rfl ?_
  simp only [binOp]
  simp [Op.equal, Op.maxDepth, eqIn_nil_held h 9999]
theorem neq_nil_held {ms : Array (String × TypeId)} {u : TypeId} {v : Value} (h : P.underlying t = some (.interface ms)) : bn P .neq t ox oy .nilIface (.iface u v) w K = K (.bool true) w := by
  refine bn_of rfl ?_
  simp only [binOp]
  simp [Op.equal, Op.maxDepth, eqIn_nil_held h 9999]

/-! ### Two errors, both pointers behind one type -/
theorem bn_iface_ptr {ti tp te : TypeId} {ms : Array (String × TypeId)} {a b : Addr} {ca cb : Array Value} {ta tb sz : TypeId} (hi : P.underlying ti = some (.interface ms)) (hp : P.underlying tp = some (.pointer te))
    (hc : (P.info? tp).map (·.comparable) = some true) (hsz : szB P te = some (sz + 1)) (ha : w.heap[a.block]? = some (.cells ca ta (0, 0))) (hb : w.heap[b.block]? = some (.cells cb tb (0, 0))) :
    (binOp .eql ti (.iface tp (.pointer (some a))) (.iface tp (.pointer (some b)))).run P w = .ok (.bool (decide (a = b))) w := by
  cases hinfo : P.info? tp with
  | none => rw [hinfo] at hc; cases hc
  | some i =>
    rw [hinfo] at hc
    have hcomp : i.comparable = true := Option.some.inj hc
    cases hte : P.info? te with
    | none => unfold szB at hsz; rw [hte] at hsz; cases hsz
    | some j =>
      have hj : j.size ≠ 0 := by unfold szB at hsz; rw [hte] at hsz; simp only [Option.map_some, Option.some.injEq] at hsz; omega
      by_cases h : a = b
      · subst h
        rw [run_eql_iface_ptr_same w a hi hp hinfo hcomp hte]
        simp
      · rw [run_eql_iface_ptr_other w hi hp hinfo hcomp hte hj (a := a) (b := b) h ha hb]
        simp [h]
theorem eql_iface_ptr {ti tp te : TypeId} {ms : Array (String × TypeId)} {a b : Addr} {ca cb : Array Value} {ta tb sz : TypeId} (hi : P.underlying ti = some (.interface ms)) (hp : P.underlying tp = some (.pointer te))
    (hc : (P.info? tp).map (·.comparable) = some true) (hsz : szB P te = some (sz + 1)) (ha : w.heap[a.block]? = some (.cells ca ta (0, 0))) (hb : w.heap[b.block]? = some (.cells cb tb (0, 0))) :
    bn P .eql ti ox oy (.iface tp (.pointer (some a))) (.iface tp (.pointer (some b))) w K = K (.bool (decide (a = b))) w :=
  bn_of rfl (bn_iface_ptr hi hp hc hsz ha hb)
theorem neq_iface_ptr {ti tp te : TypeId} {ms : Array (String × TypeId)} {a b : Addr} {ca cb : Array Value} {ta tb sz : TypeId} (hi : P.underlying ti = some (.interface ms)) (hp : P.underlying tp = some (.pointer te))
    (hc : (P.info? tp).map (·.comparable) = some true) (hsz : szB P te = some (sz + 1)) (ha : w.heap[a.block]? = some (.cells ca ta (0, 0))) (hb : w.heap[b.block]? = some (.cells cb tb (0, 0))) :
    bn P .neq ti ox oy (.iface tp (.pointer (some a))) (.iface tp (.pointer (some b))) w K = K (.bool (!decide (a = b))) w := by
  have h := bn_iface_ptr (w := w) hi hp hc hsz ha hb
  refine bn_of rfl ?_
  simp only [binOp] at h ⊢
  rw [Sem.run_bind] at h ⊢
  generalize (Op.equal ti (.iface tp (.pointer (some a))) (.iface tp (.pointer (some b)))).run P w = r at h ⊢
  cases r with
  | halt x w' => simp [Result.andThen] at h
  | ok v w' =>
    simp only [Result.andThen, Sem.run_pure, Result.ok.injEq, Value.bool.injEq] at h ⊢
    obtain ⟨rfl, rfl⟩ := h
    exact ⟨rfl, rfl⟩

/-! ### Strings -/
/-- A string by its bytes. -/
def strV (bs : List UInt8) : Value := .string ⟨bs.toArray⟩
theorem bn_str_eql {a b : List UInt8} : bn P .eql t ox oy (.string ⟨a.toArray⟩) (.string ⟨b.toArray⟩) w K = K (.bool (decide (a = b))) w := by
  refine bn_of rfl ?_
  rw [binOp_string_eql]
  simp only [ByteArray.toList_mk, Sem.run_pure]
  congr 2
  exact Bool.eq_iff_iff.2 (by simp)
theorem bn_str_neq {a b : List UInt8} : bn P .neq t ox oy (.string ⟨a.toArray⟩) (.string ⟨b.toArray⟩) w K = K (.bool (!decide (a = b))) w := by
  refine bn_of rfl ?_
  rw [binOp_string_neq]
  simp only [ByteArray.toList_mk, Sem.run_pure]
  congr 3
  exact Bool.eq_iff_iff.2 (by simp)
/-- string(bytes). -/
theorem cnv_bytes {s d e n : Nat} {v : Value} {bs : List UInt8} {F : Nat → Prop} (hs : P.underlying s = some (.slice e)) (he : P.underlying e = some (.int .u8)) (hd : P.underlying d = some .string)
    (h : Rd w e 1 v n (bs.map fun b => .int .u8 b.toNat) F) : cnv P s d v w K = K (.string ⟨bs.toArray⟩) w := by
  obtain ⟨a, c, rfl, h2, h3, h4, h5⟩ := h
  have hlen : bs.length = n := by simpa using h3
  unfold cnv
  apply sem_ok
  rw [run_convert_bytes_string w s d e a n c hs he hd]
  have hmap : (bs.map fun b => Value.int .u8 (b.toNat : Int)) = (bs.map fun b => (b.toNat : Int)).map (Value.int .u8) := by simp
  cases a with
  | none =>
    have hb : bs = [] := by
      rcases h5 with h5 | ⟨_, _, _, _, _, h6, _⟩
      · exact List.map_eq_nil_iff.1 h5
      · cases h6
    subst hb
    rfl
  | some a =>
    rw [run_bytesToString w a n c (bs.map fun b => (b.toNat : Int)), foldl_push_bytes]
    · have hid : ∀ l : List UInt8, List.map ((fun n : Int => UInt8.ofNat n.toNat) ∘ fun b : UInt8 => (b.toNat : Int)) l = l := fun l => by
        induction l with
        | nil => rfl
        | cons b l ih => rw [List.map_cons, ih]; simp
      simp only [ByteArray.empty, ByteArray.emptyWithCapacity, List.map_map, hid]
      simp
      rfl
    · rw [← hmap]
      rcases h5 with h5 | ⟨b, o, cs, e', fr, h6, h7, h8, h9⟩
      · have hb : bs = [] := List.map_eq_nil_iff.1 h5
        subst hb
        have hn : n = 0 := by simpa using hlen.symm
        subst hn
        rfl
      · cases h6
        have := run_firstCells_some (P := P) w 1 n ⟨b, o, none⟩ n c (bs.map fun b => Value.int .u8 (b.toNat : Int)) (by simpa using hlen) (fun j u hj => by
          have hl := (List.getElem?_eq_some_iff.1 hj).1
          rw [add_block, cell_eq, h8]
          exact (h9 j hl).trans hj)
        simpa [Builtin.firstCells] using this

theorem zrs_one {z : Value} {n : Nat} : zrs #[z] n = (List.replicate n z).toArray := by
  apply Array.ext
  · simp [zrs]
  · intro i h1 h2
    simp only [zrs, Array.getElem_map, List.getElem_toArray, List.getElem_replicate]
    simp [Nat.mod_one]
/-- A literal of one-cell elements, all told. -/
theorem fill_lit {z : Value} : ∀ (vs pre : List Value), (∀ v ∈ vs, oneC v = true) → ∀ (k : Nat), k = pre.length →
    Instr.fill (fun i => some (i * 1, 1)) (pre ++ List.replicate vs.length z).toArray (vs.zipIdx k |>.map fun p => (p.2, p.1)) = some (pre ++ vs).toArray
  | [], pre, _, k, _ => by simp [Instr.fill]
  | v :: vs, pre, hv, k, hk => by
    subst hk
    have h1 : v.cells = #[v] := cells_one (hv v List.mem_cons_self)
    have ih := fill_lit (z := z) vs (pre ++ [v]) (fun u hu => hv u (List.mem_cons_of_mem _ hu)) (pre.length + 1) (by simp)
    simp only [List.zipIdx_cons, List.map_cons, Instr.fill, h1, Nat.mul_one]
    rw [if_neg (by simp)]
    have e : (#[v].zipIdx.foldl (fun (cs : Array Value) (x : Value × Nat) => cs.setIfInBounds (pre.length + x.2) x.1) (pre ++ List.replicate (v :: vs).length z).toArray) = ((pre ++ [v]) ++ List.replicate vs.length z).toArray := by
      simp [List.replicate_succ]
    simp only [Nat.mul_one] at ih
    rw [show (pre ++ v :: vs) = (pre ++ [v]) ++ vs from by simp, ← ih, ← e]
theorem bsl_vals {e n : Nat} {vs : List Value} {z : Value} (h : P.underlying t = some (.slice e)) (hs : szB P e = some 1) (hz : zeroB P e = some z) (hz1 : z.cells = #[z]) (hn : vs.length = n) (h0 : 0 < n) (hn2 : n ≤ 65536) (hv : ∀ v ∈ vs, oneC v = true) :
    bsl P t n (vs.zipIdx.map fun p => (p.2, p.1)) w K = K (.slice (some ⟨w.heap.size, 0, none⟩) n n) (w.alloc (.cells vs.toArray e)) := by
  subst hn
  unfold bsl
  apply sem_ok
  unfold Instr.buildSlice
  rw [Sem.run_bind, run_und h]
  simp only [Result.andThen]
  rw [Sem.run_bind, run_sz hs]
  simp only [Result.andThen, Nat.mul_one]
  rw [if_neg (by omega), if_neg (by omega)]
  simp only [pure_bind, Sem.run_bind, run_zero hz, Result.andThen]
  have e1 : (Array.range vs.length).map (fun x => z.cells[x % z.cells.size]!) = (List.replicate vs.length z).toArray := by
    have : zrs z.cells vs.length = (List.replicate vs.length z).toArray := by rw [hz1]; exact zrs_one
    rw [← this]
    unfold zrs
    rw [hz1]
    simp
  rw [e1]
  have hf := fill_lit (z := z) vs [] hv 0 rfl
  simp only [Nat.mul_one, List.nil_append] at hf
  rw [hf]
  rfl
/-- A literal of numbers. -/
theorem bsl_lit {e n : Nat} {parts : List (Nat × Value)} {z : Value} {cs : Array Value} (h : P.underlying t = some (.slice e)) (hs : szB P e = some 1) (hz : zeroB P e = some z) (hn : 0 < n) (hn2 : n ≤ 65536)
    (hf : Instr.fill (fun i => some (i * 1, 1)) (zrs z.cells n) parts = some cs) (hz1 : z.cells.size = 1) : bsl P t n parts w K = K (.slice (some ⟨w.heap.size, 0, none⟩) n n) (w.alloc (.cells cs e)) := by
  unfold bsl
  apply sem_ok
  unfold Instr.buildSlice
  rw [Sem.run_bind, run_und h]
  simp only [Result.andThen]
  rw [Sem.run_bind, run_sz hs]
  simp only [Result.andThen, Nat.mul_one]
  rw [if_neg (by omega), if_neg (by omega)]
  simp only [pure_bind, Sem.run_bind, run_zero hz, Result.andThen]
  have e1 : (Array.range n).map (fun x => z.cells[x % z.cells.size]!) = zrs z.cells n := by unfold zrs; rw [hz1, Nat.mul_one]
  rw [e1]
  simp only [Nat.mul_one] at hf
  rw [hf]
  rfl

/-- []byte("..") of a literal: the block is marked. -/
theorem cnv_mark {e b o n c : Nat} {cs : Array Value} {fr : Nat × Nat} (h : P.underlying t = some (.slice e)) (he : P.underlying e = some (.int .u8)) (hb : w.heap[b]? = some (.cells cs e fr))
    (hK : ∀ w' fr', Kp (fun x => x = b) w w' → w'.heap[b]? = some (.cells cs e fr') → K (.slice (some ⟨b, o, none⟩) n c) w') : cnv P t t (.slice (some ⟨b, o, none⟩) n c) w K := by
  have hsh : w.shape? b = some (e, cs.size) := by unfold World.shape?; rw [hb]
  have hfz : ∀ x, x ≠ b → (w.freeze ⟨b, cs.size, none⟩ 1).heap[x]? = w.heap[x]? := fun x hx => by
    unfold World.freeze
    simp only [show ¬ (1 = 0) from by omega, if_false, Array.getElem?_modify]
    rw [if_neg (Ne.symm hx)]
  have hsame : ∃ fr', (w.freeze ⟨b, cs.size, none⟩ 1).heap[b]? = some (.cells cs e fr') := by
    unfold World.freeze
    simp only [show ¬ (1 = 0) from by omega, if_false, Array.getElem?_modify, if_true, hb, Option.map_some]
    exact ⟨_, rfl⟩
  obtain ⟨fr', hfr⟩ := hsame
  unfold cnv
  rw [sem_ok (v := .slice (some ⟨b, o, none⟩) n c) (w' := w.freeze ⟨b, cs.size, none⟩ 1)]
  · exact hK _ fr' ⟨by unfold World.freeze; simp, fun x _ hx => hfz x hx, rfl, rfl, rfl⟩ hfr
  · unfold convert
    simp only [Sem.run_bind, run_und h, Result.andThen, run_und he, beq_self_eq_true, markStringish]
    have hs : (shape b : Sem _).run P w = .ok (some (e, cs.size)) w := by show Result.ok (w.shape? b) w = _; rw [hsh]
    rw [hs]
    rfl
end
end Go.TS
