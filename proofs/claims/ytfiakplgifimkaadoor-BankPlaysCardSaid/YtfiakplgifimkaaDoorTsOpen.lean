/- What a value that reads as data is made of: one law a kind of type. Lemmas over any program. No statement of the seat is proved in this text. -/
import Derived.Test.YtfiakplgifimkaaDoorTsRow
import Derived.OpenShut
namespace Go.TS
open Go.ChangeShapes Go.WideShapes Go.RowKit

/-- The cells of a value of type t read as data, none of its parts beyond the reach. -/
def Rdd (P : Program) (w : World) (t : TypeId) (cs : List Value) : Prop :=
  ∃ (H : Type) (enc : TypeId × Value → H) (fuel : Nat) (x : DataW H × List MemPlace), DataW.trod enc P w 0 (fun _ => true) true fuel t cs = some x ∧ (x.1.weights P t).all (· ≤ reachBytes) = true

section
variable {P : Program} {w : World} {t : TypeId} {cs : List Value}
theorem Rdd.int {k : IntKind} (h : Rdd P w t cs) (ht : P.underlying t = some (.int k)) : ∃ n, cs = [.int k n] ∧ k.min ≤ n ∧ n ≤ k.max := by
  obtain ⟨H, enc, fuel, x, h, _⟩ := h
  obtain ⟨n, h1, _, h2⟩ := DataW.trod_int ht h
  simp only [Lit.wf, Bool.and_eq_true, decide_eq_true_eq] at h2
  exact ⟨n, h1, h2.1, h2.2⟩
theorem Rdd.bool (h : Rdd P w t cs) (ht : P.underlying t = some .bool) : ∃ b, cs = [.bool b] := by
  obtain ⟨H, enc, fuel, x, h, _⟩ := h
  obtain ⟨b, h1, _⟩ := DataW.trod_bool ht h
  exact ⟨b, h1⟩
theorem Rdd.string (h : Rdd P w t cs) (ht : P.underlying t = some .string) : ∃ s : ByteArray, cs = [.string s] ∧ s.size ≤ reachBytes := by
  obtain ⟨H, enc, fuel, x, h, hw⟩ := h
  obtain ⟨s, h1, h2, _⟩ := DataW.trod_string ht h
  subst h2
  refine ⟨s, h1, ?_⟩
  simpa [DataW.weights] using hw
theorem weightsAll_mem {H : Type} {e : TypeId} : ∀ {l : List (DataW H)} {d : DataW H}, d ∈ l → ∀ n ∈ d.weights P e, n ∈ DataW.weightsAll P e l
  | [], _, h, _, _ => by cases h
  | c :: l, d, h, n, hn => by
    rw [DataW.weightsAll]
    rcases List.mem_cons.1 h with rfl | h
    · exact List.mem_append_left _ hn
    · exact List.mem_append_right _ (weightsAll_mem h n hn)
theorem weightsEach_mem {H : Type} : ∀ {ts : List TypeId} {l : List (DataW H)} {i : Nat} {d : DataW H} {t : TypeId}, ts[i]? = some t → l[i]? = some d → ∀ n ∈ d.weights P t, n ∈ DataW.weightsEach P ts l
  | [], _, _, _, _, h, _, _, _ => by simp at h
  | _ :: _, [], _, _, _, _, h, _, _ => by simp at h
  | u :: ts, c :: l, 0, d, t, h1, h2, n, hn => by
    simp at h1 h2
    subst h1 h2
    rw [DataW.weightsEach]
    exact List.mem_append_left _ hn
  | u :: ts, c :: l, i + 1, d, t, h1, h2, n, hn => by
    rw [DataW.weightsEach]
    exact List.mem_append_right _ (weightsEach_mem (by simpa using h1) (by simpa using h2) n hn)
theorem Rdd.slice {e : TypeId} (h : Rdd P w t cs) (ht : P.underlying t = some (.slice e)) (hpos : 0 < P.cellsOf e) :
    ∃ a n c, cs = [.slice a n c] ∧ n ≤ c ∧ n * P.bytesOf e ≤ reachBytes ∧ ((n = 0 ∧ (a = none → c = 0)) ∨ ∃ b o csb e' fr, a = some ⟨b, o, none⟩ ∧ w.heap[b]? = some (.cells csb e' fr) ∧
      ∀ i, i < n → ∃ es, es.length = P.cellsOf e ∧ (∀ j, j < P.cellsOf e → csb[o + i * P.cellsOf e + j]? = es[j]?) ∧ Rdd P w e es) := by
  obtain ⟨H, enc, fuel, x, h, hw⟩ := h
  rcases Deep.open_slice ht h with ⟨rfl, rfl⟩ | ⟨a, n, c, m, k, D, Pl, rfl, _, hnc, _, hm, rfl, hel⟩
  · exact ⟨none, 0, 0, rfl, Nat.le_refl _, by simp, .inl ⟨rfl, fun _ => rfl⟩⟩
  · simp only [if_true] at hm
    subst hm
    have hws : (DataW.slice ((List.range n).map D) ((List.range (m - n)).map fun j => D (n + j))).weights P t = (((List.range n).map D).length + ((List.range (m - n)).map fun j => D (n + j)).length) * P.bytesOf e :: (DataW.weightsAll P e ((List.range n).map D) ++ DataW.weightsAll P e ((List.range (m - n)).map fun j => D (n + j))) := by
      rw [DataW.weights, ht]
    have hw' : ((DataW.slice ((List.range n).map D) ((List.range (m - n)).map fun j => D (n + j))).weights P t).all (· ≤ reachBytes) = true := hw
    rw [hws] at hw'
    simp only [List.all_cons, Bool.and_eq_true, decide_eq_true_eq, List.length_map, List.length_range, List.all_append] at hw'
    obtain ⟨hb, hwe, _⟩ := hw'
    refine ⟨some a, n, m, rfl, hnc, Nat.le_trans (Nat.mul_le_mul_right _ (by omega)) hb, ?_⟩
    rcases Nat.eq_zero_or_pos n with h0 | h0
    · exact .inl ⟨h0, fun h => by cases h⟩
    · right
      obtain ⟨b, o, s⟩ := a
      obtain ⟨cs0, hc0, _⟩ := hel 0 (by omega)
      obtain ⟨_, hl0, hr0⟩ := World.cells?_some hc0
      have hcell := hr0 0 hpos
      rw [List.getElem?_eq_getElem (by omega)] at hcell
      simp only [Nat.zero_mul, Addr.add, if_true] at hcell
      unfold World.cell? at hcell
      split at hcell
      · rename_i csb e' fr hblk
        split at hcell
        · cases hcell
        · rename_i hs
          have hs' : s = none := by simpa using hs
          subst hs'
          refine ⟨b, o, csb, e', fr, rfl, hblk, fun i hi => ?_⟩
          obtain ⟨es, hce, hte⟩ := hel i (by omega)
          obtain ⟨_, hl, hr⟩ := World.cells?_some hce
          refine ⟨es, hl, fun j hj => ?_, H, enc, k, _, hte, ?_⟩
          · have := hr j hj
            rw [add_block, add_block, cell_eq, hblk] at this
            exact this
          · rw [List.all_eq_true]
            intro q hq
            exact List.all_eq_true.1 hwe q (weightsAll_mem (d := D i) (List.mem_map.2 ⟨i, List.mem_range.2 hi, rfl⟩) q hq)
      · cases hcell
theorem Rdd.struct {fs : Array Field} (h : Rdd P w t cs) (ht : P.underlying t = some (.struct fs)) : cs.length = P.cellsOf t ∧ ∀ (i : Nat) (f : Field), fs[i]? = some f → Rdd P w f.type ((cs.drop f.offset).take (P.cellsOf f.type)) := by
  obtain ⟨H, enc, fuel, x, h, hw⟩ := h
  obtain ⟨xs, n, _, rfl, hl, hxl, hf⟩ := DataW.trod_struct ht h
  refine ⟨hl, fun i f hi => ?_⟩
  have hi' : i < xs.length := by rw [hxl]; exact (Array.getElem?_eq_some_iff.1 hi).1
  have h1 := hf i f hi
  rw [List.getElem?_eq_getElem hi'] at h1
  refine ⟨H, enc, n, _, h1, ?_⟩
  rw [DataW.weights, ht] at hw
  rw [List.all_eq_true] at hw ⊢
  intro q hq
  exact hw q (weightsEach_mem (i := i) (d := xs[i].1) (t := f.type) (by simp [hi]) (by simp [hi']) q hq)
theorem Rdd.array {n : Nat} {e : TypeId} (h : Rdd P w t cs) (ht : P.underlying t = some (.array n e)) : cs.length = P.cellsOf t ∧ ∀ i, i < n → Rdd P w e ((cs.drop (i * P.cellsOf e)).take (P.cellsOf e)) := by
  obtain ⟨H, enc, fuel, x, h, hw⟩ := h
  obtain ⟨xs, m, _, rfl, hl, hxl, hf⟩ := DataW.trod_array ht h
  refine ⟨hl, fun i hi => ?_⟩
  have hi' : i < xs.length := by rw [hxl]; exact hi
  have h1 := hf i hi
  rw [List.getElem?_eq_getElem hi'] at h1
  refine ⟨H, enc, m, _, h1, ?_⟩
  rw [DataW.weights, ht] at hw
  rw [List.all_eq_true] at hw ⊢
  intro q hq
  exact hw q (weightsAll_mem (d := xs[i].1) (List.mem_map.2 ⟨xs[i], List.getElem_mem _, rfl⟩) q hq)
end

/-- A list of witnesses, one an index. -/
theorem list_of {α : Type} {p : Nat → α → Prop} : ∀ {n : Nat}, (∀ i, i < n → ∃ x, p i x) → ∃ l : List α, l.length = n ∧ ∀ i (h : i < l.length), p i l[i]
  | 0, _ => ⟨[], rfl, fun i h => by simp at h⟩
  | n + 1, h => by
    obtain ⟨l, hl, hp⟩ := list_of (n := n) fun i hi => h i (by omega)
    obtain ⟨x, hx⟩ := h n (by omega)
    refine ⟨l ++ [x], by simp [hl], fun i hi => ?_⟩
    by_cases h2 : i < l.length
    · rw [List.getElem_append_left h2]; exact hp i h2
    · have : i = n := by simp at hi; omega
      subst this
      rw [List.getElem_append_right (by omega)]
      simpa [hl] using hx

/-- The arguments. -/
theorem trodAll_reads {P : Program} {W : World} {H : Type} {enc : TypeId × Value → H} : ∀ {ts : List TypeId} {vs : List Value} {ds : List (DataW H)} {p : List MemPlace}, DataW.TrodAll enc P W 0 (fun _ => true) true ts vs ds p →
    (DataW.weightsEach P ts ds).all (· ≤ reachBytes) = true → vs.length = ts.length ∧ ∀ (j : Nat) (t : TypeId) (v : Value), ts[j]? = some t → vs[j]? = some v → Rdd P W t v.cells.toList
  | [], _, _, _, h, _ => by
    obtain ⟨rfl, rfl, rfl⟩ := trodAll_nil h
    exact ⟨rfl, fun j t v h => by simp at h⟩
  | u :: ts, _, _, _, h, hw => by
    obtain ⟨v, vs1, d, ds1, a, b, rfl, rfl, rfl, h1, h2⟩ := trodAll_cons h
    rw [DataW.weightsEach, List.all_append, Bool.and_eq_true] at hw
    obtain ⟨hl, hr⟩ := trodAll_reads h2 hw.2
    refine ⟨by simp [hl], fun j t x hj hx => ?_⟩
    cases j with
    | zero =>
      simp at hj hx
      subst hj hx
      obtain ⟨fuel, hf⟩ := h1
      exact ⟨H, enc, fuel, _, hf, hw.1⟩
    | succ j => exact hr j t x (by simpa using hj) (by simpa using hx)
theorem Handed.args {P : Program} {f : Func} {laid : List (String × DataW Unit)} {W : World} {args : Array Value} (h : Handed P f laid W args) :
    args.size = f.params.size ∧ ∀ (j : Nat) (t : TypeId) (v : Value), f.params[j]? = some t → args[j]? = some v → Rdd P W t v.cells.toList ∧ (aggB P t = some false → oneC v = true) ∧ (aggB P t = some true → ∃ cs, v = .agg cs) := by
  obtain ⟨hok, ⟨H, enc, ds, p, hA, hw⟩, _⟩ := h
  obtain ⟨hl, hr⟩ := trodAll_reads hA hw
  refine ⟨by simpa using hl, fun j t v ht hv => ⟨hr j t v (by simpa using ht) (by simpa using hv), fun ha => ?_, fun ha => ?_⟩⟩
  · have := hok j t v ht hv
    unfold Value.okWide at this
    unfold aggB at ha
    cases hu : P.underlying t with
    | none => rw [hu] at ha; cases ha
    | some d =>
      rw [hu] at ha this
      cases d <;> simp [aggD] at ha <;> (unfold Cell.okWide Cell.ok at this; rw [hu] at this; cases v <;> first | rfl | (simp at this))
  · have := hok j t v ht hv
    unfold Value.okWide at this
    unfold aggB at ha
    cases hu : P.underlying t with
    | none => rw [hu] at ha; cases ha
    | some d =>
      rw [hu] at ha this
      cases d <;> simp [aggD] at ha
      · obtain ⟨cs, h1, _⟩ := this; exact ⟨cs, h1⟩
      · obtain ⟨cs, h1, _⟩ := this; exact ⟨cs, h1⟩
end Go.TS
