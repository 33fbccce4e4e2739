/- From a law's walk to the row: what is read of the arguments, what the errors are, and that all reads as it did. Lemmas over any program. No statement of the seat is proved in this text. -/
import Derived.Test.YtfiakplgifimkaaDoorTsMem
import Derived.Carry
import Derived.ChangeSame
import Derived.ChangeVars
import Derived.ChangeCalls
import Derived.Stop.Joined
import Derived.Stop.LaidErr
import Derived.Handed
import Derived.JoinedOf
import Derived.RowKit
import Derived.LaidLaws
import Derived.LaidMore
import Derived.LaidHandle
import Derived.MakeChecks
import Derived.Deep.Slices
namespace Go.TS
open Go.ChangeShapes Go.WideShapes Go.RowKit

theorem Kp.below {W W' : World} (h : Kp none_ W W') : Below W.heap.size W W' := ⟨h.os, h.tape, h.out, h.sz, fun k hk => h.at_ k hk fun h => h⟩

section
variable {H : Type} {enc : TypeId × Value → H} {P : Program}
theorem trodAll_below (hl : laidOutB P = true) {W W' : World} (hb : Below W.heap.size W W') : ∀ {ts : List TypeId} {vs : List Value} {ds : List (DataW H)} {ps : List MemPlace}, (∀ t ∈ ts, P.readableRec t = true ∧ t < P.types.size) →
    DataW.TrodAll enc P W 0 (fun _ => true) true ts vs ds ps → (∀ x ∈ ps, x.block < W.heap.size) → DataW.TrodAll enc P W' 0 (fun b => decide (b < W.heap.size)) true ts vs ds ps
  | [], _, _, _, _, h, _ => by obtain ⟨rfl, rfl, rfl⟩ := trodAll_nil h; rfl
  | t :: ts, _, _, _, hr, h, hlt => by
    obtain ⟨v, vs1, d, ds1, a, b, rfl, rfl, rfl, h1, h2⟩ := trodAll_cons h
    exact ⟨a, b, Below.trod hl (hr t List.mem_cons_self).1 (hr t List.mem_cons_self).2 h1 hb fun x hx => hlt x (List.mem_append_left _ hx),
      trodAll_below hl hb (fun u hu => hr u (List.mem_cons_of_mem _ hu)) h2 fun x hx => hlt x (List.mem_append_right _ hx), rfl⟩

/-- The specification of a law. -/
def LawSpec (s : ChangeSpec) (n : Nat) : Prop := s.vars = [] ∧ ∀ (H : Type) (ds : List (DataW H)), ds.length = n → s.fn H ds = { results := [.lit (.bool true)], args := ds }
def paramsB (P : Program) (f : Func) : Bool := f.params.toList.all fun t => P.readableRec t && decide (t < P.types.size)
theorem law_post {f : Func} {s : ChangeSpec} {W W' : World} {args : Array Value} {ds gs : List (DataW H)} {before : List MemPlace} {tb : TypeId} (hs : LawSpec s f.params.size) (hW : DataW.Whole enc P f.params.toList s.vars false W args.toList ds gs before)
    (hres : f.resultTypes = #[tb]) (htb : P.underlying tb = some .bool) (hl : laidOutB P = true) (hr : paramsB P f = true) (hk : Kp none_ W W') : s.post enc P f false true false false W args (.bool true) W' := by
  obtain ⟨hv, hfn⟩ := hs
  have hW' := hW
  obtain ⟨p, q, hA, hV, rfl, hfz, hnd⟩ := hW
  rw [hv] at hV
  obtain ⟨rfl, rfl⟩ := trodVars_none hV
  have hlen : (ds ++ []).length = f.params.size := by rw [List.append_nil]; simpa using (trodAll_length hA).2
  have hr' : ∀ t ∈ f.params.toList, P.readableRec t = true ∧ t < P.types.size := fun t ht => by
    have := List.all_eq_true.1 hr t ht
    simpa using this
  have hlt : ∀ x ∈ p, x.block < W.heap.size := fun x hx => hA.lt x hx
  refine ⟨ds, [], p ++ [], [], p, [], hW', ?_, ?_, ?_, hk.below.frame _, fun h => by cases h⟩
  · rw [hfn H _ hlen, hres]
    exact trodAll_mk1 (shut_bool htb true)
  · rw [hfn H _ hlen]
    show DataW.TrodAll enc P W' 0 _ true f.params.toList args.toList (ds ++ []) p
    rw [List.append_nil]
    exact trodAll_below hl hk.below hr' hA hlt
  · rw [hv, hfn H _ hlen]
    rfl
end

/-- What a law is handed: values that read as data, and the errors laid. -/
def Handed (P : Program) (f : Func) (laid : List (String × DataW Unit)) (W : World) (args : Array Value) : Prop :=
  (∀ (j : Nat) t v, f.params[j]? = some t → args[j]? = some v → Value.okWide P W .any 0 t v) ∧
  (∃ (H : Type) (enc : TypeId × Value → H) (ds : List (DataW H)) (p : List MemPlace), DataW.TrodAll enc P W 0 (fun _ => true) true f.params.toList args.toList ds p ∧ (DataW.weightsEach P f.params.toList ds).all (· ≤ reachBytes) = true) ∧
  (laid ≠ [] → laidMet P laid W)
theorem base_any {P : Program} {W : World} {b : Nat} {t : TypeId} {v : Value} (h : Value.okWide P W .any b t v) : Value.okWide P W .any 0 t v := by
  have hc : ∀ u x, Cell.okWide P W .any b u x → Cell.okWide P W .any 0 u x := fun u x hx => hx
  unfold Value.okWide at h ⊢
  exact h

theorem lifted {C : Checked} {os : Os} {f : FuncId} {fn : Func} {s : ChangeSpec} {laid : List (String × DataW Unit)} {tb : TypeId} {H : Type} {enc : TypeId × Value → H}
    (own : ownKnob C.prog.godebug = none) (started : os.Started) (noInit : C.prog.inits.idxOf? f = none) (hfn : C.prog.funcs[f]? = some fn)
    (witness : ∃ (w : World) (tape : Tape) (i : Input), w.os = os ∧ (w.forCall tape i).Shaped C.prog ∧ i.vars = [] ∧ Input.okWide C.prog (w.forCall tape i) .any w.heap.size f i ∧
      ((s.pre enc C.prog fn [] false (w.forCall tape i).memory i.args ∧ laidMetH C.prog laid (w.forCall tape i).memory) ∧ sizedMet enc C.prog fn (OpenSpec.ofChange s) false (w.forCall tape i).memory i.args) ∧ ({} : Assume).holds C.prog (lone (Frame.enter C.prog f i.args .normal) [] (w.forCall tape i)))
    (hs : LawSpec s fn.params.size) (hres : fn.resultTypes = #[tb]) (htb : C.prog.underlying tb = some .bool) (hl : laidOutB C.prog = true) (hr : paramsB C.prog fn = true) (hpl : (laid.all fun x => x.2.handleName?.isNone) = true)
    (law : ∀ (W : World) (args : Array Value), Handed C.prog fn laid W args → call C.prog f args W fun v W' => v = .bool true ∧ Kp none_ W W') :
    ReturnsInHanded {} C os f .any (fun w args => (s.pre enc C.prog fn [] false w args ∧ laidMetH C.prog laid w) ∧ sizedMet enc C.prog fn (OpenSpec.ofChange s) false w args) (s.post enc C.prog fn false true false false) := by
  refine returnsInHanded_of_change_and (C := C) (X := fun w _ => laidMetH C.prog laid w) (fun _ _ _ hh h => h.of_heap hh) own started noInit hfn witness ?_
  intro W base args ds gs before hval hW _ hz hL _
  have hW' := hW
  obtain ⟨p, q, hA, hV, rfl, _, _⟩ := hW'
  have hvr : s.plain.varTypes C.prog = [] := by unfold ChangeSpec.plain DataSpec.varTypes; rw [hs.1]; rfl
  rw [hs.1] at hV
  obtain ⟨rfl, rfl⟩ := trodVars_none hV
  have hz' : (DataW.weightsEach C.prog fn.params.toList ds).all (· ≤ reachBytes) = true := by
    rw [hvr, List.append_nil, List.append_nil] at hz
    exact hz
  obtain ⟨_, hc⟩ := law W args ⟨fun j t v h1 h2 => base_any (hval j t v h1 h2), ⟨H, enc, ds, p, hA, hz'⟩, fun _ => by rw [MakeChecks.laidMetH_plain _ _ _ hpl] at hL; exact hL⟩
  refine hc.mono fun e W' ⟨v, he, hv, hk⟩ => ?_
  subst hv
  exact ⟨_, he, law_post hs hW hres htb hl hr hk⟩


/-- The errors that a row lists: each variable's cell, what lies behind it. -/
def laidList (nm : String) (G : List (String × List UInt8 × Nat)) : List (String × DataW Unit) := G.map fun x => (x.1, .iface nm (.ptr (.agg [.lit (.string x.2.1)])))
theorem laid_errs {P : Program} {nm : String} {W : World} {ti tp te ts : TypeId} {ms : Array (String × TypeId)} {f : Field} (hi : P.underlying ti = some (.interface ms)) (hrow : ∀ u, P.typeName? 3 u = some nm → u = tp)
    (hp : P.underlying tp = some (.pointer te)) (he : P.underlying te = some (.struct #[f])) (hft : f.type = ts) (hfo : f.offset = 0) (hs : P.underlying ts = some .string) (hc : P.cellsOf te = 1) (hcs : P.cellsOf ts = 1) :
    ∀ (G : List (String × List UInt8 × Nat)), (∀ x ∈ G, P.globalNamed x.1 = some x.2.2 ∧ (P.globals[x.2.2]?).map (·.type) = some ti) → laidMet P (laidList nm G) W →
      ∀ x ∈ G, ∃ (a : Addr) (s : ByteArray) (c : Array Value) (t : TypeId), cellOf W.heap[x.2.2]? 0 = some (.iface tp (.pointer (some a))) ∧ W.cell? a = some (.string s) ∧ s.data.toList = x.2.1 ∧ W.heap[a.block]? = some (.cells c t (0, 0))
  | [], _, _, x, hx => by cases hx
  | y :: G, hg, h, x, hx => by
    rcases List.mem_cons.1 hx with rfl | hx
    · have hl : laidMet P ((x.1, .iface nm (.ptr (.agg [.lit (.string x.2.1)]))) :: laidList nm G) W := h
      obtain ⟨ps, ⟨g0, t0, cs0, f0, p0, q0, hg0, ht0, hv0, hd0, _, e0⟩, _, hrows⟩ := hl
      obtain ⟨hg1, ht1⟩ := hg x List.mem_cons_self
      obtain rfl := Option.some.inj (hg1.symm.trans hg0)
      obtain rfl := Option.some.inj (ht1.symm.trans ht0)
      subst e0
      obtain ⟨l0⟩ := cs0
      have hcell : ∀ u, l0 = [u] → cellOf W.heap[x.2.2]? 0 = some u := fun u e => by
        subst e
        have := World.var?_cell hg0 hv0 0
        rw [cell_eq] at this
        simpa using this
      have ok0 : ∀ u v, l0 = [.iface u v] → Value.okWide P W .any 0 u v := fun u v e => by
        subst e
        exact (hrows x.2.2 0 (by simp [MemPlace.row])).2 u v (by rw [cell_eq]; exact hcell _ rfl)
      obtain ⟨a0, s0, e1, hc0, hs0, hz0, e2⟩ := errorString_of_trod hi hrow hp he hft hfo hs hc hcs hd0 ok0
      subst e2
      obtain ⟨c, t, hb⟩ := (hrows a0.block a0.off (by simp [MemPlace.row])).1
      exact ⟨a0, s0, c, t, hcell _ e1, hc0, hs0, hb⟩
    · exact laid_errs hi hrow hp he hft hfo hs hc hcs G (fun z hz => hg z (List.mem_cons_of_mem _ hz)) (laidMet.tail h) x hx
/-- Where a variable's error lies. -/
noncomputable def erAddr (w : World) (g : Nat) : Addr := match cellOf w.heap[g]? 0 with
  | some (.iface _ (.pointer (some a))) => a
  | _ => default
def globalsB (P : Program) (ti : TypeId) (G : List (String × List UInt8 × Nat)) : Bool := G.all fun x => P.globalNamed x.1 == some x.2.2 && (P.globals[x.2.2]?).map (·.type) == some ti
end Go.TS
