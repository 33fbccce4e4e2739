/- Lemmas of this session over the kit's model: a predicate transformer on environments that are functions, and its soundness for the model's operations. No statement of the seat is proved in this text. -/
import Derived.Orders
import Derived.Scope
import Derived.Laws.Sem
import Derived.KernelRfl
namespace Go.TS

abbrev Env := Nat → Value
def upd (env : Env) (d : Nat) (v : Value) : Env := fun t => bif Nat.beq t d then v else env t
def put (env : Env) (o : Option Tmp) (v : Value) : Env := match o with | some d => upd env d v | none => env
def ev (env : Env) : Operand → Value
  | .tmp t => env t
  | .const v => v
  | .global g => .pointer (some ⟨g, 0, none⟩)
  | .func f => .func (.func f) #[] #[]

def sem (P : Program) (s : Sem Value) (w : World) (K : Value → World → Prop) : Prop := match s.run P w with | .ok v w' => K v w' | .halt _ _ => False
def semU (P : Program) (s : Sem Unit) (w : World) (K : World → Prop) : Prop := match s.run P w with | .ok _ w' => K w' | .halt _ _ => False
def plainF (P : Program) (f : FuncId) : Bool := match P.funcs[f]? with | some fn => !(fn.name == "runtime.NumGoroutine") && !fn.body.isNone | none => false
def call (P : Program) (f : FuncId) (args : Array Value) (w : World) (K : Value → World → Prop) : Prop :=
  plainF P f = true ∧ Calls P f args w fun e w' => ∃ v, e = .returned v ∧ K v w'
def nextK (P : Program) (r : Result Next) (K : Value → World → Prop) : Prop :=
  match r with
  | .ok (.value v) w' => K v w'
  | .ok (.enter f args) w' => Calls P f args w' fun e w'' => ∃ v, e = .returned v ∧ K v w''
  | _ => False
def callV (P : Program) (fv : Value) (args : List Value) (w : World) (K : Value → World → Prop) : Prop :=
  match fv with
  | .func (.func f) first captured => call P f (first.toList ++ args ++ captured.toList).toArray w K
  | fv => nextK P ((do let d ← Deferred.ofValue fv args.toArray; invoke d.target d.args : Sem Next).run P w) K
def callI (P : Program) (recv : Value) (name : String) (args : List Value) (w : World) (K : Value → World → Prop) : Prop :=
  nextK P ((callMethod recv name args.toArray).run P w) K
def ck (x : Value) (w : World) (K : Value → World → Prop) : Prop :=
  match x with
  | .pointer none | .nilIface | .nilFunc => False
  | .func (.method _) _ _ => False
  | x => K x w
def pickP (c a b : Value) (w : World) (K : Value → World → Prop) : Prop :=
  match c with
  | .bool t => K (bif t then a else b) w
  | _ => False
def gsplit (v : Value) (A B : Prop) : Prop :=
  match v with
  | .bool true => A
  | .bool false => B
  | _ => False

def wpO (P : Program) (ρ : Operand → Value) (o : Op) (ty : TypeId) (w : World) (K : Value → World → Prop) : Prop :=
  match o with
  | .move x | .assign x => K (ρ x) w
  | .pick c a b => pickP (ρ c) (ρ a) (ρ b) w K
  | .alloc e => sem P (Instr.alloc e true (.tuple #[])) w K
  | .box e x => sem P (Instr.box e (ρ x)) w K
  | .build t parts => sem P (Instr.build t (parts.toList.map fun p => (p.1, ρ p.2)).toArray) w K
  | .buildSlice t n parts => sem P (Instr.buildSlice t n (parts.toList.map fun p => (p.1, ρ p.2)).toArray) w K
  | .load t a => sem P (Instr.loadAt t (ρ a)) w K
  | .store t a x => semU P (Instr.storeAt t (ρ a) (ρ x)) w (K undef)
  | .nilCheck x => ck (ρ x) w K
  | .binOp op t x y _ => semU P (eqGuard op t x y (ρ x) (ρ y)) w fun w => sem P (binOp op t (ρ x) (ρ y)) w K
  | .unOp op _ x => sem P (Op.unary op (ρ x)) w K
  | .convert s d x => sem P (convert s d (ρ x)) w K
  | .makeInterface t x => sem P (Instr.makeInterface t (ρ x)) w K
  | .makeFunc fn first captured => sem P (Instr.makeFunc fn (first.toList.map ρ).toArray (captured.toList.map ρ).toArray) w K
  | .makeMap t r => sem P (Instr.makeMap t (r.map ρ)) w K
  | .makeSlice t l c => sem P (Instr.makeSlice t (ρ l) (ρ c)) w K
  | .slice t x lo hi mx => sem P (Instr.sliceAt t (ρ x) (lo.map ρ) (hi.map ρ) (mx.map ρ)) w K
  | .fieldAddr s x f => sem P (Instr.fieldAt s (ρ x) f) w K
  | .field t x f => sem P (Instr.field t (ρ x) f) w K
  | .indexAddr t x i => sem P (Instr.indexAt t (ρ x) (ρ i)) w K
  | .index t x i => sem P (Instr.index t (ρ x) (ρ i)) w K
  | .lookup t x i ok => sem P (Instr.lookup t (ρ x) (ρ i) ok) w K
  | .mapUpdate t m k x | .insert t m k x => semU P (Instr.mapUpdate t (ρ m) (ρ k) (ρ x)) w (K undef)
  | .mapEntry t m k => sem P (Instr.mapEntry t (ρ m) (ρ k)) w K
  | .entryStore t m s x => semU P (Instr.entryStore t (ρ m) (ρ s) (ρ x)) w (K undef)
  | .range t x => sem P (Instr.range t (ρ x)) w K
  | .next it b => sem P (Instr.next (ρ it) b ty) w K
  | .entry it => sem P (Instr.entry (ρ it)) w K
  | .typeAssert x t u ok => sem P (Instr.typeAssert (ρ x) t u ok) w K
  | .extract t i => sem P (Instr.extract (ρ t) i) w K
  | .call c => match c.callee with
    | .value f => callV P (ρ f) (c.args.toList.map ρ) w K
    | .invoke r name => callI P (ρ r) name (c.args.toList.map ρ) w K
    | .builtin .append => sem P (Builtin.append_ c.argTypes ty (c.args.toList.map ρ).toArray) w K
    | .builtin .len => sem P (Builtin.len_ c.argTypes ty (c.args.toList.map ρ).toArray) w K
    | .builtin .cap => sem P (Builtin.cap_ c.argTypes ty (c.args.toList.map ρ).toArray) w K
    | .builtin .copy => sem P (Builtin.copy_ c.argTypes ty (c.args.toList.map ρ).toArray) w K
    | .builtin .delete => sem P (Builtin.delete_ c.argTypes ty (c.args.toList.map ρ).toArray) w K
    | .builtin .clear => sem P (Builtin.clear_ c.argTypes ty (c.args.toList.map ρ).toArray) w K
    | .builtin .max => sem P (Builtin.max_ c.argTypes ty (c.args.toList.map ρ).toArray) w K
    | .builtin .min => sem P (Builtin.min_ c.argTypes ty (c.args.toList.map ρ).toArray) w K
    | _ => False
  | _ => False

/-- The environment agrees with the frame. -/
structure Agree (n : Nat) (env : Env) (a : Act) : Prop where
  size : a.tmps.size = n
  get : ∀ t, a.tmps.getD t undef = env t
  defers : a.defers = []

theorem Agree.eval {n : Nat} {env : Env} {a : Act} (h : Agree n env a) : a.eval = ev env := by
  funext x
  cases x <;> simp only [Act.eval, ev]
  exact h.get _

theorem Agree.put {n : Nat} {env : Env} {a : Act} (h : Agree n env a) {dst : Option Tmp} (hd : ∀ d, dst = some d → d < n) (v : Value) :
    Agree n (put env dst v) (a.put dst v) := by
  cases dst with
  | none => exact h
  | some d =>
    have hlt := hd d rfl
    refine ⟨by simp [Act.put, h.size], fun t => ?_, h.defers⟩
    simp only [Act.put, TS.put, upd]
    by_cases e : t = d
    · subst e
      simp [h.size, hlt]
    · have e2 : Nat.beq t d = false := by
        cases hb : Nat.beq t d with
        | true => exact absurd (Nat.eq_of_beq_eq_true hb) e
        | false => rfl
      rw [e2]
      have := h.get t
      simp only [cond_false]
      rw [← this]
      simp [Array.getD_eq_getD_getElem?, Array.getElem?_setIfInBounds_ne (Ne.symm e)]

theorem upd_same {env : Env} {d : Nat} {v : Value} (h : env d = v) : upd env d v = env := by
  funext t
  simp only [upd]
  cases hb : Nat.beq t d with
  | true => rw [Nat.eq_of_beq_eq_true hb, h]; rfl
  | false => rfl

theorem sem_run {P : Program} {s : Sem Value} {w : World} {K : Value → World → Prop} (h : sem P s w K) : ∃ v w', s.run P w = .ok v w' ∧ K v w' := by
  unfold sem at h
  split at h
  · exact ⟨_, _, by assumption, h⟩
  · exact h.elim
theorem semU_run {P : Program} {s : Sem Unit} {w : World} {K : World → Prop} (h : semU P s w K) : ∃ v w', s.run P w = .ok v w' ∧ K w' := by
  unfold semU at h
  split at h
  · exact ⟨_, _, by assumption, h⟩
  · exact h.elim

theorem callFunc_plain {P : Program} {f : FuncId} {args : Array Value} {w : World} (h : plainF P f = true) : (callFunc f args).run P w = .ok (.enter f args) w := by
  unfold plainF at h
  cases hf : P.funcs[f]? with
  | none => rw [hf] at h; cases h
  | some fn =>
    rw [hf] at h
    simp only [Bool.and_eq_true, Bool.not_eq_true'] at h
    obtain ⟨h1, h2⟩ := h
    have hp : (program : Sem Program).run P w = .ok P w := rfl
    simp only [callFunc, Sem.run_bind, hp, Result.andThen, hf]
    simp only [h1, h2]
    rfl

theorem amap {α β : Type} (f : α → β) (xs : Array α) : (xs.toList.map f).toArray = xs.map f := by rw [← Array.toList_map, Array.toArray_toList]

/-- What the run of an operation owes, given what the transformer says. -/
theorem wpO_sound {P : Program} {o : Oper} {env : Env} {n : Nat} {a : Act} {w : World} {K : Value → World → Prop} {next : Act → World → Prop} {Q : Exit → Act → World → Prop}
    (hA : Agree n env a) (h : wpO P (ev env) o.op o.type w K) (hK : ∀ v w', K v w' → next (a.put o.dst v) w') : o.wp P a w next Q := by
  obtain ⟨dst, op, type, pos, after, guard⟩ := o
  have he := hA.eval
  unfold Oper.wp execOp
  rw [he]
  dsimp only at h hK ⊢
  cases op with
  | pick c x y =>
    simp only [wpO] at h
    unfold pickP at h
    split at h
    · rename_i t ht
      have := hK _ _ h
      cases t <;> simpa [ht, asBool, Oper.upon] using this
    · exact h.elim
  | nilCheck x =>
    simp only [wpO] at h
    dsimp only
    generalize ev env x = v at h ⊢
    cases v with
    | pointer p => cases p with
      | none => exact h.elim
      | some p => exact hK _ _ h
    | func fn f c => cases fn with
      | method name => exact h.elim
      | _ => exact hK _ _ h
    | nilFunc => exact h.elim
    | nilIface => exact h.elim
    | _ => exact hK _ _ h
  | call c =>
    obtain ⟨callee, args, argTypes⟩ := c
    cases callee with
    | value f =>
      simp only [wpO] at h
      have hargs : (args.toList.map (ev env)).toArray = args.map (ev env) := amap _ _
      unfold callV at h
      split at h
      · rename_i f' first captured hf
        obtain ⟨hp, h⟩ := h
        have : (first.toList ++ args.toList.map (ev env) ++ captured.toList).toArray = first ++ args.map (ev env) ++ captured := by
          apply Array.ext'; simp
        rw [this] at h
        simp only [resolve, hf, Deferred.ofValue, pure_bind, invoke, callFunc_plain hp, Oper.upon]
        exact h.mono fun e w' ⟨v, hv, hk⟩ => by subst hv; exact hK _ _ hk
      · rw [hargs] at h
        simp only [resolve, Sem.run_bind]
        simp only [Sem.run_bind] at h
        generalize hr : (Deferred.ofValue (ev env f) (args.map (ev env))).run P w = r at h ⊢
        cases r with
        | halt x w' => simp [Result.andThen, nextK] at h
        | ok d w' =>
          simp only [Result.andThen] at h ⊢
          generalize (invoke d.target d.args).run P w' = r at h ⊢
          cases r with
          | halt x w' => simp [nextK] at h
          | ok nx w' =>
            cases nx <;> simp only [nextK] at h <;> try exact h.elim
            · exact hK _ _ h
            · exact Calls.mono h fun e w' ⟨v, hv, hk⟩ => by subst hv; exact hK _ _ hk
    | invoke rcv name =>
      simp only [wpO, callI] at h
      have hargs : (args.toList.map (ev env)).toArray = args.map (ev env) := amap _ _
      rw [hargs] at h
      have hex : (#[ev env rcv] ++ args.map (ev env)).extract 1 (#[ev env rcv] ++ args.map (ev env)).size = args.map (ev env) := by
        apply Array.ext'
        simp [List.take_of_length_le]
      have h0 : (#[ev env rcv] ++ args.map (ev env))[0]? = some (ev env rcv) := by rw [Array.getElem?_append_left (by simp)]; rfl
      simp only [resolve, pure_bind, invoke, h0, hex]
      generalize (callMethod (ev env rcv) name (args.map (ev env))).run P w = r at h ⊢
      cases r with
      | halt x w' => simp [nextK] at h
      | ok nx w' =>
        cases nx <;> simp only [nextK] at h <;> try exact h.elim
        · exact hK _ _ h
        · exact Calls.mono h fun e w' ⟨v, hv, hk⟩ => by subst hv; exact hK _ _ hk
    | builtin b =>
      have hargs : (args.toList.map (ev env)).toArray = args.map (ev env) := amap _ _
      cases b <;> simp only [wpO] at h <;> first
        | exact h.elim
        | (rw [hargs] at h
           obtain ⟨v, w', hr, hk⟩ := sem_run h
           simp only [resolve, pure_bind, Sem.run_bind, Sem.run_pure, Result.andThen, invoke, builtin, hr, Oper.upon]
           exact hK _ _ hk)
  | move x => exact hK _ _ h
  | assign x => exact hK _ _ h
  | binOp op t x y u =>
    simp only [wpO] at h
    obtain ⟨_, w1, hr1, h⟩ := semU_run h
    obtain ⟨v, w', hr, hk⟩ := sem_run h
    simp only [Sem.run_bind, hr1, Result.andThen, hr, Sem.run_pure, Oper.upon]
    exact hK _ _ hk
  | build t parts =>
    simp only [wpO] at h
    obtain ⟨v, w', hr, hk⟩ := sem_run h
    have e : (parts.toList.map fun p => (p.1, ev env p.2)).toArray = parts.map fun x => (x.1, ev env x.2) := amap _ _
    rw [e] at hr
    simp only [Sem.run_bind, hr, Result.andThen, Sem.run_pure, Oper.upon]
    exact hK _ _ hk
  | buildSlice t len parts =>
    simp only [wpO] at h
    obtain ⟨v, w', hr, hk⟩ := sem_run h
    have e : (parts.toList.map fun p => (p.1, ev env p.2)).toArray = parts.map fun x => (x.1, ev env x.2) := amap _ _
    rw [e] at hr
    simp only [Sem.run_bind, hr, Result.andThen, Sem.run_pure, Oper.upon]
    exact hK _ _ hk
  | makeFunc fn first captured =>
    simp only [wpO] at h
    obtain ⟨v, w', hr, hk⟩ := sem_run h
    have e : ∀ l : Array Operand, (l.toList.map (ev env)).toArray = l.map (ev env) := fun l => amap _ l
    rw [e, e] at hr
    simp only [Sem.run_bind, hr, Result.andThen, Sem.run_pure, Oper.upon]
    exact hK _ _ hk
  | store t x y =>
    obtain ⟨_, w', hr, hk⟩ := semU_run h
    simp only [Sem.run_bind, hr, Result.andThen, Sem.run_pure, Oper.upon]
    exact hK _ _ hk
  | mapUpdate t m k x =>
    obtain ⟨_, w', hr, hk⟩ := semU_run h
    simp only [Sem.run_bind, hr, Result.andThen, Sem.run_pure, Oper.upon]
    exact hK _ _ hk
  | insert t m k x =>
    obtain ⟨_, w', hr, hk⟩ := semU_run h
    simp only [Sem.run_bind, hr, Result.andThen, Sem.run_pure, Oper.upon]
    exact hK _ _ hk
  | entryStore t m k x =>
    obtain ⟨_, w', hr, hk⟩ := semU_run h
    simp only [Sem.run_bind, hr, Result.andThen, Sem.run_pure, Oper.upon]
    exact hK _ _ hk
  | _ =>
    simp only [wpO] at h
    first
    | done
    | (obtain ⟨v, w', hr, hk⟩ := sem_run h
       simp only [Sem.run_bind, hr, Result.andThen, Sem.run_pure, Oper.upon]
       exact hK _ _ hk)
end Go.TS
