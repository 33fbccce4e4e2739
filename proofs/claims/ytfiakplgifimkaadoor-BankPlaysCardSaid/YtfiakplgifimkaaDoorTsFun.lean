/- Lemmas of this session: a function by the texts of its pieces. No statement of the seat is proved in this text. -/
import Derived.Test.YtfiakplgifimkaaDoorTsCode
namespace Go.TS

def resCell (P : Program) (t : TypeId) (v : Value) (w : World) (k : Value → Prop) : Prop :=
  match (do loadVar t (← asAddr v) : Sem Value).run P w with
  | .ok x w' => w' = w ∧ k x
  | .halt _ _ => False
def resE (P : Program) : List ResultVar → Env → World → (List Value → Prop) → Prop
  | [], _, _, k => k []
  | .tmp t :: r, env, w, k => resE P r env w fun vs => k (env t :: vs)
  | .cell a t :: r, env, w, k => resCell P t (env a) w fun v => resE P r env w fun vs => k (v :: vs)
def tup : List Value → Value
  | [v] => v
  | vs => .tuple vs.toArray
def retE (P : Program) (fn : Func) (K : Value → World → Prop) : Post := fun e env w => match e with
  | .normal | .ret => resE P fn.results.toList env w fun vs => K (tup vs) w
  | _ => False
def retR (K : Value → World → Prop) : Ending → World → Prop := fun e w => ∃ v, e = .returned v ∧ K v w
def envOf (args : List Value) : Env := fun t => args.getD t undef

theorem resE_run {P : Program} {tmps : Array Value} {w : World} : ∀ {l : List ResultVar} {env : Env} {k : List Value → Prop}, (∀ t, tmps.getD t undef = env t) → resE P l env w k →
    ∃ vs, k vs ∧ ∀ acc : List Value, (l.foldlM (fun (acc : List Value) (x : ResultVar) => do
      let v ← (match x with | .tmp t => pure (tmps.getD t undef) | .cell a t => do loadVar t (← asAddr (tmps.getD a undef)) : Sem Value)
      pure (acc ++ [v]) : List Value → ResultVar → Sem (List Value)) acc).run P w = .ok (acc ++ vs) w
  | [], env, k, _, h => ⟨[], h, fun acc => by simp⟩
  | .tmp t :: r, env, k, he, h => by
    obtain ⟨vs, hk, hr⟩ := resE_run (k := fun vs => k (env t :: vs)) he h
    refine ⟨env t :: vs, hk, fun acc => ?_⟩
    simp only [List.foldlM_cons, Sem.run_bind, Sem.run_pure, Result.andThen]
    rw [hr, he t]; simp
  | .cell a t :: r, env, k, he, h => by
    simp only [resE, resCell] at h
    split at h
    · rename_i x w' hx
      obtain ⟨rfl, h⟩ := h
      obtain ⟨vs, hk, hr⟩ := resE_run (k := fun vs => k (x :: vs)) he h
      refine ⟨x :: vs, hk, fun acc => ?_⟩
      rw [← he a] at hx
      simp only [List.foldlM_cons]
      rw [Sem.run_bind, Sem.run_bind, hx]
      simp only [Result.andThen, Sem.run_pure]
      rw [hr]; simp
    · exact h.elim

theorem results_run {P : Program} {fn : Func} {env : Env} {tmps : Array Value} {w : World} {k : List Value → Prop} (he : ∀ t, tmps.getD t undef = env t) (h : resE P fn.results.toList env w k) :
    ∃ vs, k vs ∧ (results fn tmps).run P w = .ok (tup vs) w := by
  obtain ⟨vs, hk, hr⟩ := resE_run he h
  refine ⟨vs, hk, ?_⟩
  unfold results
  have key2 : ∀ (l : List ResultVar) (acc : List Value) (w0 : World) (r : Result (List Value)), (l.foldlM (fun (acc : List Value) (x : ResultVar) => do
      let v ← (match x with | .tmp t => pure (tmps.getD t undef) | .cell a t => do loadVar t (← asAddr (tmps.getD a undef)) : Sem Value)
      pure (acc ++ [v]) : List Value → ResultVar → Sem (List Value)) acc).run P w0 = r →
      (l.foldlM (fun (acc : Array Value) (x : ResultVar) => do
      let v ← (match x with | .tmp t => pure (tmps.getD t undef) | .cell a t => do loadVar t (← asAddr (tmps.getD a undef)) : Sem Value)
      pure (acc.push v) : Array Value → ResultVar → Sem (Array Value)) acc.toArray).run P w0 = r.andThen fun vs w' => .ok vs.toArray w' := by
    intro l
    induction l with
    | nil => intro acc w0 r h; subst h; simp [Result.andThen]
    | cons x l ih =>
      intro acc w0 r h
      subst h
      simp only [List.foldlM_cons, Sem.run_bind]
      generalize (match x with | .tmp t => pure (tmps.getD t undef) | .cell a t => do loadVar t (← asAddr (tmps.getD a undef)) : Sem Value).run P w0 = q
      cases q with
      | halt x w1 => simp [Result.andThen]
      | ok v w1 =>
        simp only [Result.andThen, Sem.run_pure]
        have := ih (acc ++ [v]) w1 _ rfl
        simp only [List.push_toArray]
        rw [this]
        rfl
  have h2 := key2 fn.results.toList [] w _ (hr [])
  have h3 : (fn.results.mapM fun
    | .tmp t => pure (tmps.getD t undef)
    | .cell a t => do loadVar t (← asAddr (tmps.getD a undef)) : Sem (Array Value)).run P w = .ok vs.toArray w := by
    rw [Array.mapM_eq_foldlM, ← Array.foldlM_toList]
    simp only [List.nil_append, Result.andThen] at h2
    simpa using h2
  rw [Sem.run_bind]
  refine (congrArg (fun r => Result.andThen r _) h3).trans ?_
  simp only [Result.andThen, Sem.run_pure]
  cases vs with
  | nil => simp [tup]
  | cons v r => cases r <;> simp [tup]

theorem sub_ret {P : Program} {fn : Func} {K : Value → World → Prop} {n : Nat} : Sub n (retE P fn K) (bodyPost P fn (retR K)) := by
  intro e env w a hA h
  cases e <;> first
    | exact h.elim
    | (obtain ⟨vs, hk, hr⟩ := results_run hA.get h
       exact ⟨hA.defers, _, hr, _, rfl, hk⟩)
theorem noGoto_ret {P : Program} {fn : Func} {K : Value → World → Prop} : NoGoto (retE P fn K) := fun _ _ _ h => h

theorem call_of {P : Program} {f : FuncId} {fn : Func} {c : Code} {args : Array Value} {w : World} {K : Value → World → Prop} (hf : P.funcs[f]? = some fn) (hb : fn.body = some c) (hp : plainF P f = true) (hl : args.size ≤ fn.ntmps)
    (h : ∀ a, Agree fn.ntmps (envOf args.toList) a → c.wp P (bodyPost P fn (retR K)) a w) : call P f args w K := by
  refine ⟨hp, calls_of_wp hf hb (h _ ⟨by simp; omega, fun t => ?_, rfl⟩)⟩
  unfold envOf
  simp only [Array.getD_eq_getD_getElem?, List.getD_eq_getElem?_getD, Array.getElem?_toList]
  rcases Nat.lt_or_ge t args.size with h | h
  · rw [Array.getElem?_append_left h]
  · rw [Array.getElem?_append_right h, Array.getElem?_eq_none h]
    simp only [Array.getElem?_replicate]
    split <;> rfl

/-- The cuts of a function: a place and the slots that its text reads. -/
abbrev Blks := List (List Bool × List Nat)
def cutsGo (X : Nat → List Value → World → Prop) (p : Nat) : Blks → Nat → Option (Env → World → Prop)
  | [], _ => none
  | (r, slots) :: l, k => bif Nat.beq (enc r 1) p then some (fun env w => X k (slots.map env) w) else cutsGo X p l (k + 1)
def cutsOf (blks : Blks) (X : Nat → List Value → World → Prop) : Cuts := fun p => cutsGo X p blks 0

theorem enc_pos : ∀ (r : List Bool) (p : Nat), 0 < p → 0 < enc r p
  | [], _, h => h
  | true :: r, p, h => enc_pos r _ (by simp)
  | false :: r, p, h => enc_pos r _ (by simp; omega)
theorem enc_inj : ∀ (m : Nat) (r s : List Bool), r.length ≤ m → enc r 1 = enc s 1 → r = s := by
  intro m
  induction m with
  | zero =>
    intro r s hr h
    obtain rfl : r = [] := List.eq_nil_of_length_eq_zero (by omega)
    rcases List.eq_nil_or_concat s with rfl | ⟨s, b, rfl⟩
    · rfl
    · rw [List.concat_eq_append, enc_append] at h
      have := enc_pos s 1 (by omega)
      cases b <;> simp [enc] at h <;> omega
  | succ m ih =>
    intro r s hr h
    rcases List.eq_nil_or_concat r with rfl | ⟨r, a, rfl⟩
    · rcases List.eq_nil_or_concat s with rfl | ⟨s, b, rfl⟩
      · rfl
      · rw [List.concat_eq_append, enc_append] at h
        have := enc_pos s 1 (by omega)
        cases b <;> simp [enc] at h <;> omega
    · rcases List.eq_nil_or_concat s with rfl | ⟨s, b, rfl⟩
      · rw [List.concat_eq_append, enc_append] at h
        have := enc_pos r 1 (by omega)
        cases a <;> simp [enc] at h <;> omega
      · rw [List.concat_eq_append, List.concat_eq_append, enc_append, enc_append] at h
        have hab : a = b ∧ enc r 1 = enc s 1 := by
          cases a <;> cases b <;> simp [enc] at h ⊢ <;> omega
        obtain ⟨rfl, he⟩ := hab
        rw [ih r s (by simp at hr; omega) he]

theorem cutsGo_some {X : Nat → List Value → World → Prop} {p : Nat} {J : Env → World → Prop} : ∀ {l : Blks} {k : Nat}, cutsGo X p l k = some J →
    ∃ j r slots, l[j]? = some (r, slots) ∧ enc r 1 = p ∧ J = fun env w => X (k + j) (slots.map env) w
  | [], _, h => by cases h
  | (r, slots) :: l, k, h => by
    simp only [cutsGo] at h
    cases hb : Nat.beq (enc r 1) p with
    | true =>
      rw [hb] at h
      exact ⟨0, r, slots, rfl, Nat.eq_of_beq_eq_true hb, (Option.some.inj h).symm⟩
    | false =>
      rw [hb] at h
      obtain ⟨j, r', s', h1, h2, h3⟩ := cutsGo_some h
      exact ⟨j + 1, r', s', h1, h2, by rw [h3]; funext env w; congr 1; omega⟩

theorem atA_append {P : Program} : ∀ (r s : List Bool) (c : Code) (Q : APost), pathOk r c = true → atA P (r ++ s) c Q = atA P s (atA P r c Q).1 (atA P r c Q).2
  | [], _, _, _, _ => rfl
  | b :: r, s, c, Q, hp => by
    cases c with
    | seq x y => cases b with
      | true => exact atA_append r s y Q hp
      | false => exact atA_append r s x _ hp
    | cond c x y => cases b with
      | true => exact atA_append r s y Q hp
      | false => exact atA_append r s x Q hp
    | block id c => cases b with
      | true => cases hp
      | false => exact atA_append r s c _ (by simpa [pathOk] using hp)
    | loop c => cases b with
      | true => cases hp
      | false => exact atA_append r s c _ (by simpa [pathOk] using hp)
    | scope c => cases b with
      | true => cases hp
      | false => exact atA_append r s c _ (by simpa [pathOk] using hp)
    | _ => cases hp

/-- The code at a path. -/
def codeAt : List Bool → Code → Code
  | [], c => c
  | b :: r, c => match c with
    | .seq x y => bif b then codeAt r y else codeAt r x
    | .cond _ x y => bif b then codeAt r y else codeAt r x
    | .block _ c => codeAt r c
    | .loop c => codeAt r c
    | .scope c => codeAt r c
    | c => c
theorem atA_code {P : Program} : ∀ (r : List Bool) (c : Code) (Q : APost), pathOk r c = true → (atA P r c Q).1 = codeAt r c
  | [], _, _, _ => rfl
  | b :: r, c, Q, hp => by
    cases c with
    | seq x y => cases b with
      | true => exact atA_code r y Q hp
      | false => exact atA_code r x _ hp
    | cond c x y => cases b with
      | true => exact atA_code r y Q hp
      | false => exact atA_code r x Q hp
    | block id c => cases b with
      | true => cases hp
      | false => exact atA_code r c _ (by simpa [pathOk] using hp)
    | loop c => cases b with
      | true => cases hp
      | false => exact atA_code r c _ (by simpa [pathOk] using hp)
    | scope c => cases b with
      | true => cases hp
      | false => exact atA_code r c _ (by simpa [pathOk] using hp)
    | _ => cases hp

/-- Where a piece's text stands: a loop's is its body's. -/
def inner (r : List Bool) (c : Code) : List Bool := bif isLoop (codeAt r c) then r ++ [false] else r
/-- What the text of a piece owes. -/
def Body (P : Program) (ord : Nat → Stg) (blks : Blks) (c : Code) (Q' : Post) (X : Nat → List Value → World → Prop) (r : List Bool) (env : Env) (w : World) : Prop :=
  wpC P ord (cutsOf blks X) (atC P ord (cutsOf blks X) (inner r c) c 1 Q').1 (enc (inner r c) 1) (atC P ord (cutsOf blks X) (inner r c) c 1 Q').2 env w
def blksOk (c : Code) (blks : Blks) : Bool := blks.all fun b => pathOk (inner b.1 c) c

/-- A FUNCTION BY ITS PIECES. -/
theorem call_blocks {P : Program} (hm : P.follows .mixedOrders = true) {f : FuncId} {fn : Func} {c : Code} {args : Array Value} {w : World} {K : Value → World → Prop} (ord : Nat → Stg) (blks : Blks)
    (hf : P.funcs[f]? = some fn) (hb : fn.body = some c) (hp : plainF P f = true) (hl : args.size ≤ fn.ntmps) (hok : okC fn.ntmps ord c = true) (hbl : blksOk c blks = true)
    (h : ∀ X : Nat → List Value → World → Prop, (∀ (k : Nat) r slots vals w, blks[k]? = some (r, slots) → (∀ env : Env, slots.map env = vals → Body P ord blks c (retE P fn K) X r env w) → X k vals w) →
      wpC P ord (cutsOf blks X) c 1 (retE P fn K) (envOf args.toList) w) : call P f args w K := by
  refine call_of hf hb hp hl fun a hA => ?_
  let Q := bodyPost P fn (retR K)
  let X : Nat → List Value → World → Prop := fun k vals w => ∃ r slots, blks[k]? = some (r, slots) ∧ ∀ a : Act, a.tmps.size = fn.ntmps → a.defers = [] → (slots.map fun s => a.tmps.getD s undef) = vals →
    (atA P r c Q).1.wp P (atA P r c Q).2 a w ∧ ∀ b, (atA P r c Q).1 = .loop b → InLoop P b (atA P r c Q).2 a w
  have hgood : Good P (cutsOf blks X) fn.ntmps c Q 1 := by
    intro r J hJ env w a hj hA
    obtain ⟨j, r', slots, h1, h2, rfl⟩ := cutsGo_some hJ
    obtain rfl : r' = r := enc_inj _ r' r (Nat.le_refl _) h2
    simp only [Nat.zero_add] at hj
    obtain ⟨r2, slots2, h3, h4⟩ := hj
    rw [h1] at h3
    obtain ⟨rfl, rfl⟩ := Prod.mk.inj (Option.some.inj h3)
    exact h4 a hA.size hA.defers (List.map_congr_left fun s _ => hA.get s)
  have hs : Sub fn.ntmps (retE P fn K) Q := sub_ret
  refine wpC_sound hm c 1 _ Q _ w a hgood hs noGoto_ret hok hA (h X ?_)
  intro k r slots vals w hk hbody
  refine ⟨r, slots, hk, fun a hsz hd hv => ?_⟩
  have hA' : Agree fn.ntmps (fun t => a.tmps.getD t undef) a := ⟨hsz, fun _ => rfl, hd⟩
  have hB := hbody _ hv
  have hpo : pathOk (inner r c) c = true := by
    have := List.all_eq_true.1 hbl _ (List.mem_of_getElem? hk)
    exact this
  have hP := piece hm hgood hs noGoto_ret hok (inner r c) hA' (good_down _ _ _ _ hgood hpo) hB
  cases hlp : isLoop (codeAt r c) with
  | false =>
    have e : inner r c = r := by unfold inner; rw [hlp]; rfl
    rw [e] at hP hpo
    refine ⟨hP, fun b hb => ?_⟩
    rw [atA_code r c Q hpo] at hb
    rw [hb] at hlp
    cases hlp
  | true =>
    have e : inner r c = r ++ [false] := by unfold inner; rw [hlp]; rfl
    rw [e] at hP hpo
    have hpo' : pathOk r c = true := by
      have : ∀ (r s : List Bool) (c : Code), pathOk (r ++ s) c = true → pathOk r c = true := by
        intro r
        induction r with
        | nil => intro _ _ _; rfl
        | cons b r ih =>
          intro s c h
          cases c <;> cases b <;> simp_all [pathOk] <;> exact ih s _ h
      exact this r [false] c hpo
    have hc := atA_code (P := P) r c Q hpo'
    cases hcode : codeAt r c with
    | loop b =>
      rw [hcode] at hc
      rw [atA_append r [false] c Q hpo', hc] at hP
      have := inLoop_fold (show b.wp P (Exit.then (InLoop P b (atA P r c Q).2) (atA P r c Q).2) a w from hP)
      rw [hc]
      exact ⟨this.1, fun b' hb' => by cases hb'; exact this.2⟩
    | _ => rw [hcode] at hlp; cases hlp
end Go.TS
