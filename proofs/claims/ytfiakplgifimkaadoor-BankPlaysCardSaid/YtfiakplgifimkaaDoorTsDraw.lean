/- Lemmas of this session: a region whose order is drawn, run in stages: quiet operations in any place, the others in their forced order. No statement of the seat is proved in this text. -/
import Derived.Test.YtfiakplgifimkaaDoorTsCore
namespace Go.TS

/-- A stage: the quiet operations (number; is it run for the first time?), then the end, or a choice of the next operation that is not quiet. -/
inductive Stg where
  | fin (qs : List (Nat × Bool))
  | run (qs : List (Nat × Bool)) (c : Stg)
  | cho (x : Nat) (r o : Stg)
  | non
def isNon : Stg → Bool
  | .non => true
  | _ => false
def isStg : Stg → Bool
  | .fin _ => true
  | .run _ _ => true
  | _ => false
def isCho : Stg → Bool
  | .cho _ _ _ => true
  | _ => false
def hasCho (y : Nat) : Stg → Bool
  | .cho x _ o => x == y || hasCho y o
  | _ => false
/-- The operations that are not quiet, along one way. -/
def wayX : Stg → List Nat
  | .run _ c => wayX c
  | .cho x r _ => x :: wayX r
  | _ => []
def alsoP (b : Bool) (A B : Prop) : Prop := bif b then A else A ∧ B

def wr (ops : List Oper) (t : Nat) : Option Nat := ops.findIdx? fun o => match o.dst with | some d => Nat.beq d t | none => false
def depsOf (o : Oper) : List Nat := (o.after.toList.filter fun e => Region.binds .any e).map (·.on)
def maskOf (acc : List Nat) : List Nat → Nat
  | [] => 0
  | k :: r => (1 <<< k) ||| (acc.getD k 0) ||| maskOf acc r
def masksGo : List Oper → List Nat → List Nat
  | [], acc => acc
  | o :: r, acc => masksGo r (acc ++ [maskOf acc (depsOf o)])
def bit (B : List Nat) (i j : Nat) : Bool := (B.getD i 0).testBit j
def opE (ops : List Oper) (B : List Nat) (env0 V : Env) (i : Nat) : Env := fun t => match wr ops t with | some j => bif bit B i j then V t else env0 t | none => env0 t

/-- An operation under its guard; what was passed over is known by number. -/
def guardP (ops : List Oper) (sk : List Nat) (val V : Env) (g : Option (Nat × Bool)) (run skip : Env → Prop) : Prop :=
  match g with
  | none => run V
  | some (j, want) =>
    match (ops[j]?).bind (·.dst) with
    | none => False
    | some d =>
      bif sk.contains j then (match val d with | .tuple _ => skip V | _ => False)
      else gsplit (val d) (bif want then run (upd V d (.bool true)) else skip (upd V d (.bool true))) (bif want then skip (upd V d (.bool false)) else run (upd V d (.bool false)))

/-- A quiet operation: what moves values alone asks nothing of the world. -/
def wpQ (P : Program) (ρ : Operand → Value) (o : Op) (ty : TypeId) (w : World) (k : Value → Prop) : Prop :=
  match o with
  | .move x | .assign x => k (ρ x)
  | o => wpO P ρ o ty w fun v w' => w' = w ∧ k v
theorem wpQ_wpO {P : Program} {ρ : Operand → Value} {o : Op} {ty : TypeId} {w : World} {k : Value → Prop} (h : wpQ P ρ o ty w k) : wpO P ρ o ty w fun v w' => w' = w ∧ k v := by
  cases o <;> first | exact h | exact ⟨rfl, h⟩

def wpQs (P : Program) (ops : List Oper) (B : List Nat) (env0 : Env) (w : World) : List (Nat × Bool) → List Nat → Env → (List Nat → Env → Prop) → Prop
  | [], sk, V, k => k sk V
  | (i, new) :: r, sk, V, k =>
    match ops[i]? with
    | none => False
    | some o =>
      guardP ops sk (opE ops B env0 V i) V o.guard
        (fun V => wpQ P (ev (opE ops B env0 V i)) o.op o.type w fun v =>
          bif new then wpQs P ops B env0 w r sk (put V o.dst v) k else (v = (match o.dst with | some d => V d | none => v) ∧ wpQs P ops B env0 w r sk V k))
        (fun V => bif new then wpQs P ops B env0 w r (i :: sk) (put V o.dst undef) k else ((match o.dst with | some d => V d = undef | none => True) ∧ wpQs P ops B env0 w r sk V k))

def wpSt (P : Program) (ops : List Oper) (B : List Nat) (env0 : Env) : Stg → List Nat → Env → World → (Env → World → Prop) → Prop
  | .fin qs, sk, V, w, next => wpQs P ops B env0 w qs sk V fun _ V => next V w
  | .run qs c, sk, V, w, next => wpQs P ops B env0 w qs sk V fun sk V => wpSt P ops B env0 c sk V w next
  | .cho i r c, sk, V, w, next => alsoP (isNon c)
      (match ops[i]? with
      | none => False
      | some o => guardP ops sk (opE ops B env0 V i) V o.guard
          (fun V => wpO P (ev (opE ops B env0 V i)) o.op o.type w fun v w' => wpSt P ops B env0 r sk (put V o.dst v) w' next)
          (fun V => wpSt P ops B env0 r (i :: sk) (put V o.dst undef) w next))
      (wpSt P ops B env0 c sk V w next)
  | .non, _, _, _, _ => True

def isCall : Op → Bool
  | .call { callee := .builtin _, .. } => false
  | .call _ => true
  | _ => false
def isPure : Op → Bool
  | .move _ | .assign _ | .pick _ _ _ => true
  | _ => false
def opAt (ops : List Oper) (i : Nat) (p : Oper → Bool) : Bool := match ops[i]? with | some o => p o | none => false

def chkQs (ops : List Oper) (B : List Nat) (X : List Nat) : List (Nat × Bool) → List Nat → Option (List Nat)
  | [], pr => some pr
  | (i, true) :: r, pr => if !pr.contains i && !X.contains i && opAt ops i (fun o => !isCall o.op) && ((List.range ops.length).all fun j => !bit B i j || pr.contains j) then chkQs ops B X r (i :: pr) else none
  | (i, false) :: r, pr => if pr.contains i && !X.contains i && opAt ops i (fun o => !isCall o.op) then chkQs ops B X r pr else none
def possible (B : List Nat) (X xd : List Nat) (i : Nat) : Bool := (X.all fun x => !bit B i x || xd.contains x) && (xd.all fun x => !bit B x i)
def chkPoss (ops : List Oper) (B : List Nat) (X : List Nat) (qs : List (Nat × Bool)) (pr xd : List Nat) : Bool :=
  (List.range ops.length).all fun i => X.contains i || !possible B X xd i || (qs.any fun q => q.1 == i) || (pr.contains i && opAt ops i fun o => isPure o.op)
def chkSt (ops : List Oper) (B : List Nat) (X : List Nat) : Stg → List Nat → List Nat → Bool
  | .fin qs, pr, xd =>
    match chkQs ops B X qs pr with
    | none => false
    | some _ => chkPoss ops B X qs pr xd && X.all fun x => xd.contains x
  | .run qs c, pr, xd =>
    match chkQs ops B X qs pr with
    | none => false
    | some pr' => chkPoss ops B X qs pr xd && isCho c && (X.all fun y => xd.contains y || hasCho y c || X.any fun z => !xd.contains z && decide (z < ops.length) && bit B y z) && chkSt ops B X c pr' xd
  | .cho x r c, pr', xd => X.contains x && !pr'.contains x && decide (x < ops.length) && opAt ops x (fun o => !isPure o.op) && ((List.range ops.length).all fun j => !bit B x j || pr'.contains j) && isStg r &&
      chkSt ops B X r (x :: pr') (x :: xd) && (isNon c || chkSt ops B X c pr' xd)
  | .non, _, _ => false
def chkOps (ops : List Oper) (B : List Nat) : Bool :=
  (List.range ops.length).all fun i => match ops[i]? with
    | none => false
    | some o => ((depsOf o).all fun k => decide (k < i)) && (match o.dst with | some d => wr ops d == some i | none => true) &&
        ((o.op.operands.toList.filterMap fun | .tmp t => some t | _ => none).all fun t => match wr ops t with | some j => j == i || bit B i j || bit B j i | none => true) &&
        (match o.guard with | some (g, _) => bit B i g && decide (g < ops.length) && (match (ops[g]?).bind (·.dst) with | some d => wr ops d == some g | none => false) | none => true)
def chkDraw (ops : List Oper) (st : Stg) : Bool :=
  chkOps ops (masksGo ops []) && isStg st && chkSt ops (masksGo ops []) (wayX st) st [] []

theorem wpO_congr {P : Program} {ρ ρ' : Operand → Value} {o : Op} {ty : TypeId} {w : World} {K : Value → World → Prop} (h : ∀ x ∈ o.operands, ρ x = ρ' x) (hp : wpO P ρ o ty w K) : wpO P ρ' o ty w K := by
  have lst : ∀ l : Array Operand, (∀ x ∈ l, ρ x = ρ' x) → l.toList.map ρ = l.toList.map ρ' := fun l hl => List.map_congr_left fun x hx => hl x (by simpa using hx)
  have prs : ∀ l : Array (Nat × Operand), (∀ x ∈ (l.toList.map (·.2)).toArray, ρ x = ρ' x) → (l.toList.map fun p => (p.1, ρ p.2)) = (l.toList.map fun p => (p.1, ρ' p.2)) := fun l hl => List.map_congr_left fun p hm => by
    have := hl p.2 (by simpa using ⟨p.1, by simpa using hm⟩)
    simp [this]
  have e : wpO P ρ o ty w K = wpO P ρ' o ty w K := by
    cases o with
    | call c =>
      obtain ⟨callee, args, at_⟩ := c
      cases callee with
      | value f =>
        simp only [wpO]
        simp only [Op.operands, Call.operands] at h
        rw [h f (by simp), lst args (fun x hx => h x (by simp [hx]))]
      | invoke f n =>
        simp only [wpO]
        simp only [Op.operands, Call.operands] at h
        rw [h f (by simp), lst args (fun x hx => h x (by simp [hx]))]
      | builtin b =>
        simp only [Op.operands, Call.operands] at h
        cases b <;> simp only [wpO] <;> rw [lst args (fun x hx => h x (by simp [hx]))]
    | build t ps => simp only [wpO]; rw [prs ps (by simpa only [Op.operands] using h)]
    | buildSlice t n ps => simp only [wpO]; rw [prs ps (by simpa only [Op.operands] using h)]
    | makeFunc fn a b =>
      simp only [Op.operands] at h
      simp only [wpO]
      rw [lst a (fun x hx => h x (by simp [hx])), lst b (fun x hx => h x (by simp [hx]))]
    | makeMap t r => cases r <;> simp_all [wpO, Op.operands]
    | slice t x lo hi mx => cases lo <;> cases hi <;> cases mx <;> simp_all [wpO, Op.operands]
    | _ => first | rfl | (simp_all [wpO, Op.operands]; done)
  exact e ▸ hp

/-- All but the calls are determined by the world. -/
theorem wpO_det {P : Program} {ρ : Operand → Value} {o : Op} {ty : TypeId} {w : World} {K : Value → World → Prop} (hc : isCall o = false) (h : wpO P ρ o ty w K) :
    ∃ v w', K v w' ∧ ∀ K' : Value → World → Prop, K' v w' → wpO P ρ o ty w K' := by
  have S : ∀ (s : Sem Value) (w : World) (K : Value → World → Prop), sem P s w K → ∃ v w', K v w' ∧ ∀ K' : Value → World → Prop, K' v w' → sem P s w K' := fun s w K h => by
    obtain ⟨v, w', hr, hk⟩ := sem_run h
    exact ⟨v, w', hk, fun K' hk' => by unfold sem; rw [hr]; exact hk'⟩
  have U : ∀ (s : Sem Unit) (w : World) (K : World → Prop), semU P s w K → ∃ w', K w' ∧ ∀ K' : World → Prop, K' w' → semU P s w K' := fun s w K h => by
    obtain ⟨v, w', hr, hk⟩ := semU_run h
    exact ⟨w', hk, fun K' hk' => by unfold semU; rw [hr]; exact hk'⟩
  cases o with
  | move x => exact ⟨_, _, h, fun _ h => h⟩
  | assign x => exact ⟨_, _, h, fun _ h => h⟩
  | pick c a b =>
    simp only [wpO] at h ⊢
    generalize ρ c = v at h ⊢
    cases v <;> first | exact h.elim | exact ⟨_, _, h, fun _ h => h⟩
  | nilCheck x =>
    simp only [wpO] at h ⊢
    generalize ρ x = v at h ⊢
    cases v with
    | pointer p => cases p with
      | none => exact h.elim
      | some p => exact ⟨_, _, h, fun _ h => h⟩
    | func fn f c => cases fn with
      | method name => exact h.elim
      | _ => exact ⟨_, _, h, fun _ h => h⟩
    | nilFunc => exact h.elim
    | nilIface => exact h.elim
    | _ => exact ⟨_, _, h, fun _ h => h⟩
  | binOp op t x y u =>
    simp only [wpO] at h ⊢
    obtain ⟨w1, h1, g1⟩ := U _ _ _ h
    obtain ⟨v, w', hk, g2⟩ := S _ _ _ h1
    exact ⟨v, w', hk, fun K' hk' => g1 _ (g2 _ hk')⟩
  | store t x y => obtain ⟨w1, h1, g1⟩ := U _ _ _ h; exact ⟨_, w1, h1, fun K' hk' => g1 _ hk'⟩
  | mapUpdate t m k x => obtain ⟨w1, h1, g1⟩ := U _ _ _ h; exact ⟨_, w1, h1, fun K' hk' => g1 _ hk'⟩
  | insert t m k x => obtain ⟨w1, h1, g1⟩ := U _ _ _ h; exact ⟨_, w1, h1, fun K' hk' => g1 _ hk'⟩
  | entryStore t m k x => obtain ⟨w1, h1, g1⟩ := U _ _ _ h; exact ⟨_, w1, h1, fun K' hk' => g1 _ hk'⟩
  | call c =>
    obtain ⟨callee, args, argTypes⟩ := c
    cases callee with
    | value f => cases hc
    | invoke r n => cases hc
    | builtin b => cases b <;> simp only [wpO] at h ⊢ <;> first | exact h.elim | exact S _ _ _ h
  | _ =>
    simp only [wpO] at h ⊢ <;> first
    | done
    | exact S _ _ _ h

section main
variable {P : Program} {ops : List Oper} {B : List Nat} {env0 : Env} {X : List Nat} {n : Nat}

def dstAt (ops : List Oper) (i : Nat) : Option Tmp := (ops[i]?).bind (·.dst)

theorem wr_some {t j : Nat} (h : wr ops t = some j) : dstAt ops j = some t := by
  unfold wr at h
  obtain ⟨hj, h2, _⟩ := List.findIdx?_eq_some_iff_getElem.1 h
  unfold dstAt
  rw [List.getElem?_eq_getElem hj]
  simp only [Option.bind_some]
  cases hd : ops[j].dst with
  | none => rw [hd] at h2; cases h2
  | some d => rw [hd] at h2; rw [Nat.eq_of_beq_eq_true h2]

structure OpsOk (ops : List Oper) (B : List Nat) : Prop where
  deps : ∀ i o, ops[i]? = some o → ∀ k ∈ depsOf o, k < i
  wr : ∀ i o, ops[i]? = some o → ∀ d, o.dst = some d → wr ops d = some i
  look : ∀ i o, ops[i]? = some o → ∀ t, Operand.tmp t ∈ o.op.operands → ∀ j, TS.wr ops t = some j → j = i ∨ bit B i j = true ∨ bit B j i = true
  guard : ∀ i o, ops[i]? = some o → ∀ g want, o.guard = some (g, want) → bit B i g = true ∧ ∃ d, dstAt ops g = some d ∧ TS.wr ops d = some g

theorem opsOk_of (h : chkOps ops B = true) : OpsOk ops B := by
  unfold chkOps at h
  rw [List.all_eq_true] at h
  have key : ∀ i o, ops[i]? = some o → _ := fun i o ho => by
    have hi : i < ops.length := (List.getElem?_eq_some_iff.1 ho).1
    have := h i (List.mem_range.2 hi)
    rw [ho] at this
    simp only [Bool.and_eq_true] at this
    exact this
  refine ⟨fun i o ho k hk => ?_, fun i o ho d hd => ?_, fun i o ho t ht j hj => ?_, fun i o ho g want hg => ?_⟩
  · have := (key i o ho).1.1.1
    rw [List.all_eq_true] at this
    exact of_decide_eq_true (this k hk)
  · have := (key i o ho).1.1.2
    rw [hd] at this
    simpa using this
  · have := (key i o ho).1.2
    rw [List.all_eq_true] at this
    have := this t (List.mem_filterMap.2 ⟨.tmp t, by simpa using ht, rfl⟩)
    rw [hj] at this
    simp only [Bool.or_eq_true, beq_iff_eq] at this
    rcases this with (h | h) | h
    · exact .inl h
    · exact .inr (.inl h)
    · exact .inr (.inr h)
  · have := (key i o ho).2
    rw [hg] at this
    simp only [Bool.and_eq_true] at this
    obtain ⟨⟨h1, h2⟩, h3⟩ := this
    refine ⟨h1, ?_⟩
    unfold dstAt
    cases hd : (ops[g]?).bind (·.dst) with
    | none => rw [hd] at h3; cases h3
    | some d => rw [hd] at h3; exact ⟨d, rfl, by simpa using h3⟩

theorem OpsOk.dst_inj (hk : OpsOk ops B) {i j d : Nat} (hi : dstAt ops i = some d) (hj : dstAt ops j = some d) : i = j := by
  unfold dstAt at hi hj
  cases hoi : ops[i]? with
  | none => rw [hoi] at hi; cases hi
  | some oi =>
    cases hoj : ops[j]? with
    | none => rw [hoj] at hj; cases hj
    | some oj =>
      rw [hoi] at hi; rw [hoj] at hj
      have h1 := hk.wr i oi hoi d hi
      have h2 := hk.wr j oj hoj d hj
      rw [h1] at h2
      exact Option.some.inj h2

def Fact (P : Program) (ops : List Oper) (B : List Nat) (env0 V : Env) (w : World) (i : Nat) : Prop :=
  ∃ o, ops[i]? = some o ∧ isCall o.op = false ∧
    match o.guard with
    | none => wpO P (ev (opE ops B env0 V i)) o.op o.type w fun v w' => w' = w ∧ ∀ d, o.dst = some d → V d = v
    | some (g, want) => ∃ d, dstAt ops g = some d ∧
        ((V d = .bool want ∧ wpO P (ev (opE ops B env0 V i)) o.op o.type w fun v w' => w' = w ∧ ∀ d, o.dst = some d → V d = v) ∨
         ((V d = .bool (!want) ∨ ∃ vs, V d = .tuple vs) ∧ ∀ d, o.dst = some d → V d = undef))

/-- The two environments agree on what the processed operations wrote. -/
def Agr (ops : List Oper) (pr : List Nat) (V V' : Env) : Prop := ∀ j ∈ pr, ∀ d, dstAt ops j = some d → V' d = V d
def Clo (B : List Nat) (n : Nat) (pr : List Nat) : Prop := ∀ i ∈ pr, ∀ j, j < n → bit B i j = true → j ∈ pr

theorem wr_lt {t j : Nat} (h : wr ops t = some j) : j < ops.length := by
  unfold wr at h
  exact (List.findIdx?_eq_some_iff_getElem.1 h).1

theorem opE_agr {pr : List Nat} {V V' : Env} {i : Nat} (hb : ∀ j, j < ops.length → bit B i j = true → j ∈ pr) (ha : Agr ops pr V V') : opE ops B env0 V' i = opE ops B env0 V i := by
  funext t
  unfold opE
  cases hw : wr ops t with
  | none => rfl
  | some j =>
    dsimp only
    cases hbit : bit B i j with
    | false => rfl
    | true => exact ha j (hb j (wr_lt hw) hbit) t (wr_some hw)

theorem Fact.agr {pr : List Nat} {V V' : Env} {w : World} {i : Nat} (hk : OpsOk ops B) (hc : Clo B ops.length pr) (hi : i ∈ pr) (ha : Agr ops pr V V') (h : Fact P ops B env0 V w i) : Fact P ops B env0 V' w i := by
  obtain ⟨o, ho, hcall, h⟩ := h
  have he : opE ops B env0 V' i = opE ops B env0 V i := opE_agr (hc i hi) ha
  have hd : ∀ d, o.dst = some d → V' d = V d := fun d hd => ha i hi d (by unfold dstAt; rw [ho]; exact hd)
  have run : (wpO P (ev (opE ops B env0 V i)) o.op o.type w fun v w' => w' = w ∧ ∀ d, o.dst = some d → V d = v) → wpO P (ev (opE ops B env0 V' i)) o.op o.type w fun v w' => w' = w ∧ ∀ d, o.dst = some d → V' d = v := fun h => by
    rw [he]
    obtain ⟨v, w', ⟨h1, h2⟩, g⟩ := wpO_det hcall h
    exact g _ ⟨h1, fun d hd' => (hd d hd').trans (h2 d hd')⟩
  refine ⟨o, ho, hcall, ?_⟩
  cases hg : o.guard with
  | none => rw [hg] at h; exact run h
  | some gw =>
    obtain ⟨g, want⟩ := gw
    rw [hg] at h
    obtain ⟨d, hgd, h⟩ := h
    obtain ⟨hb, d2, hd2, hw2⟩ := hk.guard i o ho g want hg
    obtain rfl : d = d2 := Option.some.inj (hgd.symm.trans hd2)
    have hV : V' d = V d := ha g (hc i hi g (wr_lt hw2) hb) d hgd
    refine ⟨d, hgd, ?_⟩
    rcases h with ⟨h1, h2⟩ | ⟨h1, h2⟩
    · exact .inl ⟨hV.trans h1, run h2⟩
    · exact .inr ⟨by rw [hV]; exact h1, fun d hd' => (hd d hd').trans (h2 d hd')⟩

theorem Fact.pure {V : Env} {w w' : World} {i : Nat} {o : Oper} (ho : ops[i]? = some o) (hp : isPure o.op = true) (h : Fact P ops B env0 V w i) : Fact P ops B env0 V w' i := by
  obtain ⟨o', ho', hcall, h⟩ := h
  obtain rfl : o = o' := Option.some.inj (ho.symm.trans ho')
  have run : (wpO P (ev (opE ops B env0 V i)) o.op o.type w fun v w1 => w1 = w ∧ ∀ d, o.dst = some d → V d = v) → wpO P (ev (opE ops B env0 V i)) o.op o.type w' fun v w1 => w1 = w' ∧ ∀ d, o.dst = some d → V d = v := fun h => by
    obtain ⟨dst, op, type, pos, after, guard⟩ := o
    dsimp only at h ⊢ hp
    cases op <;> simp only [isPure] at hp <;> first | cases hp | skip
    · exact ⟨rfl, h.2⟩
    · exact ⟨rfl, h.2⟩
    · simp only [wpO] at h ⊢
      generalize ev (opE ops B env0 V i) _ = c at h ⊢
      cases c <;> first | exact h.elim | exact ⟨rfl, h.2⟩
  refine ⟨o, ho, hcall, ?_⟩
  cases hg : o.guard with
  | none => rw [hg] at h; exact run h
  | some gw =>
    obtain ⟨g, want⟩ := gw
    rw [hg] at h
    obtain ⟨d, hgd, h⟩ := h
    refine ⟨d, hgd, ?_⟩
    rcases h with ⟨h1, h2⟩ | h1
    · exact .inl ⟨h1, run h2⟩
    · exact .inr h1

theorem gsplit_cases {v : Value} {A B : Prop} (h : gsplit v A B) : (v = .bool true ∧ A) ∨ (v = .bool false ∧ B) := by
  unfold gsplit at h
  split at h
  · exact .inl ⟨rfl, h⟩
  · exact .inr ⟨rfl, h⟩
  · exact h.elim

/-- A guard: what is known of it on either way. -/
theorem guardP_cases {sk : List Nat} {val V : Env} {g : Option (Nat × Bool)} {run skip : Env → Prop} (h : guardP ops sk val V g run skip) :
    (g = none ∧ run V) ∨ ∃ j want d, g = some (j, want) ∧ dstAt ops j = some d ∧ ∀ (_ : val d = V d), (V d = .bool want ∧ run V) ∨ ((V d = .bool (!want) ∨ ∃ vs, V d = .tuple vs) ∧ skip V) := by
  unfold guardP at h
  split at h
  · exact .inl ⟨rfl, h⟩
  · rename_i j want
    split at h
    · exact h.elim
    · rename_i d hd
      refine .inr ⟨j, want, d, rfl, hd, fun hv => ?_⟩
      cases hs : sk.contains j with
      | true =>
        rw [hs] at h
        simp only [cond_true] at h
        split at h
        · rename_i vs hvs
          exact .inr ⟨.inr ⟨_, hv.symm.trans hvs⟩, h⟩
        · exact h.elim
      | false =>
        rw [hs] at h
        simp only [cond_false] at h
        rcases gsplit_cases h with ⟨h1, h2⟩ | ⟨h1, h2⟩
        · rw [hv] at h1
          rw [upd_same h1] at h2
          cases want
          · exact .inr ⟨.inl h1, h2⟩
          · exact .inl ⟨h1, h2⟩
        · rw [hv] at h1
          rw [upd_same h1] at h2
          cases want
          · exact .inl ⟨h1, h2⟩
          · exact .inr ⟨.inl h1, h2⟩

theorem opE_guard (hk : OpsOk ops B) {V : Env} {i g d : Nat} {o : Oper} {want : Bool} (ho : ops[i]? = some o) (hg : o.guard = some (g, want)) (hd : dstAt ops g = some d) : opE ops B env0 V i d = V d := by
  obtain ⟨hb, d2, hd2, hw2⟩ := hk.guard i o ho g want hg
  obtain rfl : d = d2 := Option.some.inj (hd.symm.trans hd2)
  unfold opE
  rw [hw2]
  dsimp only
  rw [hb]
  rfl

theorem put_dst {V : Env} {o : Oper} {v : Value} {d : Nat} (h : o.dst = some d) : put V o.dst v d = v := by
  rw [h]
  show (bif Nat.beq d d then v else V d) = v
  rw [show Nat.beq d d = true from Nat.beq_refl d]
  rfl
theorem put_other {V : Env} {dst : Option Tmp} {v : Value} {t : Nat} (h : dst ≠ some t) : put V dst v t = V t := by
  cases dst with
  | none => rfl
  | some d =>
    show (bif Nat.beq t d then v else V t) = V t
    cases hb : Nat.beq t d with
    | true => exact absurd (by rw [Nat.eq_of_beq_eq_true hb]) h
    | false => rfl

/-- What a stage's quiet operations leave. -/
structure QsOut (P : Program) (ops : List Oper) (B : List Nat) (env0 : Env) (w : World) (qs : List (Nat × Bool)) (pr pr' : List Nat) (V V' : Env) : Prop where
  agr : Agr ops pr V V'
  fr : ∀ t, (∀ j ∈ pr', dstAt ops j ≠ some t) → V' t = V t
  clo : Clo B ops.length pr'
  sub : ∀ j ∈ pr, j ∈ pr'
  facts : ∀ q ∈ qs, Fact P ops B env0 V' w q.1
  inn : ∀ q ∈ qs, q.1 ∈ pr'
  pure : ∀ i ∈ pr', ∀ o, ops[i]? = some o → isPure o.op = true → Fact P ops B env0 V' w i

theorem opAt_spec {i : Nat} {p : Oper → Bool} (h : opAt ops i p = true) : ∃ o, ops[i]? = some o ∧ p o = true := by
  unfold opAt at h
  cases ho : ops[i]? with
  | none => rw [ho] at h; cases h
  | some o => rw [ho] at h; exact ⟨o, rfl, h⟩

theorem qs_facts (hk : OpsOk ops B) {w : World} {k : List Nat → Env → Prop} : ∀ (qs : List (Nat × Bool)) (pr pr' sk : List Nat) (V : Env), chkQs ops B X qs pr = some pr' → Clo B ops.length pr →
    (∀ i ∈ pr, ∀ o, ops[i]? = some o → isPure o.op = true → Fact P ops B env0 V w i) → wpQs P ops B env0 w qs sk V k → ∃ sk' V', k sk' V' ∧ QsOut P ops B env0 w qs pr pr' V V'
  | [], pr, pr', sk, V, hc, hcl, hp, h => by
    simp only [chkQs, Option.some.injEq] at hc
    subst hc
    exact ⟨sk, V, h, fun _ _ _ _ => rfl, fun _ _ => rfl, hcl, fun _ h => h, (fun _ h => by cases h), (fun _ h => by cases h), hp⟩
  | (i, true) :: r, pr, pr', sk, V, hc, hcl, hp, h => by
    simp only [chkQs] at hc
    split at hc
    case isFalse => cases hc
    rename_i hcond
    simp only [Bool.and_eq_true, Bool.not_eq_true', List.all_eq_true, List.mem_range, Bool.or_eq_true] at hcond
    obtain ⟨⟨⟨h1, h2⟩, h3⟩, h4⟩ := hcond
    obtain ⟨o, ho, hcall⟩ := opAt_spec h3
    have hcall' : isCall o.op = false := by simpa using hcall
    have hni : i ∉ pr := by simpa using h1
    have hbits : ∀ j, j < ops.length → bit B i j = true → j ∈ pr := fun j hj hb => by
      rcases h4 j hj with h | h
      · rw [hb] at h; cases h
      · simpa using h
    have hcl' : Clo B ops.length (i :: pr) := fun a ha j hj hb => by
      rcases List.mem_cons.1 ha with rfl | ha
      · exact List.mem_cons_of_mem _ (hbits j hj hb)
      · exact List.mem_cons_of_mem _ (hcl a ha j hj hb)
    have step : ∀ (sk2 : List Nat) (u : Value), Fact P ops B env0 (put V o.dst u) w i → wpQs P ops B env0 w r sk2 (put V o.dst u) k → ∃ sk' V', k sk' V' ∧ QsOut P ops B env0 w ((i, true) :: r) pr pr' V V' := fun sk2 u hf hr => by
      have hagr : Agr ops pr V (put V o.dst u) := fun j hj d hd => put_other (fun e => hni (by
        have : dstAt ops i = some d := by unfold dstAt; rw [ho]; exact e
        rw [hk.dst_inj this hd]; exact hj))
      obtain ⟨sk', V', hkk, out⟩ := qs_facts hk r (i :: pr) pr' sk2 (put V o.dst u) hc hcl' (fun j hj oj hoj hpj => by
        rcases List.mem_cons.1 hj with rfl | hj
        · exact hf
        · exact (hp j hj oj hoj hpj).agr hk hcl hj hagr) hr
      refine ⟨sk', V', hkk, fun j hj d hd => ?_, fun t ht => ?_, out.clo, fun j hj => out.sub j (List.mem_cons_of_mem _ hj), fun q hq => ?_, fun q hq => ?_, out.pure⟩
      · rw [out.agr j (List.mem_cons_of_mem _ hj) d hd, hagr j hj d hd]
      · rw [out.fr t ht]
        exact put_other (fun e => ht i (out.sub i List.mem_cons_self) (by unfold dstAt; rw [ho]; exact e))
      · rcases List.mem_cons.1 hq with rfl | hq
        · exact hf.agr hk hcl' List.mem_cons_self out.agr
        · exact out.facts q hq
      · rcases List.mem_cons.1 hq with rfl | hq
        · exact out.sub i List.mem_cons_self
        · exact out.inn q hq
    have hsame : ∀ u, opE ops B env0 (put V o.dst u) i = opE ops B env0 V i := fun u => opE_agr hbits (fun j hj d hd => put_other (fun e => hni (by
        have : dstAt ops i = some d := by unfold dstAt; rw [ho]; exact e
        rw [hk.dst_inj this hd]; exact hj)))
    simp only [wpQs, ho] at h
    rcases guardP_cases h with ⟨hg, h⟩ | ⟨g, want, d, hg, hd, hcase⟩
    · obtain ⟨v, w', ⟨e, hr⟩, gg⟩ := wpO_det hcall' (wpQ_wpO h)
      refine step sk v ⟨o, ho, hcall', ?_⟩ hr
      rw [hg]
      show wpO P _ _ _ _ _
      rw [hsame]
      exact gg _ ⟨e, fun d hd => put_dst hd⟩
    · have hgp : g ∈ pr := by
        obtain ⟨hb, d2, hd2, hw2⟩ := hk.guard i o ho g want hg
        exact hbits g (wr_lt hw2) hb
      have hVd : ∀ u, put V o.dst u d = V d := fun u => put_other (fun e => hni (by
        have : dstAt ops i = some d := by unfold dstAt; rw [ho]; exact e
        rw [hk.dst_inj this hd]; exact hgp))
      rcases hcase (opE_guard hk ho hg hd) with ⟨h1, h⟩ | ⟨h1, h⟩
      · obtain ⟨v, w', ⟨e, hr⟩, gg⟩ := wpO_det hcall' (wpQ_wpO h)
        refine step sk v ⟨o, ho, hcall', ?_⟩ hr
        rw [hg]
        refine ⟨d, hd, .inl ⟨(hVd v).trans h1, ?_⟩⟩
        rw [hsame]
        exact gg _ ⟨e, fun d hd => put_dst hd⟩
      · refine step (i :: sk) undef ⟨o, ho, hcall', ?_⟩ h
        rw [hg]
        exact ⟨d, hd, .inr ⟨by rw [hVd]; exact h1, fun d hd => put_dst hd⟩⟩
  | (i, false) :: r, pr, pr', sk, V, hc, hcl, hp, h => by
    simp only [chkQs] at hc
    split at hc
    case isFalse => cases hc
    rename_i hcond
    simp only [Bool.and_eq_true, Bool.not_eq_true'] at hcond
    obtain ⟨⟨h1, h2⟩, h3⟩ := hcond
    obtain ⟨o, ho, hcall⟩ := opAt_spec h3
    have hcall' : isCall o.op = false := by simpa using hcall
    have hi : i ∈ pr := by simpa using h1
    have step : ∀ (sk2 : List Nat), Fact P ops B env0 V w i → wpQs P ops B env0 w r sk2 V k → ∃ sk' V', k sk' V' ∧ QsOut P ops B env0 w ((i, false) :: r) pr pr' V V' := fun sk2 hf hr => by
      obtain ⟨sk', V', hkk, out⟩ := qs_facts hk r pr pr' sk2 V hc hcl hp hr
      refine ⟨sk', V', hkk, out.agr, out.fr, out.clo, out.sub, fun q hq => ?_, fun q hq => ?_, out.pure⟩
      · rcases List.mem_cons.1 hq with rfl | hq
        · exact hf.agr hk hcl hi out.agr
        · exact out.facts q hq
      · rcases List.mem_cons.1 hq with rfl | hq
        · exact out.sub _ hi
        · exact out.inn q hq
    simp only [wpQs, ho] at h
    rcases guardP_cases h with ⟨hg, h⟩ | ⟨g, want, d, hg, hd, hcase⟩
    · obtain ⟨v, w', ⟨e, he, hr⟩, gg⟩ := wpO_det hcall' (wpQ_wpO h)
      refine step sk ⟨o, ho, hcall', ?_⟩ hr
      rw [hg]
      exact gg _ ⟨e, fun d hd => by rw [hd] at he; exact he.symm⟩
    · rcases hcase (opE_guard hk ho hg hd) with ⟨h1, h⟩ | ⟨h1, h, hr⟩
      · obtain ⟨v, w', ⟨e, he, hr⟩, gg⟩ := wpO_det hcall' (wpQ_wpO h)
        refine step sk ⟨o, ho, hcall', ?_⟩ hr
        rw [hg]
        exact ⟨d, hd, .inl ⟨h1, gg _ ⟨e, fun d hd => by rw [hd] at he; exact he.symm⟩⟩⟩
      · refine step sk ⟨o, ho, hcall', ?_⟩ hr
        rw [hg]
        exact ⟨d, hd, .inr ⟨h1, fun d hd => by rw [hd] at h; exact h⟩⟩

/-- Where the run stands: what is listed, and what the frame holds. -/
structure Inv (ops : List Oper) (env0 V : Env) (X pr xd : List Nat) (n : Nat) (listed : Array Bool) (a : Act) : Prop where
  size : listed.size = ops.length
  clo : ∀ i o, ops[i]? = some o → listed.getD i true = true → ∀ k ∈ depsOf o, listed.getD k true = true
  sub : ∀ j, j < ops.length → listed.getD j true = true → j ∈ pr
  xs : ∀ x ∈ X, x < ops.length → (listed.getD x true = true ↔ x ∈ xd)
  asize : a.tmps.size = n
  defers : a.defers = []
  env : ∀ t, a.tmps.getD t undef = match wr ops t with | some j => if listed.getD j true = true then V t else env0 t | none => env0 t

theorem bit_maskOf {acc : List Nat} {j : Nat} : ∀ {l : List Nat}, (maskOf acc l).testBit j = true → j ∈ l ∨ ∃ k ∈ l, (acc.getD k 0).testBit j = true
  | [], h => by simp [maskOf] at h
  | k :: r, h => by
    simp only [maskOf, Nat.testBit_or, Bool.or_eq_true] at h
    rcases h with (h | h) | h
    · rw [Nat.one_shiftLeft, Nat.testBit_two_pow] at h
      exact .inl (by rw [of_decide_eq_true h]; exact List.mem_cons_self)
    · exact .inr ⟨k, List.mem_cons_self, h⟩
    · rcases bit_maskOf h with h | ⟨m, hm, h⟩
      · exact .inl (List.mem_cons_of_mem _ h)
      · exact .inr ⟨m, List.mem_cons_of_mem _ hm, h⟩

/-- The masks as they grow: each bit is an edge, or an edge's own bit. -/
theorem masksGo_bits : ∀ (l pre : List Oper) (acc : List Nat), acc.length = pre.length →
    (∀ i o, pre[i]? = some o → (∀ k ∈ depsOf o, k < i) → ∀ j, (acc.getD i 0).testBit j = true → j ∈ depsOf o ∨ ∃ k ∈ depsOf o, (acc.getD k 0).testBit j = true) →
    ∀ i o, (pre ++ l)[i]? = some o → (∀ k ∈ depsOf o, k < i) → ∀ j, ((masksGo l acc).getD i 0).testBit j = true → j ∈ depsOf o ∨ ∃ k ∈ depsOf o, ((masksGo l acc).getD k 0).testBit j = true
  | [], pre, acc, _, h => by simpa [masksGo] using h
  | o :: r, pre, acc, hl, h => by
    have e : pre ++ o :: r = (pre ++ [o]) ++ r := by simp
    rw [e]
    simp only [masksGo]
    refine masksGo_bits r (pre ++ [o]) _ (by simp [hl]) ?_
    intro i oi hoi hdep j hj
    rcases Nat.lt_or_ge i pre.length with hlt | hge
    · have hoi' : pre[i]? = some oi := by rw [List.getElem?_append_left hlt] at hoi; exact hoi
      have e1 : (acc ++ [maskOf acc (depsOf o)]).getD i 0 = acc.getD i 0 := by simp [List.getD_eq_getElem?_getD, List.getElem?_append_left (by omega : i < acc.length)]
      rw [e1] at hj
      rcases h i oi hoi' hdep j hj with h1 | ⟨k, hk, h1⟩
      · exact .inl h1
      · refine .inr ⟨k, hk, ?_⟩
        have := hdep k hk
        have e2 : (acc ++ [maskOf acc (depsOf o)]).getD k 0 = acc.getD k 0 := by simp [List.getD_eq_getElem?_getD, List.getElem?_append_left (by omega : k < acc.length)]
        rw [e2]; exact h1
    · have hi : i = pre.length := by
        have := (List.getElem?_eq_some_iff.1 hoi).1
        simp at this
        omega
      subst hi
      have hoi' : oi = o := by simpa using hoi.symm
      subst hoi'
      have e1 : (acc ++ [maskOf acc (depsOf oi)]).getD pre.length 0 = maskOf acc (depsOf oi) := by
        rw [← hl]; simp [List.getD_eq_getElem?_getD]
      rw [e1] at hj
      rcases bit_maskOf hj with h1 | ⟨k, hk, h1⟩
      · exact .inl h1
      · refine .inr ⟨k, hk, ?_⟩
        have := hdep k hk
        have e2 : (acc ++ [maskOf acc (depsOf oi)]).getD k 0 = acc.getD k 0 := by simp [List.getD_eq_getElem?_getD, List.getElem?_append_left (by omega : k < acc.length)]
        rw [e2]; exact h1

/-- What is listed is closed under the masks, too. -/
theorem bits_listed {listed : Array Bool} (hk : OpsOk ops (masksGo ops [])) (hclo : ∀ i o, ops[i]? = some o → listed.getD i true = true → ∀ k ∈ depsOf o, listed.getD k true = true) :
    ∀ (m i : Nat), i < m → ∀ o, ops[i]? = some o → (∀ k ∈ depsOf o, listed.getD k true = true) → ∀ j, bit (masksGo ops []) i j = true → listed.getD j true = true := by
  intro m
  induction m with
  | zero => intro i hi; omega
  | succ m ih =>
    intro i hi o ho hd j hj
    rcases masksGo_bits ops [] [] rfl (by simp) i o (by simpa using ho) (hk.deps i o ho) j hj with h | ⟨k, hk', h⟩
    · exact hd j h
    · have hlt := hk.deps i o ho k hk'
      have hkl : k < ops.length := by have := (List.getElem?_eq_some_iff.1 ho).1; omega
      exact ih k (by omega) ops[k] (List.getElem?_eq_getElem hkl) (hclo k _ (List.getElem?_eq_getElem hkl) (hd k hk')) j h

theorem getD_set_self {listed : Array Bool} {i : Nat} (hi : i < listed.size) : (listed.setIfInBounds i true).getD i true = true := by
  simp [hi]
theorem getD_set {listed : Array Bool} {i j : Nat} : (listed.setIfInBounds i true).getD j true = (if i = j then true else listed.getD j true) := by
  by_cases h : i = j
  · subst h
    rw [if_pos rfl]
    rcases Nat.lt_or_ge i listed.size with hl | hl
    · exact getD_set_self hl
    · simp [hl]
  · rw [if_neg h]; exact getD_set_ne true h

/-- How many are not listed. -/
def unl (ops : List Oper) (listed : Array Bool) : Nat := ((List.range ops.length).filter fun j => !listed.getD j true).length
theorem filter_less {p q : Nat → Bool} {i : Nat} : ∀ {l : List Nat}, (∀ j ∈ l, q j = true → p j = true) → i ∈ l → p i = true → q i = false → (l.filter q).length < (l.filter p).length
  | [], _, hi, _, _ => by cases hi
  | x :: r, h, hi, hp, hq => by
    have hle : ∀ {l : List Nat}, (∀ j ∈ l, q j = true → p j = true) → (l.filter q).length ≤ (l.filter p).length := by
      intro l
      induction l with
      | nil => intro _; simp
      | cons y s ih =>
        intro h
        have := ih (fun j hj => h j (List.mem_cons_of_mem _ hj))
        have h2 := h y List.mem_cons_self
        simp only [List.filter_cons]
        cases hqy : q y <;> cases hpy : p y <;> simp_all <;> omega
    simp only [List.filter_cons]
    rcases List.mem_cons.1 hi with rfl | hi
    · rw [hp, hq]
      have := hle (fun j hj => h j (List.mem_cons_of_mem _ hj))
      simp only [Bool.false_eq_true, if_false, if_true, List.length_cons]
      omega
    · have := filter_less (fun j hj => h j (List.mem_cons_of_mem _ hj)) hi hp hq
      have h2 := h x List.mem_cons_self
      cases hqx : q x <;> cases hpx : p x <;> simp_all <;> omega
theorem unl_set {listed : Array Bool} {i : Nat} (hi : i < ops.length) (hl : listed.getD i true = false) : unl ops (listed.setIfInBounds i true) < unl ops listed := by
  refine filter_less (i := i) (fun j _ h => ?_) (List.mem_range.2 hi) (by rw [hl]; rfl) ?_
  · rw [getD_set] at h
    split at h
    · cases h
    · exact h
  · rw [getD_set, if_pos rfl]; rfl

variable {Q : Exit → Act → World → Prop}

theorem ready_spec {listed : Array Bool} (hs : listed.size = ops.length) {i : Nat} (h : i ∈ Region.ready .any ops.toArray listed) :
    listed.getD i true = false ∧ ∃ o, ops[i]? = some o ∧ i < ops.length ∧ ∀ k ∈ depsOf o, k < ops.length → listed.getD k true = true := by
  obtain ⟨h1, o, ho, h2⟩ := mem_ready.1 h
  have ho' : ops[i]? = some o := by simpa using ho
  refine ⟨h1, o, ho', (List.getElem?_eq_some_iff.1 ho').1, fun k hk hkl => ?_⟩
  unfold depsOf at hk
  obtain ⟨e, he, rfl⟩ := List.mem_map.1 hk
  obtain ⟨he1, he2⟩ := List.mem_filter.1 he
  have := h2 e (by simpa using he1) he2
  have hlt : e.on < listed.size := by omega
  simp only [Array.getD_eq_getD_getElem?, Array.getElem?_eq_getElem hlt, Option.getD_some] at this ⊢
  exact this

theorem ready_nil (hk : OpsOk ops B) {listed : Array Bool} (hs : listed.size = ops.length) (h : Region.ready .any ops.toArray listed = []) : ∀ m j, j < m → j < ops.length → listed.getD j true = true := by
  intro m
  induction m with
  | zero => intro j hj; omega
  | succ m ih =>
    intro j hj hjl
    cases hb : listed.getD j true with
    | true => rfl
    | false =>
      exfalso
      have : j ∈ Region.ready .any ops.toArray listed := mem_ready.2 ⟨hb, ops[j], by simp [hjl], fun e he hbd => by
        have hke : e.on ∈ depsOf ops[j] := List.mem_map.2 ⟨e, List.mem_filter.2 ⟨by simpa using he, hbd⟩, rfl⟩
        have hlt := hk.deps j _ (List.getElem?_eq_getElem hjl) e.on hke
        have := ih e.on (by omega) (by omega)
        have hlt2 : e.on < listed.size := by omega
        simp only [Array.getD_eq_getD_getElem?, Array.getElem?_eq_getElem hlt2, Option.getD_some] at this ⊢
        exact this⟩
      rw [h] at this
      cases this

theorem wpOp_of {P : Program} {i : Nat} {o : Oper} {K : Act → World → Prop} {a : Act} {w : World} (ho : ops[i]? = some o)
    (h : if Region.wanted o (yielded ops.toArray a.tmps) then o.wp P a w K Q else K (a.put o.dst undef) w) : wpOp P ops.toArray Q i K a w := by
  unfold wpOp
  have : ops.toArray[i]? = some o := by simpa using ho
  rw [this]
  dsimp only
  split
  · rename_i hw; rw [if_pos hw] at h; exact .inl h
  · rename_i hw; rw [if_neg hw] at h; exact h

theorem Inv.step {V V2 : Env} {pr pr2 xd xd2 : List Nat} {listed : Array Bool} {a : Act} {i : Nat} {o : Oper} {v : Value} (hk : OpsOk ops B) (inv : Inv ops env0 V X pr xd n listed a) (ho : ops[i]? = some o)
    (hdn : ∀ d, o.dst = some d → d < n) (hdeps : ∀ k ∈ depsOf o, listed.getD k true = true) (hV : ∀ t, o.dst ≠ some t → V2 t = V t) (hv : ∀ d, o.dst = some d → V2 d = v) (hpr : ∀ j ∈ pr, j ∈ pr2) (hi : i ∈ pr2)
    (hx : ∀ x ∈ X, x < ops.length → ((x = i ∨ x ∈ xd) ↔ x ∈ xd2)) : Inv ops env0 V2 X pr2 xd2 n (listed.setIfInBounds i true) (a.put o.dst v) := by
  have hil := (List.getElem?_eq_some_iff.1 ho).1
  refine ⟨by simp [inv.size], fun j oj hoj hj k hkd => ?_, fun j hjl hj => ?_, fun x hxX hxl => ?_, ?_, ?_, fun t => ?_⟩
  · rw [getD_set] at hj ⊢
    split
    · rfl
    · split at hj
      · rename_i e
        subst e
        obtain rfl : o = oj := Option.some.inj (ho.symm.trans hoj)
        exact hdeps k hkd
      · exact inv.clo j oj hoj hj k hkd
  · rw [getD_set] at hj
    split at hj
    · rename_i e; exact e ▸ hi
    · exact hpr j (inv.sub j hjl hj)
  · rw [getD_set, ← hx x hxX hxl]
    split
    · rename_i e; simp [e]
    · rename_i e
      rw [inv.xs x hxX hxl]
      exact ⟨.inr, fun h => h.resolve_left (Ne.symm e)⟩
  · cases hd : o.dst <;> simp [Act.put, inv.asize]
  · cases hd : o.dst <;> simp [Act.put, inv.defers]
  · have hA : Agree n (fun t => a.tmps.getD t undef) a := ⟨inv.asize, fun _ => rfl, inv.defers⟩
    rw [(hA.put hdn v).get t]
    by_cases hd : o.dst = some t
    · rw [hk.wr i o ho t hd]
      dsimp only
      rw [getD_set, if_pos rfl, if_pos rfl, put_dst hd, hv t hd]
    · rw [put_other hd, inv.env t]
      cases hw : wr ops t with
      | none => rfl
      | some j =>
        dsimp only
        have hne : i ≠ j := fun e => by
          subst e
          have := wr_some hw
          unfold dstAt at this
          rw [ho] at this
          exact hd this
        rw [getD_set, if_neg hne, hV t hd]

/-- What a stage owes. -/
def StOk (P : Program) (ops : List Oper) (Q : Exit → Act → World → Prop) (X : List Nat) (env0 : Env) (n : Nat) (next : Env → World → Prop) (st : Stg) : Prop :=
  ∀ (pr xd sk : List Nat) (V : Env) (w : World), chkSt ops (masksGo ops []) X st pr xd = true → Clo (masksGo ops []) ops.length pr →
    (∀ i ∈ pr, ∀ o, ops[i]? = some o → isPure o.op = true → Fact P ops (masksGo ops []) env0 V w i) → (∀ x ∈ xd, x ∈ pr) → (∀ x ∈ xd, x ∈ X ∧ x < ops.length) →
    (∀ t, (∀ j ∈ pr, dstAt ops j ≠ some t) → V t = env0 t) → wpSt P ops (masksGo ops []) env0 st sk V w next →
    ∀ (fuel : Nat) (listed : Array Bool) (a : Act), unl ops listed ≤ fuel → Inv ops env0 V X pr xd n listed a → wpAny P .any ops.toArray Q fuel listed a w
/-- One way on from a stage. -/
def StepOk (P : Program) (ops : List Oper) (Q : Exit → Act → World → Prop) (X : List Nat) (env0 : Env) (n : Nat) (next : Env → World → Prop) (pr' xd sk' : List Nat) (V' : Env) (w : World) (i : Nat) : Prop :=
  i ∉ pr' ∧ (∃ o, ops[i]? = some o ∧ isPure o.op = false) ∧ (∀ j, j < ops.length → bit (masksGo ops []) i j = true → j ∈ pr') ∧ ∃ r, chkSt ops (masksGo ops []) X r (i :: pr') (i :: xd) = true ∧ StOk P ops Q X env0 n next r ∧
    (match ops[i]? with
      | none => False
      | some o => guardP ops sk' (opE ops (masksGo ops []) env0 V' i) V' o.guard
          (fun V => wpO P (ev (opE ops (masksGo ops []) env0 V i)) o.op o.type w fun v w' => wpSt P ops (masksGo ops []) env0 r sk' (put V o.dst v) w' next)
          (fun V => wpSt P ops (masksGo ops []) env0 r (i :: sk') (put V o.dst undef) w next))

theorem stage_sound {next : Env → World → Prop} (hk : OpsOk ops (masksGo ops [])) (hn : ∀ o ∈ ops, ∀ d, o.dst = some d → d < n)
    (hnext : ∀ env' w' a', Agree n env' a' → next env' w' → Q .normal a' w') {qs : List (Nat × Bool)} {pr pr' xd sk' : List Nat} {V V' : Env} {w : World} (hxp : ∀ x ∈ xd, x ∈ pr) (hxX : ∀ x ∈ xd, x ∈ X ∧ x < ops.length)
    (hposs : chkPoss ops (masksGo ops []) X qs pr xd = true) (out : QsOut P ops (masksGo ops []) env0 w qs pr pr' V V') (hfr' : ∀ t, (∀ j ∈ pr', dstAt ops j ≠ some t) → V' t = env0 t)
    (hX : ∀ i ∈ X, i < ops.length → i ∈ xd ∨ StepOk P ops Q X env0 n next pr' xd sk' V' w i ∨ ∃ z ∈ X, z < ops.length ∧ z ∉ xd ∧ bit (masksGo ops []) i z = true)
    (hfin : (∀ x ∈ X, x < ops.length → x ∈ xd) → next V' w) :
    ∀ (fuel : Nat) (listed : Array Bool) (a : Act), unl ops listed ≤ fuel → Inv ops env0 V X pr xd n listed a → wpAny P .any ops.toArray Q fuel listed a w := by
    have hfact : ∀ i, i < ops.length → i ∉ X → possible (masksGo ops []) X xd i = true → Fact P ops (masksGo ops []) env0 V' w i ∧ i ∈ pr' := by
      intro i hi hiX hp
      unfold chkPoss at hposs
      rw [List.all_eq_true] at hposs
      have := hposs i (List.mem_range.2 hi)
      simp only [Bool.or_eq_true, hp, Bool.not_true, Bool.false_eq_true, or_false, List.contains_iff_mem, hiX, false_or, Bool.and_eq_true, List.any_eq_true, beq_iff_eq] at this
      rcases this with ⟨q, hq, rfl⟩ | ⟨h1, h2⟩
      · exact ⟨out.facts q hq, out.inn q hq⟩
      · obtain ⟨o, ho, hp⟩ := opAt_spec h2
        exact ⟨out.pure i (out.sub i h1) o ho hp, out.sub i h1⟩
    have finish : ∀ (listed : Array Bool) (a : Act), Inv ops env0 V' X pr' xd n listed a → Region.ready .any ops.toArray listed = [] → Q .normal a w := by
      intro listed a inv hr
      have hall := ready_nil hk inv.size hr
      refine hnext V' w a ⟨inv.asize, fun t => ?_, inv.defers⟩ (hfin fun x hxX' hxl => (inv.xs x hxX' hxl).1 (hall (x + 1) x (by omega) hxl))
      rw [inv.env t]
      cases hw : wr ops t with
      | none => exact (hfr' t fun j _ e => by
          unfold dstAt at e
          cases hoj : ops[j]? with
          | none => rw [hoj] at e; cases e
          | some oj =>
            rw [hoj] at e
            have := hk.wr j oj hoj t e
            rw [hw] at this
            cases this).symm
      | some j => dsimp only; rw [if_pos (hall (j + 1) j (by omega) (wr_lt hw))]
    -- the inner rounds
    intro fuel listed a hu inv0
    have inv : Inv ops env0 V' X pr' xd n listed a := by
      refine ⟨inv0.size, inv0.clo, fun j hj h => out.sub j (inv0.sub j hj h), inv0.xs, inv0.asize, inv0.defers, fun t => ?_⟩
      rw [inv0.env t]
      cases hw : wr ops t with
      | none => rfl
      | some j =>
        dsimp only
        split
        · rename_i hl; exact (out.agr j (inv0.sub j (wr_lt hw) hl) t (wr_some hw)).symm
        · rfl
    clear inv0
    induction fuel generalizing listed a with
    | zero =>
      have hr : Region.ready .any ops.toArray listed = [] := by
        cases hr : Region.ready .any ops.toArray listed with
        | nil => rfl
        | cons i l =>
          exfalso
          obtain ⟨h1, o, ho, hil, _⟩ := ready_spec inv.size (by rw [hr]; exact List.mem_cons_self : i ∈ Region.ready .any ops.toArray listed)
          have := unl_set hil h1
          omega
      exact ⟨hr, finish listed a inv hr⟩
    | succ fuel ih =>
      refine ⟨fun hr => finish listed a inv hr, fun i hi => ?_⟩
      obtain ⟨h1, o, ho, hil, hdeps0⟩ := ready_spec inv.size hi
      have hdeps : ∀ k ∈ depsOf o, listed.getD k true = true := fun k hkd => hdeps0 k hkd (by have := hk.deps i o ho k hkd; omega)
      have hbits : ∀ j, bit (masksGo ops []) i j = true → listed.getD j true = true := bits_listed hk inv.clo (i + 1) i (by omega) o ho hdeps
      have hback : ∀ j, listed.getD j true = true → j < ops.length → bit (masksGo ops []) j i = false := fun j hj hjl => by
        cases hb : bit (masksGo ops []) j i with
        | false => rfl
        | true =>
          have := bits_listed hk inv.clo (j + 1) j (by omega) ops[j] (List.getElem?_eq_getElem hjl) (inv.clo j _ (List.getElem?_eq_getElem hjl) hj) i hb
          rw [h1] at this; cases this
      have hdn : ∀ d, o.dst = some d → d < n := hn o (List.mem_of_getElem? ho)
      have hul : unl ops (listed.setIfInBounds i true) ≤ fuel := by have := unl_set hil h1; omega
      have hA : Agree n (fun t => a.tmps.getD t undef) a := ⟨inv.asize, fun _ => rfl, inv.defers⟩
      have hops : ∀ x ∈ o.op.operands, ev (opE ops (masksGo ops []) env0 V' i) x = ev (fun t => a.tmps.getD t undef) x := by
        intro x hx
        cases x with
        | tmp t =>
          simp only [ev]
          rw [inv.env t]
          unfold opE
          cases hw : wr ops t with
          | none => rfl
          | some j =>
            dsimp only
            cases hb : bit (masksGo ops []) i j with
            | true => rw [if_pos (hbits j hb)]; rfl
            | false =>
              have hnl : ¬ listed.getD j true = true := fun hl => by
                rcases hk.look i o ho t hx j hw with rfl | h | h
                · rw [h1] at hl; cases hl
                · rw [hb] at h; cases h
                · rw [hback j hl (wr_lt hw)] at h; cases h
              rw [if_neg hnl]; rfl
        | _ => rfl
      have hslot : ∀ g want, o.guard = some (g, want) → ∃ d, dstAt ops g = some d ∧ a.tmps.getD d undef = V' d ∧ ∀ b, (yielded ops.toArray a.tmps g = some b ↔ V' d = .bool b) := by
        intro g want hg
        obtain ⟨hb, d, hd, hw⟩ := hk.guard i o ho g want hg
        have hl := hbits g hb
        have hv : a.tmps.getD d undef = V' d := by rw [inv.env d, hw]; dsimp only; rw [if_pos hl]
        refine ⟨d, hd, hv, fun b => ?_⟩
        have hdl : d < a.tmps.size := by
          rw [inv.asize]
          have hgl := wr_lt hw
          refine hn ops[g] (List.getElem_mem hgl) d ?_
          unfold dstAt at hd
          rw [List.getElem?_eq_getElem hgl] at hd
          exact hd
        have hv' : a.tmps[d] = V' d := by
          rw [← hv]; simp [Array.getD_eq_getD_getElem?, hdl]
        unfold yielded
        have : (ops.toArray[g]?).bind (·.dst) = some d := by
          have : ops.toArray[g]? = ops[g]? := by simp
          rw [this]; exact hd
        rw [this]
        simp only [Option.bind_some, Array.getElem?_eq_getElem hdl, hv']
        cases V' d <;> simp
      refine wpOp_of ho ?_
      by_cases hiX : i ∈ X
      · -- one of the operations that are not quiet
        obtain ⟨hxn', ⟨oi, hoi, hnp⟩, hxbits, r, hrest, hS, hkk⟩ : StepOk P ops Q X env0 n next pr' xd sk' V' w i := by
          rcases hX i hiX hil with h | h | ⟨z, hzX, hzl, hzx, hzb⟩
          · have := (inv.xs i hiX hil).2 h
            rw [h1] at this; cases this
          · exact h
          · exact absurd ((inv.xs z hzX hzl).1 (hbits z hzb)) hzx
        obtain rfl : o = oi := Option.some.inj (ho.symm.trans hoi)
        rw [ho] at hkk
        dsimp only at hkk
        have hclx : Clo (masksGo ops []) ops.length (i :: pr') := fun j hj k hkl hb => by
          rcases List.mem_cons.1 hj with rfl | hj
          · exact List.mem_cons_of_mem _ (hxbits k hkl hb)
          · exact List.mem_cons_of_mem _ (out.clo j hj k hkl hb)
        have hagr : ∀ u, Agr ops pr' V' (put V' o.dst u) := fun u j hj d hd => put_other (fun e => hxn' (by
          have : dstAt ops i = some d := by unfold dstAt; rw [ho]; exact e
          rw [hk.dst_inj this hd]; exact hj))
        have go : ∀ (sk2 : List Nat) (u : Value) (w2 : World), wpSt P ops (masksGo ops []) env0 r sk2 (put V' o.dst u) w2 next → wpAny P .any ops.toArray Q fuel (listed.setIfInBounds i true) (a.put o.dst u) w2 := by
          intro sk2 u w2 hst
          refine hS (i :: pr') (i :: xd) sk2 (put V' o.dst u) w2 hrest hclx ?_ ?_ ?_ ?_ hst fuel _ _ hul ?_
          · intro j hj oj hoj hpj
            rcases List.mem_cons.1 hj with rfl | hj
            · obtain rfl : o = oj := Option.some.inj (ho.symm.trans hoj)
              rw [hnp] at hpj; cases hpj
            · exact ((out.pure j hj oj hoj hpj).pure hoj hpj).agr hk out.clo hj (hagr u)
          · intro y hy
            rcases List.mem_cons.1 hy with rfl | hy
            · exact List.mem_cons_self
            · exact List.mem_cons_of_mem _ (out.sub y (hxp y hy))
          · intro y hy
            rcases List.mem_cons.1 hy with rfl | hy
            · exact ⟨hiX, hil⟩
            · exact hxX y hy
          · intro t ht
            rw [put_other (fun e => ht i List.mem_cons_self (by unfold dstAt; rw [ho]; exact e))]
            exact hfr' t fun j hj => ht j (List.mem_cons_of_mem _ hj)
          · exact inv.step hk ho hdn hdeps (fun t ht => put_other ht) (fun d hd => put_dst hd) (fun j hj => List.mem_cons_of_mem _ hj) List.mem_cons_self (fun y _ _ => by simp)
        rcases guardP_cases hkk with ⟨hg, h⟩ | ⟨g, want, d, hg, hd, hcase⟩
        · rw [if_pos (by simp [Region.wanted, hg])]
          exact wpO_sound hA (wpO_congr hops h) (fun v w' hK => go sk' v w' hK)
        · obtain ⟨d2, hd2, hv, hy⟩ := hslot g want hg
          obtain rfl : d = d2 := Option.some.inj (hd.symm.trans hd2)
          rcases hcase (opE_guard hk ho hg hd) with ⟨h2, h⟩ | ⟨h2, h⟩
          · rw [if_pos (by simp [Region.wanted, hg, (hy want).2 h2])]
            exact wpO_sound hA (wpO_congr hops h) (fun v w' hK => go sk' v w' hK)
          · rw [if_neg]
            · exact go (i :: sk') undef w h
            · simp only [Region.wanted, hg, beq_iff_eq]
              intro e
              have := (hy want).1 e
              rcases h2 with h2 | ⟨vs, h2⟩
              · rw [h2] at this; cases want <;> simp at this
              · rw [h2] at this; cases this
      · have hp : possible (masksGo ops []) X xd i = true := by
          unfold possible
          simp only [Bool.and_eq_true, List.all_eq_true, Bool.or_eq_true, Bool.not_eq_true', List.contains_iff_mem]
          refine ⟨fun x hxX' => ?_, fun x hxd => ?_⟩
          · cases hb : bit (masksGo ops []) i x with
            | false => exact .inl rfl
            | true =>
              refine .inr ?_
              rcases Nat.lt_or_ge x ops.length with hxl | hxl
              · exact (inv.xs x hxX' hxl).1 (hbits x hb)
              · exfalso
                rcases masksGo_bits ops [] [] rfl (by simp) i o (by simpa using ho) (hk.deps i o ho) x hb with h | ⟨k, hkd, h⟩
                · have := hk.deps i o ho x h; omega
                · have hbl : ∀ m j, j < m → j < ops.length → ∀ y, bit (masksGo ops []) j y = true → y < j := by
                    intro m
                    induction m with
                    | zero => intro j hj; omega
                    | succ m ihm =>
                      intro j hj hjl y hy
                      rcases masksGo_bits ops [] [] rfl (by simp) j ops[j] (by simp [hjl]) (hk.deps j _ (List.getElem?_eq_getElem hjl)) y hy with h | ⟨k, hkd, h⟩
                      · exact hk.deps j _ (List.getElem?_eq_getElem hjl) y h
                      · have h2 := hk.deps j _ (List.getElem?_eq_getElem hjl) k hkd
                        have := ihm k (by omega) (by omega) y h
                        omega
                  have h2 := hk.deps i o ho k hkd
                  have := hbl (k + 1) k (by omega) (by omega) x h
                  omega
          · obtain ⟨hxX', hxl⟩ := hxX x hxd
            exact hback x ((inv.xs x hxX' hxl).2 hxd) hxl
        obtain ⟨hf, hip⟩ := hfact i hil hiX hp
        obtain ⟨o2, ho2, hcall, hf⟩ := hf
        obtain rfl : o = o2 := Option.some.inj (ho.symm.trans ho2)
        have go : ∀ u : Value, (∀ d, o.dst = some d → V' d = u) → wpAny P .any ops.toArray Q fuel (listed.setIfInBounds i true) (a.put o.dst u) w := fun u hu' =>
          ih _ _ hul (inv.step hk ho hdn hdeps (fun _ _ => rfl) hu' (fun _ h => h) hip (fun x hxX' _ => ⟨fun h => h.resolve_left (fun e => hiX (e ▸ hxX')), .inr⟩))
        cases hg : o.guard with
        | none =>
          rw [hg] at hf
          rw [if_pos (by simp [Region.wanted, hg])]
          exact wpO_sound hA (wpO_congr hops hf) (fun v w' hK => by obtain ⟨e, h2⟩ := hK; subst e; exact go v h2)
        | some gw =>
          obtain ⟨g, want⟩ := gw
          rw [hg] at hf
          obtain ⟨d, hgd, hf⟩ := hf
          obtain ⟨d2, hd2, hv, hy⟩ := hslot g want hg
          obtain rfl : d = d2 := Option.some.inj (hgd.symm.trans hd2)
          rcases hf with ⟨h2, h⟩ | ⟨h2, h⟩
          · rw [if_pos (by simp [Region.wanted, hg, (hy want).2 h2])]
            exact wpO_sound hA (wpO_congr hops h) (fun v w' hK => by obtain ⟨e, h2⟩ := hK; subst e; exact go v h2)
          · rw [if_neg]
            · exact go undef h
            · simp only [Region.wanted, hg, beq_iff_eq]
              intro e
              have := (hy want).1 e
              rcases h2 with h2 | ⟨vs, h2⟩
              · rw [h2] at this; cases want <;> simp at this
              · rw [h2] at this; cases this

theorem st_sound {next : Env → World → Prop} (hk : OpsOk ops (masksGo ops [])) (hn : ∀ o ∈ ops, ∀ d, o.dst = some d → d < n)
    (hnext : ∀ env' w' a', Agree n env' a' → next env' w' → Q .normal a' w') :
    ∀ (st : Stg), (isStg st = true → StOk P ops Q X env0 n next st) ∧
      (∀ (pr' xd sk' : List Nat) (V' : Env) (w : World), isCho st = true → chkSt ops (masksGo ops []) X st pr' xd = true → wpSt P ops (masksGo ops []) env0 st sk' V' w next →
        (∀ i, hasCho i st = true → StepOk P ops Q X env0 n next pr' xd sk' V' w i) ∧ ∃ i, i ∈ X ∧ i ∉ pr' ∧ i < ops.length) := by
  intro st
  induction st with
  | fin qs =>
    refine ⟨fun _ => ?_, fun _ _ _ _ _ h => by cases h⟩
    intro pr xd sk V w hc hcl hpure hxp hxX hfr h
    simp only [chkSt] at hc
    cases hq : chkQs ops (masksGo ops []) X qs pr with
    | none => rw [hq] at hc; cases hc
    | some pr' =>
    rw [hq] at hc
    simp only [Bool.and_eq_true] at hc
    obtain ⟨hposs, hx⟩ := hc
    simp only [wpSt] at h
    obtain ⟨sk', V', hkk, out⟩ := qs_facts hk qs pr pr' sk V hq hcl hpure h
    have hfr' : ∀ t, (∀ j ∈ pr', dstAt ops j ≠ some t) → V' t = env0 t := fun t ht => (out.fr t ht).trans (hfr t fun j hj => ht j (out.sub j hj))
    refine stage_sound (sk' := sk') hk hn hnext hxp hxX hposs out hfr' (fun i hi _ => .inl ?_) (fun _ => hkk)
    simpa using List.all_eq_true.1 hx i hi
  | run qs c ih =>
    refine ⟨fun _ => ?_, fun _ _ _ _ _ h => by cases h⟩
    intro pr xd sk V w hc hcl hpure hxp hxX hfr h
    simp only [chkSt] at hc
    cases hq : chkQs ops (masksGo ops []) X qs pr with
    | none => rw [hq] at hc; cases hc
    | some pr' =>
    rw [hq] at hc
    simp only [Bool.and_eq_true] at hc
    obtain ⟨⟨⟨hposs, hcho⟩, hall⟩, hcc⟩ := hc
    simp only [wpSt] at h
    obtain ⟨sk', V', hkk, out⟩ := qs_facts hk qs pr pr' sk V hq hcl hpure h
    have hfr' : ∀ t, (∀ j ∈ pr', dstAt ops j ≠ some t) → V' t = env0 t := fun t ht => (out.fr t ht).trans (hfr t fun j hj => ht j (out.sub j hj))
    obtain ⟨hsteps, x, hx1, hx2, hx3⟩ := ih.2 pr' xd sk' V' w hcho hcc hkk
    refine stage_sound (sk' := sk') hk hn hnext hxp hxX hposs out hfr' (fun i hi _ => ?_) (fun hd => ?_)
    · have := List.all_eq_true.1 hall i hi
      simp only [Bool.or_eq_true, List.contains_iff_mem, List.any_eq_true, Bool.and_eq_true, Bool.not_eq_true', decide_eq_true_eq] at this
      rcases this with (h | h) | ⟨z, hz, ⟨h1, h2⟩, h3⟩
      · exact .inl h
      · exact .inr (.inl (hsteps i h))
      · exact .inr (.inr ⟨z, hz, h2, by simpa using h1, h3⟩)
    · exact absurd (out.sub x (hxp x (hd x hx1 hx3))) hx2
  | cho x r o ihr iho =>
    refine ⟨fun h => (by cases h), ?_⟩
    intro pr' xd sk' V' w _ hc h
    simp only [chkSt, Bool.and_eq_true, List.contains_iff_mem, Bool.not_eq_true', decide_eq_true_eq, List.all_eq_true, Bool.or_eq_true, List.mem_range] at hc
    obtain ⟨⟨⟨⟨⟨⟨⟨hxX', hxn⟩, hxl⟩, hxpure⟩, hxbits⟩, hsr⟩, hrest⟩, hoth⟩ := hc
    have hxn' : x ∉ pr' := by simpa using hxn
    simp only [wpSt, alsoP] at h
    obtain ⟨oi, hoi, hpi⟩ := opAt_spec hxpure
    have hh : (match ops[x]? with
      | none => False
      | some o => guardP ops sk' (opE ops (masksGo ops []) env0 V' x) V' o.guard
          (fun V => wpO P (ev (opE ops (masksGo ops []) env0 V x)) o.op o.type w fun v w' => wpSt P ops (masksGo ops []) env0 r sk' (put V o.dst v) w' next)
          (fun V => wpSt P ops (masksGo ops []) env0 r (x :: sk') (put V o.dst undef) w next)) ∧ (isNon o = true ∨ wpSt P ops (masksGo ops []) env0 o sk' V' w next) := by
      cases hno : isNon o with
      | true => rw [hno] at h; exact ⟨h, .inl rfl⟩
      | false => rw [hno] at h; exact ⟨h.1, .inr h.2⟩
    have hstep : StepOk P ops Q X env0 n next pr' xd sk' V' w x := ⟨hxn', ⟨oi, hoi, by simpa using hpi⟩, fun j hj hb => by
      rcases hxbits j hj with h | h
      · rw [hb] at h; cases h
      · exact h, r, hrest, ihr.1 hsr, hh.1⟩
    refine ⟨fun i hi => ?_, x, hxX', hxn', hxl⟩
    simp only [hasCho, Bool.or_eq_true, beq_iff_eq] at hi
    rcases hi with rfl | hi
    · exact hstep
    · have hco : isCho o = true := by cases o <;> first | rfl | cases hi
      have hno : isNon o = false := by cases o <;> first | rfl | cases hco
      rw [hno] at hoth hh
      have hoth' := hoth.resolve_left (by simp)
      have hw' := hh.2.resolve_left (by simp)
      exact (iho.2 pr' xd sk' V' w hco hoth' hw').1 i hi
  | non => exact ⟨fun h => (by cases h), fun _ _ _ _ _ h => (by cases h)⟩

/-- A REGION WHOSE ORDER IS DRAWN, by its stages. -/
theorem draw_sound {next : Env → World → Prop} {env : Env} {a : Act} {w : World} {id : Nat} {opsA : Array Oper} {st : Stg} (hm : P.follows .mixedOrders = true) (hc : chkDraw opsA.toList st = true) (hn : ∀ o ∈ opsA.toList, ∀ d, o.dst = some d → d < n)
    (hnext : ∀ env' w' a', Agree n env' a' → next env' w' → Q .normal a' w') (hA : Agree n env a)
    (h : wpSt P opsA.toList (masksGo opsA.toList []) env st [] env { w with drawn := w.drawn + 1 } next) : (Code.region id opsA true).wp P Q a w := by
  simp only [chkDraw, Bool.and_eq_true] at hc
  have hk := opsOk_of hc.1.1
  refine wp_region_any hm ?_
  have key := (st_sound (P := P) (env0 := env) (Q := Q) hk hn hnext st).1 hc.1.2 [] [] [] env { w with drawn := w.drawn + 1 } hc.2 (fun _ h => by cases h) (fun _ h => by cases h) (fun _ h => by cases h) (fun _ h => by cases h) (fun _ _ => rfl) h
    opsA.size (Array.replicate opsA.size false) a (by
      unfold unl
      refine Nat.le_trans (List.length_filter_le _ _) (by simp)) ⟨by simp, fun i o ho hl => by
        have hi := (List.getElem?_eq_some_iff.1 ho).1
        have : i < opsA.size := by simpa using hi
        simp [this] at hl, fun j hj hl => by
        have : j < opsA.size := by simpa using hj
        simp [this] at hl, fun x _ hx => by
        have : x < opsA.size := by simpa using hx
        simp [this], hA.size, hA.defers, fun t => by
        rw [hA.get t]
        cases hw : wr opsA.toList t with
        | none => rfl
        | some j =>
          have : j < opsA.size := by simpa using wr_lt hw
          dsimp only
          rw [if_neg (by simp [this])]⟩
  simpa using key
end main
end Go.TS
