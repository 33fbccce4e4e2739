/- Lemmas of this session: code as a predicate transformer with named cuts (joins and loop heads), sound for the model's steps. No statement of the seat is proved in this text. -/
import Derived.Test.YtfiakplgifimkaaDoorTsDraw
namespace Go.TS

abbrev Post := Exit → Env → World → Prop
abbrev APost := Exit → Act → World → Prop

def thenE (next : Env → World → Prop) (Q : Post) : Post := fun x e w => match x with | .normal => next e w | x => Q x e w
def inBlockE (id : Nat) (Q : Post) : Post := fun x e w => match x with | .exit id' => (bif Nat.beq id' id then Q .normal e w else Q (.exit id') e w) | x => Q x e w
abbrev Cuts := Nat → Option (Env → World → Prop)
def contC (cuts : Cuts) (p : Nat) (k : Env → World → Prop) : Env → World → Prop := match cuts p with | some J => J | none => k

/-- The operations in the order of the text; what was passed over is known by number. -/
def wpL (P : Program) (ops : List Oper) : List Oper → Nat → List Nat → Env → World → (Env → World → Prop) → Prop
  | [], _, _, env, w, next => next env w
  | o :: r, i, sk, env, w, next => guardP ops sk env env o.guard
      (fun env => wpO P (ev env) o.op o.type w fun v w' => wpL P ops r (i + 1) sk (put env o.dst v) w' next)
      (fun env => wpL P ops r (i + 1) (i :: sk) (put env o.dst undef) w next)

def wpC (P : Program) (ord : Nat → Stg) (cuts : Cuts) : Code → Nat → Post → Env → World → Prop
  | .skip, _, Q, env, w => Q .normal env w
  | .region id ops draw, _, Q, env, w =>
    bif draw then wpSt P ops.toList (masksGo ops.toList []) env (ord id) [] env { w with drawn := w.drawn + 1 } (Q .normal)
    else wpL P ops.toList ops.toList 0 [] env w (Q .normal)
  | .seq x y, p, Q, env, w => wpC P ord cuts x (2 * p) (thenE (contC cuts (2 * p + 1) fun env w => wpC P ord cuts y (2 * p + 1) Q env w) Q) env w
  | .cond c x y, p, Q, env, w => gsplit (ev env c) (wpC P ord cuts x (2 * p) Q env w) (wpC P ord cuts y (2 * p + 1) Q env w)
  | .block id c, p, Q, env, w => wpC P ord cuts c (2 * p) (inBlockE id Q) env w
  | .loop _, p, _, env, w => match cuts p with | some J => J env w | none => False
  | .exit id, _, Q, env, w => Q (.exit id) env w
  | .ret, _, Q, env, w => Q .ret env w
  | .scope c, p, Q, env, w => wpC P ord cuts c (2 * p) Q env w
  | .label _, _, Q, env, w => Q .normal env w
  | _, _, _, _, _ => False

def dstsOk (n : Nat) (ops : List Oper) : Bool := ops.all fun o => match o.dst with | some d => decide (d < n) | none => true
def guardsOk (n : Nat) (ops : List Oper) : Bool := ops.all fun o => match o.guard with | some (g, _) => (match (ops[g]?).bind (·.dst) with | some d => decide (d < n) | none => false) | none => true
def okC (n : Nat) (ord : Nat → Stg) : Code → Bool
  | .region id ops draw => dstsOk n ops.toList && guardsOk n ops.toList && (!draw || chkDraw ops.toList (ord id))
  | .seq x y => okC n ord x && okC n ord y
  | .cond _ x y => okC n ord x && okC n ord y
  | .block _ c => okC n ord c
  | .loop c => okC n ord c
  | .scope c => okC n ord c
  | _ => true

def InLoop (P : Program) (c : Code) (Q : APost) (a : Act) (w : World) : Prop :=
  ∀ (b : Frame) (k : List Item) (cs : List Frame), ∃ e a' w', Q e a' w' ∧ Arrives P (lone (b.at a (.inLoop c :: k)) cs w) b k cs e a' w'

/-- The true context of a place in the code. -/
def atA (P : Program) : List Bool → Code → APost → Code × APost
  | [], c, Q => (c, Q)
  | b :: r, c, Q => match c with
    | .seq x y => bif b then atA P r y Q else atA P r x (Exit.then (y.wp P Q) Q)
    | .cond _ x y => bif b then atA P r y Q else atA P r x Q
    | .block id c => bif b then (.block id c, Q) else atA P r c (Exit.inBlock id Q)
    | .loop c => bif b then (.loop c, Q) else atA P r c (Exit.then (InLoop P c Q) Q)
    | .scope c => bif b then (.scope c, Q) else atA P r c (Exit.noGoto Q)
    | c => (c, Q)
/-- The same over environments, with the cuts. -/
def atC (P : Program) (ord : Nat → Stg) (cuts : Cuts) : List Bool → Code → Nat → Post → Code × Post
  | [], c, _, Q => (c, Q)
  | b :: r, c, p, Q => match c with
    | .seq x y => bif b then atC P ord cuts r y (2 * p + 1) Q else atC P ord cuts r x (2 * p) (thenE (contC cuts (2 * p + 1) fun env w => wpC P ord cuts y (2 * p + 1) Q env w) Q)
    | .cond _ x y => bif b then atC P ord cuts r y (2 * p + 1) Q else atC P ord cuts r x (2 * p) Q
    | .block id c => bif b then (.block id c, Q) else atC P ord cuts r c (2 * p) (inBlockE id Q)
    | .loop c => bif b then (.loop c, Q) else atC P ord cuts r c (2 * p) (thenE (contC cuts p fun _ _ => False) Q)
    | .scope c => bif b then (.scope c, Q) else atC P ord cuts r c (2 * p) Q
    | c => (c, Q)
/-- A path that leads somewhere. -/
def pathOk : List Bool → Code → Bool
  | [], _ => true
  | b :: r, c => match c with
    | .seq x y => bif b then pathOk r y else pathOk r x
    | .cond _ x y => bif b then pathOk r y else pathOk r x
    | .block _ c => !b && pathOk r c
    | .loop c => !b && pathOk r c
    | .scope c => !b && pathOk r c
    | _ => false
def isBin : Code → Bool
  | .seq _ _ | .cond _ _ _ => true
  | _ => false
def isLoop : Code → Bool
  | .loop _ => true
  | _ => false
/-- The number of a place. -/
def enc : List Bool → Nat → Nat
  | [], p => p
  | b :: r, p => enc r (bif b then 2 * p + 1 else 2 * p)

section
variable {P : Program} {ord : Nat → Stg} {cuts : Cuts} {n : Nat}

def Sub (n : Nat) (Q' : Post) (Q : APost) : Prop := ∀ e env w a, Agree n env a → Q' e env w → Q e a w
/-- A cut's word holds. -/
def GoodAt (P : Program) (n : Nat) (c : Code) (Q : APost) (J : Env → World → Prop) : Prop :=
  ∀ env w a, J env w → Agree n env a → c.wp P Q a w ∧ ∀ b, c = .loop b → InLoop P b Q a w
def Good (P : Program) (cuts : Cuts) (n : Nat) (c : Code) (Q : APost) (p : Nat) : Prop :=
  ∀ (r : List Bool) (J : Env → World → Prop), cuts (enc r p) = some J → GoodAt P n (atA P r c Q).1 (atA P r c Q).2 J

theorem sub_then {next' : Env → World → Prop} {next : Act → World → Prop} {Q' : Post} {Q : APost} (h : ∀ env w a, Agree n env a → next' env w → next a w) (hs : Sub n Q' Q) : Sub n (thenE next' Q') (Exit.then next Q) := by
  intro e env w a hA hq
  cases e <;> first | exact h env w a hA hq | exact hs _ env w a hA hq
theorem sub_block {id : Nat} {Q' : Post} {Q : APost} (hs : Sub n Q' Q) : Sub n (inBlockE id Q') (Exit.inBlock id Q) := by
  intro e env w a hA hq
  cases e with
  | exit id' =>
    simp only [inBlockE, Exit.inBlock] at hq ⊢
    by_cases h : id' = id
    · subst h
      rw [show Nat.beq id' id' = true from Nat.beq_refl id'] at hq
      rw [if_pos rfl]
      exact hs _ env w a hA hq
    · rw [if_neg h]
      have : Nat.beq id' id = false := by
        cases hb : Nat.beq id' id with
        | true => exact absurd (Nat.eq_of_beq_eq_true hb) h
        | false => rfl
      rw [this] at hq
      exact hs _ env w a hA hq
  | _ => exact hs _ env w a hA hq
theorem sub_scope {Q' : Post} {Q : APost} (hg : ∀ l env w, ¬ Q' (.goto l) env w) (hs : Sub n Q' Q) : Sub n Q' (Exit.noGoto Q) := by
  intro e env w a hA hq
  cases e with
  | goto l => exact (hg l env w hq).elim
  | _ => exact hs _ env w a hA hq
def NoGoto (Q : Post) : Prop := ∀ l env w, ¬ Q (.goto l) env w
theorem noGoto_then {next : Env → World → Prop} {Q : Post} (h : NoGoto Q) : NoGoto (thenE next Q) := fun l env w hq => h l env w hq
theorem noGoto_block {id : Nat} {Q : Post} (h : NoGoto Q) : NoGoto (inBlockE id Q) := fun l env w hq => h l env w hq

theorem good_then {x y : Code} {Q : APost} {p : Nat} (h : Good P cuts n (.seq x y) Q p) : Good P cuts n x (Exit.then (y.wp P Q) Q) (2 * p) ∧ Good P cuts n y Q (2 * p + 1) :=
  ⟨fun r J hJ => h (false :: r) J hJ, fun r J hJ => h (true :: r) J hJ⟩

theorem wpL_sound {ops : List Oper} {Q : APost} (hgd : guardsOk n ops = true) {opsA : Array Oper} (hA0 : opsA.toList = ops) : ∀ (l : List Oper), dstsOk n l = true → (∀ o ∈ l, o ∈ ops) → ∀ (i : Nat) (sk : List Nat) (env : Env) (a : Act) (w : World) (next : Env → World → Prop),
    (∀ env w a, Agree n env a → next env w → Q .normal a w) → Agree n env a → wpL P ops l i sk env w next → ∀ k, (∀ j, l[j]? = opsA[k + j]?) → wpOps P opsA Q (List.range' k l.length) a w
  | [], _, _, i, sk, env, a, w, next, hn, hA, h, k, hk => by simpa [wpOps] using hn env w a hA h
  | o :: r, hd, hm, i, sk, env, a, w, next, hn, hA, h, k, hk => by
    have hd' : (∀ d, o.dst = some d → d < n) ∧ dstsOk n r = true := by
      simp only [dstsOk, List.all_cons, Bool.and_eq_true] at hd
      exact ⟨fun d e => by have := hd.1; rw [e] at this; exact of_decide_eq_true this, hd.2⟩
    have h0 : opsA[k]? = some o := by simpa using (hk 0).symm
    have hk' : ∀ j, r[j]? = opsA[k + 1 + j]? := fun j => by have := hk (j + 1); simpa [Nat.add_assoc, Nat.add_comm 1 j] using this
    have rec_ : ∀ (sk2 : List Nat) (env2 : Env) (a2 : Act) (w2 : World), Agree n env2 a2 → wpL P ops r (i + 1) sk2 env2 w2 next → wpOps P opsA Q (List.range' (k + 1) r.length) a2 w2 := fun sk2 env2 a2 w2 hA2 h2 =>
      wpL_sound hgd hA0 r hd'.2 (fun o ho => hm o (List.mem_cons_of_mem _ ho)) (i + 1) sk2 env2 a2 w2 next hn hA2 h2 (k + 1) hk'
    simp only [List.length_cons, List.range'_succ, wpOps, h0]
    simp only [wpL] at h
    rcases guardP_cases h with ⟨hg, h⟩ | ⟨g, want, d, hg, hdst, hcase⟩
    · rw [if_pos (by simp [Region.wanted, hg])]
      exact .inl (wpO_sound hA h fun v w' hK => rec_ _ _ _ _ (hA.put hd'.1 v) hK)
    · have hdn : d < n := by
        simp only [guardsOk, List.all_eq_true] at hgd
        have := hgd o (hm o List.mem_cons_self)
        rw [hg] at this
        unfold dstAt at hdst
        dsimp only at this
        rw [hdst] at this
        exact of_decide_eq_true this
      have hy : ∀ b, yielded opsA a.tmps g = some b ↔ env d = .bool b := fun b => by
        have hdl : d < a.tmps.size := by rw [hA.size]; exact hdn
        have hv' : a.tmps[d] = env d := by rw [← hA.get d]; simp [Array.getD_eq_getD_getElem?, hdl]
        unfold yielded
        have : (opsA[g]?).bind (·.dst) = some d := by
          have : opsA[g]? = ops[g]? := by rw [← hA0]; simp
          rw [this]; exact hdst
        rw [this]
        simp only [Option.bind_some, Array.getElem?_eq_getElem hdl, hv']
        cases env d <;> simp
      rcases hcase rfl with ⟨h2, h⟩ | ⟨h2, h⟩
      · rw [if_pos (by simp [Region.wanted, hg, (hy want).2 h2])]
        exact .inl (wpO_sound hA h fun v w' hK => rec_ _ _ _ _ (hA.put hd'.1 v) hK)
      · rw [if_neg]
        · exact rec_ _ _ _ _ (hA.put hd'.1 undef) h
        · simp only [Region.wanted, hg, beq_iff_eq]
          intro e
          have := (hy want).1 e
          rcases h2 with h2 | ⟨vs, h2⟩
          · rw [h2] at this; cases want <;> simp at this
          · rw [h2] at this; cases this

/-- CODE BY ITS TRANSFORMER. -/
theorem wpC_sound (hm : P.follows .mixedOrders = true) : ∀ (c : Code) (p : Nat) (Q' : Post) (Q : APost) (env : Env) (w : World) (a : Act), Good P cuts n c Q p → Sub n Q' Q → NoGoto Q' → okC n ord c = true → Agree n env a →
    wpC P ord cuts c p Q' env w → c.wp P Q a w := by
  intro c
  induction c with
  | skip => intro p Q' Q env w a _ hs _ _ hA h; exact wp_skip (hs _ _ _ _ hA h)
  | region id ops draw =>
    intro p Q' Q env w a _ hs _ hok hA h
    simp only [okC, Bool.and_eq_true, Bool.or_eq_true, Bool.not_eq_true'] at hok
    cases draw with
    | true =>
      have hc := hok.2.resolve_left (by simp)
      exact draw_sound (n := n) hm hc (fun o ho d hd => by
        have := List.all_eq_true.1 hok.1.1 o ho
        rw [hd] at this
        exact of_decide_eq_true this) (fun env' w' a' hA' hq => hs _ _ _ _ hA' hq) hA h
    | false =>
      refine wp_region ?_
      rw [List.range_eq_range', ← Array.length_toList]
      exact wpL_sound hok.1.2 rfl ops.toList hok.1.1 (fun _ h => h) 0 [] env a w (Q' .normal) (fun env' w' a' hA' hq => hs _ _ _ _ hA' hq) hA h 0 (fun j => by simp)
  | seq x y ihx ihy =>
    intro p Q' Q env w a hg hs hng hok hA h
    simp only [okC, Bool.and_eq_true] at hok
    refine wp_seq (ihx (2 * p) _ _ env w a (good_then hg).1 (sub_then ?_ hs) (noGoto_then hng) hok.1 hA h)
    intro env' w' a' hA' hq
    unfold contC at hq
    cases hJ : cuts (2 * p + 1) with
    | some J =>
      rw [hJ] at hq
      exact (hg [true] J hJ env' w' a' hq hA').1
    | none =>
      rw [hJ] at hq
      exact ihy (2 * p + 1) Q' Q env' w' a' (good_then hg).2 hs hng hok.2 hA' hq
  | cond c x y ihx ihy =>
    intro p Q' Q env w a hg hs hng hok hA h
    simp only [okC, Bool.and_eq_true] at hok
    have he : a.eval c = ev env c := by rw [hA.eval]
    rcases gsplit_cases h with ⟨h1, h⟩ | ⟨h1, h⟩
    · exact wp_cond_true (he.trans h1) (ihx (2 * p) Q' Q env w a (fun r J hJ => hg (false :: r) J hJ) hs hng hok.1 hA h)
    · exact wp_cond_false (he.trans h1) (ihy (2 * p + 1) Q' Q env w a (fun r J hJ => hg (true :: r) J hJ) hs hng hok.2 hA h)
  | block id c ih =>
    intro p Q' Q env w a hg hs hng hok hA h
    exact wp_block (ih (2 * p) _ _ env w a (fun r J hJ => hg (false :: r) J hJ) (sub_block hs) (noGoto_block hng) hok hA h)
  | loop c ih =>
    intro p Q' Q env w a hg hs hng hok hA h
    simp only [wpC] at h
    split at h
    · rename_i J hJ
      exact (hg [] J hJ env w a h hA).1
    · exact h.elim
  | exit id => intro p Q' Q env w a _ hs _ _ hA h; exact wp_exit (hs _ _ _ _ hA h)
  | ret => intro p Q' Q env w a _ hs _ _ hA h; exact wp_ret (hs _ _ _ _ hA h)
  | label l => intro p Q' Q env w a _ hs _ _ hA h; exact wp_label (hs _ _ _ _ hA h)
  | scope c ih =>
    intro p Q' Q env w a hg hs hng hok hA h
    exact wp_scope_straight (ih (2 * p) _ _ env w a (fun r J hJ => hg (false :: r) J hJ) (sub_scope hng hs) hng hok hA h)
  | _ => intro p Q' Q env w a _ _ _ _ _ h; exact h.elim

theorem inLoop_fold {c : Code} {Q : APost} {a : Act} {w : World} (h : c.wp P (Exit.then (InLoop P c Q) Q) a w) : (Code.loop c).wp P Q a w ∧ InLoop P c Q a w := by
  have key : ∀ (b : Frame) (k : List Item) (cs : List Frame), ∃ e a' w', Q e a' w' ∧ Arrives P (lone (b.at a (.code c :: .inLoop c :: k)) cs w) b k cs e a' w' := by
    intro b k cs
    obtain ⟨e, a₁, w₁, hq, harr⟩ := h b (.inLoop c :: k) cs
    cases e with
    | normal =>
      obtain ⟨e₂, a₂, w₂, hq₂, harr₂⟩ := hq b k cs
      exact ⟨e₂, a₂, w₂, hq₂, .of_steps harr harr₂⟩
    | exit id => exact ⟨_, a₁, w₁, hq, .pass (x := .inLoop c) rfl (fun _ _ => .inl (by simp)) harr⟩
    | goto l => exact ⟨_, a₁, w₁, hq, .pass (x := .inLoop c) rfl (fun _ _ => .inl (by simp)) harr⟩
    | ret => exact ⟨_, a₁, w₁, hq, .pass (x := .inLoop c) rfl (fun _ _ => .inl (by simp)) harr⟩
    | panic ch => exact ⟨_, a₁, w₁, hq, .pass (x := .inLoop c) rfl (fun _ _ => .inl (by simp)) harr⟩
    | outgrown => exact ⟨_, a₁, w₁, hq, .pass (x := .inLoop c) rfl (fun _ _ => .inl (by simp)) harr⟩
  refine ⟨fun b k cs => ?_, fun b k cs => ?_⟩
  · obtain ⟨e, a', w', hq, harr⟩ := key b k cs
    exact ⟨e, a', w', hq, .of_steps (.one step_loop) harr⟩
  · obtain ⟨e, a', w', hq, harr⟩ := key b k cs
    exact ⟨e, a', w', hq, .of_steps (.one step_inLoop) harr⟩

/-- The two contexts of one place fit. -/
theorem at_fit (hm : P.follows .mixedOrders = true) : ∀ (r : List Bool) (c : Code) (p : Nat) (Q' : Post) (Q : APost), Good P cuts n c Q p → Sub n Q' Q → NoGoto Q' → okC n ord c = true →
    (atC P ord cuts r c p Q').1 = (atA P r c Q).1 ∧ Sub n (atC P ord cuts r c p Q').2 (atA P r c Q).2 ∧ NoGoto (atC P ord cuts r c p Q').2 ∧ okC n ord (atA P r c Q).1 = true
  | [], c, p, Q', Q, _, hs, hng, hok => ⟨rfl, hs, hng, hok⟩
  | b :: r, c, p, Q', Q, hg, hs, hng, hok => by
    cases c with
    | seq x y =>
      simp only [okC, Bool.and_eq_true] at hok
      cases b with
      | true => exact at_fit hm r y (2 * p + 1) Q' Q (good_then hg).2 hs hng hok.2
      | false =>
        refine at_fit hm r x (2 * p) _ _ (good_then hg).1 (sub_then ?_ hs) (noGoto_then hng) hok.1
        intro env' w' a' hA' hq
        unfold contC at hq
        cases hJ : cuts (2 * p + 1) with
        | some J =>
          rw [hJ] at hq
          exact (hg [true] J hJ env' w' a' hq hA').1
        | none =>
          rw [hJ] at hq
          exact wpC_sound hm y (2 * p + 1) Q' Q env' w' a' (good_then hg).2 hs hng hok.2 hA' hq
    | cond c x y =>
      simp only [okC, Bool.and_eq_true] at hok
      cases b with
      | true => exact at_fit hm r y (2 * p + 1) Q' Q (fun r J hJ => hg (true :: r) J hJ) hs hng hok.2
      | false => exact at_fit hm r x (2 * p) Q' Q (fun r J hJ => hg (false :: r) J hJ) hs hng hok.1
    | block id c =>
      cases b with
      | true => exact ⟨rfl, hs, hng, hok⟩
      | false => exact at_fit hm r c (2 * p) _ _ (fun r J hJ => hg (false :: r) J hJ) (sub_block hs) (noGoto_block hng) hok
    | scope c =>
      cases b with
      | true => exact ⟨rfl, hs, hng, hok⟩
      | false => exact at_fit hm r c (2 * p) _ _ (fun r J hJ => hg (false :: r) J hJ) (sub_scope hng hs) hng hok
    | loop c =>
      cases b with
      | true => exact ⟨rfl, hs, hng, hok⟩
      | false =>
        refine at_fit hm r c (2 * p) _ _ (fun r J hJ => hg (false :: r) J hJ) (sub_then ?_ hs) (noGoto_then hng) hok
        intro env' w' a' hA' hq
        unfold contC at hq
        cases hJ : cuts p with
        | some J =>
          rw [hJ] at hq
          exact (hg [] J hJ env' w' a' hq hA').2 c rfl
        | none => rw [hJ] at hq; exact hq.elim
    | _ => exact ⟨rfl, hs, hng, hok⟩

/-- A PIECE: what its text says holds of the code at its place. -/
theorem piece (hm : P.follows .mixedOrders = true) {c : Code} {Q' : Post} {Q : APost} (hg : Good P cuts n c Q 1) (hs : Sub n Q' Q) (hng : NoGoto Q') (hok : okC n ord c = true) (r : List Bool) {env : Env} {w : World} {a : Act} (hA : Agree n env a)
    (hgr : Good P cuts n (atA P r c Q).1 (atA P r c Q).2 (enc r 1))
    (h : wpC P ord cuts (atC P ord cuts r c 1 Q').1 (enc r 1) (atC P ord cuts r c 1 Q').2 env w) : (atA P r c Q).1.wp P (atA P r c Q).2 a w := by
  obtain ⟨h1, h2, h3, h4⟩ := at_fit hm r c 1 Q' Q hg hs hng hok
  rw [h1] at h
  exact wpC_sound hm _ (enc r 1) _ _ env w a hgr h2 h3 h4 hA h

theorem enc_append : ∀ (r s : List Bool) (p : Nat), enc (r ++ s) p = enc s (enc r p)
  | [], _, _ => rfl
  | b :: r, s, p => enc_append r s _

/-- Goodness goes down to a place. -/
theorem good_down : ∀ (r : List Bool) (c : Code) (Q : APost) (p : Nat), Good P cuts n c Q p → pathOk r c = true → Good P cuts n (atA P r c Q).1 (atA P r c Q).2 (enc r p)
  | [], _, _, _, h, _ => h
  | b :: r, c, Q, p, h, hp => by
    cases c with
    | seq x y =>
      cases b with
      | true => exact good_down r y Q _ (good_then h).2 hp
      | false => exact good_down r x _ _ (good_then h).1 hp
    | cond c x y =>
      cases b with
      | true => exact good_down r y Q _ (fun r J hJ => h (true :: r) J hJ) hp
      | false => exact good_down r x Q _ (fun r J hJ => h (false :: r) J hJ) hp
    | block id c =>
      cases b with
      | true => cases hp
      | false => exact good_down r c _ _ (fun r J hJ => h (false :: r) J hJ) (by simpa [pathOk] using hp)
    | loop c =>
      cases b with
      | true => cases hp
      | false => exact good_down r c _ _ (fun r J hJ => h (false :: r) J hJ) (by simpa [pathOk] using hp)
    | scope c =>
      cases b with
      | true => cases hp
      | false => exact good_down r c _ _ (fun r J hJ => h (false :: r) J hJ) (by simpa [pathOk] using hp)
    | _ => cases hp
end
end Go.TS
