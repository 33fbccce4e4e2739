/- BankArms: the plain law of the power. No statement of the seat is proved in this text. -/
import Derived.Test.YtfiakplgifimkaaDoorBank5
import Derived.Laws.BitsLemmas
namespace Go.Proofs.YtfiakplgifimkaaDoor
open Go.TS
set_option maxRecDepth 20000

/-- Two bytes of a number. -/
def b2 (j : Int) : List UInt8 := [UInt8.ofNat (j % 256).toNat, UInt8.ofNat (j / 2 ^ 8 % 256).toNat]
theorem u8_val {j : Int} : ((UInt8.ofNat (j % 256).toNat).toNat : Int) = IntKind.u8.wrap j := by
  rw [IntKind.wrap_u8, UInt8.toNat_ofNat']
  omega
theorem u8s_b2 {j : Int} : u8s (b2 j) = [.int .u8 (IntKind.u8.wrap j), .int .u8 (IntKind.u8.wrap (j / 2 ^ 8))] := by
  simp only [u8s, b2, List.map_cons, List.map_nil, u8_val]
theorem bsl_2 {w : World} {j : Int} {K : Value → World → Prop} : bsl Tryd.prog 31 2 [(0, .int .u8 (IntKind.u8.wrap j)), (1, .int .u8 (IntKind.u8.wrap (j / 2 ^ 8)))] w K = K (.slice (some ⟨w.heap.size, 0, none⟩) 2 2) (w.alloc (.cells (u8s (b2 j)).toArray 5)) := by
  rw [u8s_b2]
  have := bsl_vals (w := w) (K := K) (P := Tryd.prog) (e := 5) (n := 2) (vs := [.int .u8 (IntKind.u8.wrap j), .int .u8 (IntKind.u8.wrap (j / 2 ^ 8))]) (z := .int .u8 0) u31 sz5 ze5 rfl (by simp) (by omega) (by omega) (by simp [oneC])
  simp only [List.zipIdx_cons, List.zipIdx_nil, List.map_cons, List.map_nil, Nat.zero_add, Nat.reduceAdd] at this
  exact this
/-- What stands behind i writes, armed with n; ls tells who wrote last. -/
structure ArmInv (s : BS) (ls : List Int) (n : Int) (i : Nat) : Prop where
  len : s.drives.length = 3
  slots : s.slots = 5
  armed : s.armed = true
  writes : s.writes = if (i : Int) ≤ n then (i : Int) else n
  left : s.left = if (i : Int) ≤ n then n - i else 0
  down : s.down = decide (n < (i : Int))
  ll : ls.length = 15
  cl5 : ∀ p : Nat, p < 3 → (bcl s (p : Int)).length = 5
  cel : ∀ a x, ls[a]? = some x → (bcl s ((a / 5 : Nat) : Int))[a % 5]? = some (if x = 0 then emptyC else ⟨b2 (x - 1), [], true, false⟩)
  rng : ∀ x ∈ ls, 0 ≤ x ∧ x ≤ (i : Int)
theorem ArmInv.there {s : BS} {ls : List Int} {n : Int} {i : Nat} (h : ArmInv s ls n i) {a : Nat} (ha : a < 15) : bThere s ((a / 5 : Nat) : Int) ((a % 5 : Nat) : Int) = none := by
  have h1 := h.len
  have h2 := h.slots
  unfold bThere
  rw [if_neg (by omega), if_neg (by omega)]
theorem ArmInv.start {n : Int} (hn : 0 ≤ n) : ArmInv { bank0 3 5 with armed := true, left := n } (List.replicate 15 0) n 0 := by
  have hb : ∀ p : Nat, p < 3 → bcl { bank0 3 5 with armed := true, left := n } (p : Int) = empties 5 := fun p hp => by
    show ((((List.replicate 3 ((0 : Int), empties 5))[((p : Int)).toNat]?).map (·.2)).getD []) = empties 5
    rw [Int.toNat_natCast, List.getElem?_replicate, if_pos hp]
    rfl
  refine ⟨rfl, rfl, rfl, by rw [if_pos (by omega)]; rfl, by rw [if_pos (by omega)]; simp, ?_, rfl, fun p hp => by rw [hb p hp]; rfl, fun a x hx => ?_, fun x hx => ?_⟩
  · rw [decide_eq_false (by omega)]; rfl
  · obtain ⟨hl, rfl⟩ := List.getElem?_eq_some_iff.1 hx
    rw [List.length_replicate] at hl
    rw [hb _ (by omega), List.getElem_replicate, if_pos rfl]
    unfold empties
    rw [List.getElem?_replicate, if_pos (by omega)]
  · have := List.eq_of_mem_replicate hx
    omega
theorem bcl_set {s : BS} {p q : Nat} {rd : Int} {cl : List Cel} (hp : p < s.drives.length) : bcl { s with drives := s.drives.set p (rd, cl) } (q : Int) = if q = p then cl else bcl s (q : Int) := by
  unfold bcl
  simp only [Int.toNat_natCast, List.getElem?_set]
  by_cases h : p = q
  · subst h; simp [hp]
  · simp [h, Ne.symm h]
theorem ArmInv.step {s : BS} {ls : List Int} {n : Int} {i a : Nat} (h : ArmInv s ls n i) (ha : a < 15) (hn : 0 ≤ n) (hn2 : n ≤ 9223372036854775807) (hi : i < 17592186044416) :
    ((i : Int) < n → (bWrite s ((a / 5 : Nat) : Int) ((a % 5 : Nat) : Int) (b2 i) []).2 = none ∧ ArmInv (bWrite s ((a / 5 : Nat) : Int) ((a % 5 : Nat) : Int) (b2 i) []).1 (ls.set a (i + 1)) n (i + 1)) ∧
    (n ≤ (i : Int) → (bWrite s ((a / 5 : Nat) : Int) ((a % 5 : Nat) : Int) (b2 i) []).2 = some 4 ∧ ArmInv (bWrite s ((a / 5 : Nat) : Int) ((a % 5 : Nat) : Int) (b2 i) []).1 ls n (i + 1)) := by
  have ht := h.there ha
  have hW : bWrite s ((a / 5 : Nat) : Int) ((a % 5 : Nat) : Int) (b2 i) [] = if (bArmed s).down then (bArmed s, some 4) else ({ bDone (bArmed s) with drives := s.drives.set (a / 5) (brd s ((a / 5 : Nat) : Int), (bcl s ((a / 5 : Nat) : Int)).set (a % 5) ⟨b2 i, [], true, false⟩) }, none) := by
    unfold bWrite
    rw [ht]
    simp only [Int.toNat_natCast]
  rw [hW]
  have hlf := h.left
  have har := h.armed
  have hdn := h.down
  have hwr := h.writes
  have hp : a / 5 < s.drives.length := by rw [h.len]; omega
  constructor
  · intro hin
    rw [if_pos (by omega)] at hlf hwr
    rw [decide_eq_false (by omega)] at hdn
    have hA : bArmed s = s := by unfold bArmed; rw [if_neg (by omega)]
    rw [hA, hdn, if_neg (by simp)]
    refine ⟨rfl, ?_⟩
    show ArmInv { bDone s with drives := s.drives.set (a / 5) (brd s ((a / 5 : Nat) : Int), (bcl s ((a / 5 : Nat) : Int)).set (a % 5) ⟨b2 i, [], true, false⟩) } (ls.set a (i + 1)) n (i + 1)
    have hbc : ∀ q : Nat, bcl { bDone s with drives := s.drives.set (a / 5) (brd s ((a / 5 : Nat) : Int), (bcl s ((a / 5 : Nat) : Int)).set (a % 5) ⟨b2 i, [], true, false⟩) } (q : Int) = if q = a / 5 then (bcl s ((a / 5 : Nat) : Int)).set (a % 5) ⟨b2 i, [], true, false⟩ else bcl s (q : Int) := fun q => bcl_set (s := bDone s) hp
    refine ⟨by simpa using h.len, h.slots, har, ?_, ?_, ?_, by simpa using h.ll, fun p hp3 => ?_, fun a' x hx => ?_, fun x hx => ?_⟩
    · show (bDone s).writes = _
      rw [if_pos (by omega)]
      show IntKind.i64.wrap (s.writes + 1) = _
      rw [hwr, wrap64 (by omega) (by omega)]
      omega
    · show (bDone s).left = _
      rw [if_pos (by omega)]
      show (if s.armed = true then IntKind.i64.wrap (s.left - 1) else s.left) = _
      rw [if_pos har, hlf, wrap64 (by omega) (by omega)]
      omega
    · show s.down = _
      rw [hdn, decide_eq_false (by omega)]
    · rw [hbc]
      split
      · rw [List.length_set]; exact h.cl5 _ (by omega)
      · exact h.cl5 p hp3
    · obtain ⟨hl, hx'⟩ := List.getElem?_eq_some_iff.1 hx
      have hl' : a' < 15 := by rw [List.length_set, h.ll] at hl; exact hl
      rw [hbc]
      rw [List.getElem?_set] at hx
      by_cases e : a = a'
      · subst e
        rw [if_pos rfl, if_pos (by rw [h.ll]; exact ha)] at hx
        cases hx
        rw [if_pos rfl, List.getElem?_set, if_pos rfl, if_pos (by rw [h.cl5 _ (by omega)]; omega), if_neg (by omega)]
        have : ((i : Int) + 1 - 1) = i := by omega
        rw [this]
      · rw [if_neg e] at hx
        have := h.cel a' x hx
        by_cases e2 : a' / 5 = a / 5
        · rw [if_pos e2, List.getElem?_set, if_neg (by omega), ← e2]
          exact this
        · rw [if_neg e2]
          exact this
    · rcases List.mem_or_eq_of_mem_set hx with h' | h'
      · have := h.rng x h'; omega
      · omega
  · intro hin
    have hdA : (bArmed s).down = true := by
      unfold bArmed
      by_cases hni : (i : Int) = n
      · rw [if_pos (by omega)] at hlf
        rw [if_pos ⟨har, by omega⟩]
      · rw [if_neg (by omega)] at hlf
        rw [if_pos ⟨har, hlf⟩]
    rw [hdA, if_pos rfl]
    refine ⟨rfl, ?_⟩
    show ArmInv (bArmed s) ls n (i + 1)
    have hbc : ∀ q : Nat, bcl (bArmed s) (q : Int) = bcl s (q : Int) := fun q => by unfold bcl; rw [bArmed_drives]
    refine ⟨by rw [bArmed_drives]; exact h.len, by rw [bArmed_slots]; exact h.slots, ?_, ?_, ?_, ?_, h.ll, fun p hp => by rw [hbc]; exact h.cl5 p hp, fun a' x hx => by rw [hbc]; exact h.cel a' x hx, fun x hx => by have := h.rng x hx; omega⟩
    · unfold bArmed; split <;> exact har
    · rw [if_neg (by omega)]
      have : (bArmed s).writes = s.writes := by unfold bArmed; split <;> rfl
      rw [this, hwr]
      split <;> omega
    · rw [if_neg (by omega)]
      have : (bArmed s).left = s.left := by unfold bArmed; split <;> rfl
      rw [this, hlf]
      split <;> omega
    · rw [hdA, decide_eq_true (by omega)]
end Go.Proofs.YtfiakplgifimkaaDoor
