/- BankMeters: the plain law of the meter. No statement of the seat is proved in this text. -/
import Derived.Test.YtfiakplgifimkaaDoorBank5
namespace Go.Proofs.YtfiakplgifimkaaDoor
open Go.TS
set_option maxRecDepth 20000

theorem wrap_add {a b : Int} : IntKind.i64.wrap (IntKind.i64.wrap a + b) = IntKind.i64.wrap (a + b) := by
  simp only [IntKind.wrap, IntKind.bits, IntKind.signed]
  simp
  omega
theorem wrap_same {a : Int} : IntKind.i64.wrap (IntKind.i64.wrap a) = IntKind.i64.wrap a := by
  have := wrap_add (a := a) (b := 0)
  simpa using this
def bSum (s : BS) : Int := (s.drives.map (·.1)).sum
theorem foldl_wrap : ∀ (l : List (Int × List Cel)) (acc : Int), l.foldl (fun acc p => IntKind.i64.wrap (acc + p.1)) (IntKind.i64.wrap acc) = IntKind.i64.wrap (acc + (l.map (·.1)).sum)
  | [], acc => by simp
  | p :: l, acc => by
    rw [List.foldl_cons, wrap_add, foldl_wrap l, List.map_cons, List.sum_cons]
    congr 1
    omega
theorem bankMeter_eq {s : BS} : bankMeter s = IntKind.i64.wrap (bSum s) := by
  have := foldl_wrap s.drives 0
  rw [show IntKind.i64.wrap 0 = 0 from by kernel_rfl] at this
  unfold bankMeter bSum
  rw [this]
  congr 1
  omega
theorem sum_set : ∀ (l : List (Int × List Cel)) (i : Nat) (h : i < l.length) (p : Int × List Cel), ((l.set i p).map (·.1)).sum = (l.map (·.1)).sum - l[i].1 + p.1
  | [], i, h, p => by simp at h
  | x :: l, 0, h, p => by simp; omega
  | x :: l, i + 1, h, p => by
    have := sum_set l i (by simpa using h) p
    simp only [List.set_cons_succ, List.map_cons, List.sum_cons, List.getElem_cons_succ, this]
    omega
/-- What the meter law holds fast. -/
structure BOk (m n : Nat) (s : BS) : Prop where
  dn : s.drives.length = m
  sn : s.slots = n
theorem BOk.there {m n : Nat} {s : BS} (h : BOk m n s) (hm : 1 ≤ m) (hn : 4 ≤ n) : bThere s 0 0 = none := by
  have := h.dn
  have := h.sn
  unfold bThere
  rw [if_neg (by omega), if_neg (by omega)]
theorem brd_of {s : BS} {d : Int} {i : Nat} (h : d = i) (hi : i < s.drives.length) : brd s d = s.drives[i].1 := by subst h; exact brd_in hi
section
variable {m n : Nat} {s : BS} {d sl : Int}
theorem BOk.write {hs bs : List UInt8} (h : BOk m n s) : BOk m n (bWrite s d sl hs bs).1 ∧ bankMeter (bWrite s d sl hs bs).1 = bankMeter s ∧ (bWrite s d sl hs bs).1.writes = if (bWrite s d sl hs bs).2 = none then IntKind.i64.wrap (s.writes + 1) else s.writes := by
  have hwA : (bArmed s).writes = s.writes := by unfold bArmed; split <;> rfl
  have hA : BOk m n (bArmed s) := ⟨by rw [bArmed_drives]; exact h.dn, by rw [bArmed_slots]; exact h.sn⟩
  have hmA : bankMeter (bArmed s) = bankMeter s := by unfold bankMeter; rw [bArmed_drives]
  cases ht : bThere s d sl with
  | some e =>
    have hW : bWrite s d sl hs bs = (s, some e) := by unfold bWrite; rw [ht]
    rw [hW]
    exact ⟨h, rfl, by simp⟩
  | none =>
    obtain ⟨i, j, hi, hj, rfl, rfl⟩ := bThere_none ht
    cases hd : (bArmed s).down with
    | true =>
      have hW : bWrite s (i : Int) (j : Int) hs bs = (bArmed s, some 4) := by unfold bWrite; rw [ht]; simp only [hd, if_true]
      rw [hW]
      exact ⟨hA, hmA, by simp [hwA]⟩
    | false =>
      have hW : bWrite s (i : Int) (j : Int) hs bs = ({ bDone (bArmed s) with drives := s.drives.set i (s.drives[i].1, (bcl s i).set j ⟨hs, bs, true, false⟩) }, none) := by
        unfold bWrite; rw [ht]; simp only [hd, Bool.false_eq_true, if_false, brd_in hi, Int.toNat_natCast]
      rw [hW]
      refine ⟨⟨by simpa using h.dn, hA.sn⟩, ?_, ?_⟩
      · rw [bankMeter_eq, bankMeter_eq]
        congr 1
        show ((s.drives.set i (s.drives[i].1, (bcl s i).set j ⟨hs, bs, true, false⟩)).map (·.1)).sum = _
        rw [sum_set _ _ hi]
        unfold bSum
        simp only
        omega
      · rw [if_pos rfl]
        show IntKind.i64.wrap ((bArmed s).writes + 1) = _
        rw [hwA]
theorem BOk.body (h : BOk m n s) : BOk m n (bBody s d sl) ∧ bankMeter (bBody s d sl) = IntKind.i64.wrap (bankMeter s + (getb Cel.body s d sl).length) ∧ (bBody s d sl).writes = s.writes := by
  cases ht : bThere s d sl with
  | some e =>
    have hW : bBody s d sl = s := by unfold bBody; rw [ht]; simp
    have hg : getb Cel.body s d sl = [] := by unfold getb bRead; rw [ht]; simp
    rw [hW, hg]
    refine ⟨h, ?_, rfl⟩
    rw [bankMeter_eq, List.length_nil]
    simp [wrap_same]
  | none =>
    obtain ⟨i, j, hi, hj, rfl, rfl⟩ := bThere_none ht
    cases hd : s.down with
    | true =>
      have hW : bBody s (i : Int) (j : Int) = s := by unfold bBody; rw [hd]; simp
      have hg : getb Cel.body s (i : Int) (j : Int) = [] := by unfold getb bRead; rw [ht]; simp [hd]
      rw [hW, hg]
      refine ⟨h, ?_, rfl⟩
      rw [bankMeter_eq, List.length_nil]
      simp [wrap_same]
    | false =>
      have hr : bRead s (i : Int) (j : Int) = asks (bcl s (i : Int)) (j : Int) := by unfold bRead; rw [ht]; simp [hd]
      have hg : getb Cel.body s (i : Int) (j : Int) = getc Cel.body (bcl s (i : Int)) (j : Int) := by
        unfold getb
        rw [hr]
        split
        · rfl
        · rename_i hn; unfold getc; rw [if_neg hn]
      have hW : bBody s (i : Int) (j : Int) = { s with drives := s.drives.set i (IntKind.i64.wrap (s.drives[i].1 + (getc Cel.body (bcl s (i : Int)) (j : Int)).length), bcl s (i : Int)) } := by
        unfold bBody; rw [ht, hd, if_pos ⟨rfl, rfl⟩, brd_in hi, Int.toNat_natCast]
      rw [hW, hg]
      refine ⟨⟨by simpa using h.dn, h.sn⟩, ?_, rfl⟩
      rw [bankMeter_eq, bankMeter_eq, wrap_add]
      show IntKind.i64.wrap ((s.drives.set i (IntKind.i64.wrap (s.drives[i].1 + (getc Cel.body (bcl s (i : Int)) (j : Int)).length), bcl s (i : Int))).map (·.1)).sum = _
      rw [sum_set _ _ hi]
      simp only
      rw [Int.add_comm, wrap_add]
      unfold bSum
      congr 1
      omega
theorem BOk.wipe (h : BOk m n s) : BOk m n (bWipe s d).1 ∧ bankMeter (bWipe s d).1 = bankMeter s ∧ (bWipe s d).1.writes = s.writes := by
  cases ht : bThere s d 0 with
  | some e =>
    have hW : bWipe s d = (s, some e) := by unfold bWipe; rw [ht]
    rw [hW]
    exact ⟨h, rfl, rfl⟩
  | none =>
    obtain ⟨i, j, hi, hj, rfl, _⟩ := bThere_none ht
    have hW : bWipe s (i : Int) = ({ s with drives := s.drives.set i (s.drives[i].1, empties (bcl s i).length) }, none) := by unfold bWipe; rw [ht, brd_in hi, Int.toNat_natCast]
    rw [hW]
    refine ⟨⟨by simpa using h.dn, h.sn⟩, ?_, rfl⟩
    rw [bankMeter_eq, bankMeter_eq]
    congr 1
    show ((s.drives.set i (s.drives[i].1, empties (bcl s i).length)).map (·.1)).sum = _
    rw [sum_set _ _ hi]
    unfold bSum
    simp only
    omega
theorem BOk.spoil (h : BOk m n s) : BOk m n (bSpoil s d sl).1 ∧ bankMeter (bSpoil s d sl).1 = bankMeter s ∧ (bSpoil s d sl).1.writes = s.writes := by
  cases ht : bThere s d sl with
  | some e =>
    have hW : bSpoil s d sl = (s, some e) := by unfold bSpoil; rw [ht]
    rw [hW]
    exact ⟨h, rfl, rfl⟩
  | none =>
    obtain ⟨i, j, hi, hj, rfl, rfl⟩ := bThere_none ht
    have hW : bSpoil s (i : Int) (j : Int) = ({ s with drives := s.drives.set i (s.drives[i].1, spoilt (bcl s i) j) }, none) := by unfold bSpoil; rw [ht, brd_in hi, Int.toNat_natCast]
    rw [hW]
    refine ⟨⟨by simpa using h.dn, h.sn⟩, ?_, rfl⟩
    rw [bankMeter_eq, bankMeter_eq]
    congr 1
    show ((s.drives.set i (s.drives[i].1, spoilt (bcl s i) j)).map (·.1)).sum = _
    rw [sum_set _ _ hi]
    unfold bSum
    simp only
    omega
end
end Go.Proofs.YtfiakplgifimkaaDoor
