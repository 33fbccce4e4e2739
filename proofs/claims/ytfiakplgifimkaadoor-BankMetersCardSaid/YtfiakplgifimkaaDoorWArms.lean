/- BankArms from the values handed in. No statement of the seat is proved in this text. -/
import Derived.Test.YtfiakplgifimkaaDoorWMeters
import Derived.Test.YtfiakplgifimkaaDoorArms2
namespace Go.Proofs.YtfiakplgifimkaaDoor
open Go.TS
set_option maxRecDepth 100000
def G6 : List (String × List UInt8 × Nat) := [("tessera/api.ErrEmpty", [116, 101, 115, 115, 101, 114, 97, 58, 32, 101, 109, 112, 116, 121], 1), ("tessera/api.ErrNumber", [116, 101, 115, 115, 101, 114, 97, 58, 32, 110, 117, 109, 98, 101, 114], 3), ("tessera/api.ErrDrive", [116, 101, 115, 115, 101, 114, 97, 58, 32, 100, 114, 105, 118, 101], 5), ("tessera/api.ErrSlot", [116, 101, 115, 115, 101, 114, 97, 58, 32, 115, 108, 111, 116], 2), ("tessera/api.ErrMedia", [116, 101, 115, 115, 101, 114, 97, 58, 32, 109, 101, 100, 105, 97], 0), ("tessera/api.ErrDown", [116, 101, 115, 115, 101, 114, 97, 58, 32, 100, 111, 119, 110], 4)]
theorem errs6 {W : World} (h : laidMet Tryd.prog (laidList "*errors.errorString" G6) W) : Errs W (erAddr W) LB :=
  (errs_of (by kernel_rfl) (by decide +kernel) (by decide +kernel) h).sub (by decide +kernel)
theorem ints_of {w : World} {es : List Value} (h : Rdd Tryd.prog w 50 es) : ∃ v is, es = [v] ∧ In w v is (old_ w) ∧ is.length ≤ 17592186044416 := by
  obtain ⟨a, n, c, rfl, hnc, hb, hr⟩ := h.slice (e := 3) (by kernel_rfl) (by rw [(show Tryd.prog.cellsOf 3 = 1 from by kernel_rfl)]; omega)
  rw [(show Tryd.prog.bytesOf 3 = 8 from by kernel_rfl)] at hb
  have hmax : n ≤ 17592186044416 := by unfold reachBytes at hb; omega
  rcases hr with ⟨rfl, _⟩ | ⟨b, o, csb, e', fr, rfl, hblk, hel⟩
  · exact ⟨_, [], rfl, ⟨a, c, rfl, hnc, rfl, by simp [ints], .inl rfl⟩, hmax⟩
  · obtain ⟨is, hl, hi⟩ := list_of (n := n) (p := fun i (x : Int) => csb[o + i]? = some (.int .i64 x)) (fun i hi => by
      obtain ⟨es, hes, hcs, hrd⟩ := hel i hi
      obtain ⟨x, rfl, _⟩ := hrd.int (k := .i64) (by kernel_rfl)
      have := hcs 0 (by rw [(show Tryd.prog.cellsOf 3 = 1 from by kernel_rfl)]; omega)
      rw [(show Tryd.prog.cellsOf 3 = 1 from by kernel_rfl)] at this
      exact ⟨x, by simpa using this⟩)
    subst hl
    refine ⟨_, is, rfl, ⟨some ⟨b, o, none⟩, c, rfl, hnc, by simp [ints], by simp [ints, oneC], .inr ⟨b, o, _, _, fr, rfl, blk_lt hblk, hblk, fun j hj => ?_⟩⟩, hmax⟩
    have hj' : j < is.length := by simpa [ints] using hj
    rw [hi j hj']
    simp [ints, hj']
theorem arg_ints {f : Func} {laid : List (String × DataW Unit)} {W : World} {args : Array Value} (h : Handed Tryd.prog f laid W args) {j : Nat} {v : Value} (hp : f.params[j]? = some 50) (hv : args[j]? = some v) : ∃ is, In W v is (old_ W) ∧ is.length ≤ 17592186044416 := by
  obtain ⟨h1, h2, _⟩ := h.args.2 j 50 v hp hv
  have h3 := h2 (by kernel_rfl)
  rw [cells_one h3] at h1
  obtain ⟨v', is, e, ho, hl⟩ := ints_of h1
  obtain rfl : v = v' := by simpa using e
  exact ⟨is, ho, hl⟩
theorem walk_BankArms (W : World) (args : Array Value) (h : Handed Tryd.prog Tryd.f7 Rows.bankArmsRow.laid W args) : call Tryd.prog 7 args W fun v W' => v = .bool true ∧ Kp none_ W W' := by
  have he := errs6 (W := W) (h.2.2 (by unfold Rows.bankArmsRow; simp))
  have hl := h.args.1
  rw [show Tryd.f7.params.size = 2 from by kernel_rfl] at hl
  obtain ⟨a0, a1, rfl⟩ : ∃ a b, args = #[a, b] := by
    match args, hl with
    | ⟨[a, b]⟩, _ => exact ⟨a, b, rfl⟩
  obtain ⟨n, rfl, hn1, hn2⟩ := arg_int h (j := 0) (by kernel_rfl) rfl
  obtain ⟨ws, hw, hwl⟩ := arg_ints h (j := 1) (by kernel_rfl) rfl
  exact arms_ok he hw hwl hn2 fun w' hk => ⟨rfl, hk⟩
end Go.Proofs.YtfiakplgifimkaaDoor
