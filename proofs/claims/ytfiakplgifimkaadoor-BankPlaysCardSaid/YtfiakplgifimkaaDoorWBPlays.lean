/- BankPlays from the values handed in. No statement of the seat is proved in this text. -/
import Derived.Test.YtfiakplgifimkaaDoorWMeters
import Derived.Test.YtfiakplgifimkaaDoorOpen16
import Derived.Test.YtfiakplgifimkaaDoorBPlays
namespace Go.Proofs.YtfiakplgifimkaaDoor
open Go.TS
set_option maxRecDepth 100000
def G25b : List (String × List UInt8 × Nat) := [("tessera/api.ErrParams", [116, 101, 115, 115, 101, 114, 97, 58, 32, 112, 97, 114, 97, 109, 115], 6), ("tessera/api.ErrShape", [116, 101, 115, 115, 101, 114, 97, 58, 32, 115, 104, 97, 112, 101], 7), ("tessera/api.ErrSingular", [116, 101, 115, 115, 101, 114, 97, 58, 32, 115, 105, 110, 103, 117, 108, 97, 114], 8), ("tessera/api.ErrHalf", [116, 101, 115, 115, 101, 114, 97, 58, 32, 104, 97, 108, 102], 9), ("tessera/api.ErrData", [116, 101, 115, 115, 101, 114, 97, 58, 32, 100, 97, 116, 97], 10), ("tessera/api.ErrLost", [116, 101, 115, 115, 101, 114, 97, 58, 32, 108, 111, 115, 116], 11), ("tessera/api.ErrProgram", [116, 101, 115, 115, 101, 114, 97, 58, 32, 112, 114, 111, 103, 114, 97, 109], 12), ("tessera/api.ErrThere", [116, 101, 115, 115, 101, 114, 97, 58, 32, 116, 104, 101, 114, 101], 13), ("tessera/api.ErrEmpty", [116, 101, 115, 115, 101, 114, 97, 58, 32, 101, 109, 112, 116, 121], 1), ("tessera/api.ErrBytes", [116, 101, 115, 115, 101, 114, 97, 58, 32, 98, 121, 116, 101, 115], 14), ("tessera/api.ErrSum", [116, 101, 115, 115, 101, 114, 97, 58, 32, 115, 117, 109], 15), ("tessera/api.ErrNumber", [116, 101, 115, 115, 101, 114, 97, 58, 32, 110, 117, 109, 98, 101, 114], 3), ("tessera/api.ErrDrive", [116, 101, 115, 115, 101, 114, 97, 58, 32, 100, 114, 105, 118, 101], 5), ("tessera/api.ErrSlot", [116, 101, 115, 115, 101, 114, 97, 58, 32, 115, 108, 111, 116], 2), ("tessera/api.ErrMedia", [116, 101, 115, 115, 101, 114, 97, 58, 32, 109, 101, 100, 105, 97], 0), ("tessera/api.ErrDown", [116, 101, 115, 115, 101, 114, 97, 58, 32, 100, 111, 119, 110], 4), ("tessera/api.ErrFull", [116, 101, 115, 115, 101, 114, 97, 58, 32, 102, 117, 108, 108], 16), ("tessera/api.ErrName", [116, 101, 115, 115, 101, 114, 97, 58, 32, 110, 97, 109, 101], 17), ("tessera/api.ErrGone", [116, 101, 115, 115, 101, 114, 97, 58, 32, 103, 111, 110, 101], 18), ("tessera/api.ErrLarge", [116, 101, 115, 115, 101, 114, 97, 58, 32, 108, 97, 114, 103, 101], 19), ("tessera/api.ErrBlank", [116, 101, 115, 115, 101, 114, 97, 58, 32, 98, 108, 97, 110, 107], 20), ("tessera/api.ErrCatalog", [116, 101, 115, 115, 101, 114, 97, 58, 32, 99, 97, 116, 97, 108, 111, 103], 21), ("tessera/api.ErrCommand", [116, 101, 115, 115, 101, 114, 97, 58, 32, 99, 111, 109, 109, 97, 110, 100], 22), ("tessera/api.ErrWorn", [116, 101, 115, 115, 101, 114, 97, 58, 32, 119, 111, 114, 110], 23), ("tessera/api.ErrMany", [116, 101, 115, 115, 101, 114, 97, 58, 32, 109, 97, 110, 121], 24)]
theorem errs25b {W : World} (h : laidMet Tryd.prog (laidList "*errors.errorString" G25b) W) : Errs W (erAddr W) L25 :=
  (errs_of (by kernel_rfl) (by decide +kernel) (by decide +kernel) h).sub (by decide +kernel)
theorem arg_script16 {f : Func} {laid : List (String × DataW Unit)} {W : World} {args : Array Value} (h : Handed Tryd.prog f laid W args) {j : Nat} {v : Value} (hp : f.params[j]? = some 69) (hv : args[j]? = some v) : ∃ ops, Ops16 W v ops (old_ W) := by
  obtain ⟨h1, h2, _⟩ := h.args.2 j 69 v hp hv
  have h3 := h2 (by kernel_rfl)
  rw [cells_one h3] at h1
  obtain ⟨v', ops, e, ho⟩ := ops16_of h1
  obtain rfl : v = v' := by simpa using e
  exact ⟨ops, ho⟩
/-- An argument that is two pairs of numbers. -/
theorem arg_four {f : Func} {laid : List (String × DataW Unit)} {W : World} {args : Array Value} (h : Handed Tryd.prog f laid W args) {j : Nat} {v : Value} (hp : f.params[j]? = some 76) (hv : args[j]? = some v) : ∃ a b c d : Int, v = .agg #[.int .i64 a, .int .i64 b, .int .i64 c, .int .i64 d] := by
  obtain ⟨h1, _, h2⟩ := h.args.2 j 76 v hp hv
  obtain ⟨cs, rfl⟩ := h2 (by kernel_rfl)
  obtain ⟨hl, hr⟩ := h1.array (n := 2) (e := 54) (by kernel_rfl)
  rw [(show Tryd.prog.cellsOf 76 = 4 from by kernel_rfl)] at hl
  rw [(show Tryd.prog.cellsOf 54 = 2 from by kernel_rfl)] at hr
  have hl' : cs.toList.length = 4 := hl
  obtain ⟨l⟩ := cs
  match l, hl' with
  | [x, y, z, u], _ =>
    obtain ⟨_, hr0⟩ := (hr 0 (by omega)).array (n := 2) (e := 3) (by kernel_rfl)
    obtain ⟨_, hr1⟩ := (hr 1 (by omega)).array (n := 2) (e := 3) (by kernel_rfl)
    rw [(show Tryd.prog.cellsOf 3 = 1 from by kernel_rfl)] at hr0 hr1
    obtain ⟨a, ha, _⟩ := (hr0 0 (by omega)).int (k := .i64) (by kernel_rfl)
    obtain ⟨b, hb, _⟩ := (hr0 1 (by omega)).int (k := .i64) (by kernel_rfl)
    obtain ⟨c, hc, _⟩ := (hr1 0 (by omega)).int (k := .i64) (by kernel_rfl)
    obtain ⟨d, hd, _⟩ := (hr1 1 (by omega)).int (k := .i64) (by kernel_rfl)
    simp [Value.cells] at ha hb hc hd
    subst ha hb hc hd
    exact ⟨a, b, c, d, rfl⟩
theorem walk_BankPlays (W : World) (args : Array Value) (h : Handed Tryd.prog Tryd.f9 Rows.bankPlaysRow.laid W args) : call Tryd.prog 9 args W fun v W' => v = .bool true ∧ Kp none_ W W' := by
  have he := errs25b (W := W) (h.2.2 (by unfold Rows.bankPlaysRow; simp))
  have hl := h.args.1
  rw [show Tryd.f9.params.size = 2 from by kernel_rfl] at hl
  obtain ⟨a0, a1, rfl⟩ : ∃ a b, args = #[a, b] := by
    match args, hl with
    | ⟨[a, b]⟩, _ => exact ⟨a, b, rfl⟩
  obtain ⟨z0, z1, z2, z3, rfl⟩ := arg_four h (j := 0) (by kernel_rfl) rfl
  obtain ⟨ops, ho⟩ := arg_script16 h (j := 1) (by kernel_rfl) rfl
  exact plays16_ok he ho fun w' hk => ⟨rfl, hk⟩
end Go.Proofs.YtfiakplgifimkaaDoor
