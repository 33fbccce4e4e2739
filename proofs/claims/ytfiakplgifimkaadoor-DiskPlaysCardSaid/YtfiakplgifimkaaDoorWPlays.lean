/- DiskPlays from the values handed in. No statement of the seat is proved in this text. -/
import Derived.Test.YtfiakplgifimkaaDoorWMeters
import Derived.Test.YtfiakplgifimkaaDoorPlays
namespace Go.Proofs.YtfiakplgifimkaaDoor
open Go.TS
set_option maxRecDepth 100000
def G25 : List (String × List UInt8 × Nat) := [("tessera/api.ErrParams", [116, 101, 115, 115, 101, 114, 97, 58, 32, 112, 97, 114, 97, 109, 115], 6), ("tessera/api.ErrShape", [116, 101, 115, 115, 101, 114, 97, 58, 32, 115, 104, 97, 112, 101], 7), ("tessera/api.ErrSingular", [116, 101, 115, 115, 101, 114, 97, 58, 32, 115, 105, 110, 103, 117, 108, 97, 114], 8), ("tessera/api.ErrHalf", [116, 101, 115, 115, 101, 114, 97, 58, 32, 104, 97, 108, 102], 9), ("tessera/api.ErrData", [116, 101, 115, 115, 101, 114, 97, 58, 32, 100, 97, 116, 97], 10), ("tessera/api.ErrLost", [116, 101, 115, 115, 101, 114, 97, 58, 32, 108, 111, 115, 116], 11), ("tessera/api.ErrProgram", [116, 101, 115, 115, 101, 114, 97, 58, 32, 112, 114, 111, 103, 114, 97, 109], 12), ("tessera/api.ErrThere", [116, 101, 115, 115, 101, 114, 97, 58, 32, 116, 104, 101, 114, 101], 13), ("tessera/api.ErrEmpty", [116, 101, 115, 115, 101, 114, 97, 58, 32, 101, 109, 112, 116, 121], 1), ("tessera/api.ErrBytes", [116, 101, 115, 115, 101, 114, 97, 58, 32, 98, 121, 116, 101, 115], 14), ("tessera/api.ErrSum", [116, 101, 115, 115, 101, 114, 97, 58, 32, 115, 117, 109], 15), ("tessera/api.ErrNumber", [116, 101, 115, 115, 101, 114, 97, 58, 32, 110, 117, 109, 98, 101, 114], 3), ("tessera/api.ErrDrive", [116, 101, 115, 115, 101, 114, 97, 58, 32, 100, 114, 105, 118, 101], 5), ("tessera/api.ErrSlot", [116, 101, 115, 115, 101, 114, 97, 58, 32, 115, 108, 111, 116], 2), ("tessera/api.ErrMedia", [116, 101, 115, 115, 101, 114, 97, 58, 32, 109, 101, 100, 105, 97], 0), ("tessera/api.ErrDown", [116, 101, 115, 115, 101, 114, 97, 58, 32, 100, 111, 119, 110], 4), ("tessera/api.ErrFull", [116, 101, 115, 115, 101, 114, 97, 58, 32, 102, 117, 108, 108], 16), ("tessera/api.ErrName", [116, 101, 115, 115, 101, 114, 97, 58, 32, 110, 97, 109, 101], 17), ("tessera/api.ErrGone", [116, 101, 115, 115, 101, 114, 97, 58, 32, 103, 111, 110, 101], 18), ("tessera/api.ErrLarge", [116, 101, 115, 115, 101, 114, 97, 58, 32, 108, 97, 114, 103, 101], 19), ("tessera/api.ErrBlank", [116, 101, 115, 115, 101, 114, 97, 58, 32, 98, 108, 97, 110, 107], 20), ("tessera/api.ErrCatalog", [116, 101, 115, 115, 101, 114, 97, 58, 32, 99, 97, 116, 97, 108, 111, 103], 21), ("tessera/api.ErrCommand", [116, 101, 115, 115, 101, 114, 97, 58, 32, 99, 111, 109, 109, 97, 110, 100], 22), ("tessera/api.ErrWorn", [116, 101, 115, 115, 101, 114, 97, 58, 32, 119, 111, 114, 110], 23), ("tessera/api.ErrMany", [116, 101, 115, 115, 101, 114, 97, 58, 32, 109, 97, 110, 121], 24)]
theorem errs25 {W : World} (h : laidMet Tryd.prog (laidList "*errors.errorString" G25) W) : Errs W (erAddr W) L25 :=
  (errs_of (by kernel_rfl) (by decide +kernel) (by decide +kernel) h).sub (by decide +kernel)
/-- An argument that is two numbers. -/
theorem arg_two {f : Func} {laid : List (String × DataW Unit)} {W : World} {args : Array Value} (h : Handed Tryd.prog f laid W args) {j : Nat} {v : Value} (hp : f.params[j]? = some 54) (hv : args[j]? = some v) : ∃ a b : Int, v = .agg #[.int .i64 a, .int .i64 b] := by
  obtain ⟨h1, _, h2⟩ := h.args.2 j 54 v hp hv
  obtain ⟨cs, rfl⟩ := h2 (by kernel_rfl)
  obtain ⟨hl, hr⟩ := h1.array (n := 2) (e := 3) (by kernel_rfl)
  rw [(show Tryd.prog.cellsOf 54 = 2 from by kernel_rfl)] at hl
  rw [(show Tryd.prog.cellsOf 3 = 1 from by kernel_rfl)] at hr
  have hl' : cs.toList.length = 2 := hl
  obtain ⟨l⟩ := cs
  match l, hl' with
  | [x, y], _ =>
    obtain ⟨a, ha, _⟩ := (hr 0 (by omega)).int (k := .i64) (by kernel_rfl)
    obtain ⟨b, hb, _⟩ := (hr 1 (by omega)).int (k := .i64) (by kernel_rfl)
    simp [Value.cells] at ha hb
    subst ha hb
    exact ⟨a, b, rfl⟩
theorem walk_DiskPlays (W : World) (args : Array Value) (h : Handed Tryd.prog Tryd.f6 Rows.diskPlaysRow.laid W args) : call Tryd.prog 6 args W fun v W' => v = .bool true ∧ Kp none_ W W' := by
  have he := errs25 (W := W) (h.2.2 (by unfold Rows.diskPlaysRow; simp))
  have hl := h.args.1
  rw [show Tryd.f6.params.size = 2 from by kernel_rfl] at hl
  obtain ⟨a0, a1, rfl⟩ : ∃ a b, args = #[a, b] := by
    match args, hl with
    | ⟨[a, b]⟩, _ => exact ⟨a, b, rfl⟩
  obtain ⟨s0, s1, rfl⟩ := arg_two h (j := 0) (by kernel_rfl) rfl
  obtain ⟨ops, ho⟩ := arg_ops h (j := 1) (by kernel_rfl) rfl
  exact plays15_ok he ho fun w' hk => ⟨rfl, hk⟩
end Go.Proofs.YtfiakplgifimkaaDoor
