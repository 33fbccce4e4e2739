/- DiskKeeps from the values handed in. No statement of the seat is proved in this text. -/
import Derived.Test.YtfiakplgifimkaaDoorWMeters
import Derived.Test.YtfiakplgifimkaaDoorKeeps
namespace Go.Proofs.YtfiakplgifimkaaDoor
open Go.TS
set_option maxRecDepth 100000
theorem walk_DiskKeeps (W : World) (args : Array Value) (h : Handed Tryd.prog Tryd.f3 Rows.diskKeepsRow.laid W args) : call Tryd.prog 3 args W fun v W' => v = .bool true ∧ Kp none_ W W' := by
  have he := errs3 (W := W) (h.2.2 (by decide))
  have hl := h.args.1
  rw [show Tryd.f3.params.size = 3 from by kernel_rfl] at hl
  obtain ⟨a0, a1, a2, rfl⟩ : ∃ a b c, args = #[a, b, c] := by
    match args, hl with
    | ⟨[a, b, c]⟩, _ => exact ⟨a, b, c, rfl⟩
  obtain ⟨n, rfl, _⟩ := arg_int h (j := 0) (by kernel_rfl) rfl
  obtain ⟨ops, ho⟩ := arg_ops h (j := 1) (by kernel_rfl) rfl
  obtain ⟨t, rfl, ht⟩ := arg_int h (j := 2) (by kernel_rfl) rfl
  exact keeps_ok he ho ht fun w' hk => ⟨rfl, hk⟩
end Go.Proofs.YtfiakplgifimkaaDoor
