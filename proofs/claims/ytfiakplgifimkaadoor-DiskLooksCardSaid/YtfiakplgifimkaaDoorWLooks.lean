/- DiskLooks from the values handed in. No statement of the seat is proved in this text. -/
import Derived.Test.YtfiakplgifimkaaDoorWMeters
import Derived.Test.YtfiakplgifimkaaDoorLooks
namespace Go.Proofs.YtfiakplgifimkaaDoor
open Go.TS
set_option maxRecDepth 100000
theorem walk_DiskLooks (W : World) (args : Array Value) (h : Handed Tryd.prog Tryd.f5 Rows.diskLooksRow.laid W args) : call Tryd.prog 5 args W fun v W' => v = .bool true ∧ Kp none_ W W' := by
  have he := errs3 (W := W) (h.2.2 (by decide))
  have hl := h.args.1
  rw [show Tryd.f5.params.size = 2 from by kernel_rfl] at hl
  obtain ⟨a0, a1, rfl⟩ : ∃ a b, args = #[a, b] := by
    match args, hl with
    | ⟨[a, b]⟩, _ => exact ⟨a, b, rfl⟩
  obtain ⟨n, rfl, _⟩ := arg_int h (j := 0) (by kernel_rfl) rfl
  obtain ⟨ops, ho⟩ := arg_ops h (j := 1) (by kernel_rfl) rfl
  exact looks_ok he ho fun w' hk => ⟨rfl, hk⟩
end Go.Proofs.YtfiakplgifimkaaDoor
