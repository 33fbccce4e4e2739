/- DiskMeters from the values handed in. No statement of the seat is proved in this text. -/
import Derived.Test.YtfiakplgifimkaaDoorOpen
import Derived.Test.YtfiakplgifimkaaDoorRows
namespace Go.Proofs.YtfiakplgifimkaaDoor
open Go.TS
set_option maxRecDepth 100000
def txtEmpty : List UInt8 := [116, 101, 115, 115, 101, 114, 97, 58, 32, 101, 109, 112, 116, 121]
def txtSlot : List UInt8 := [116, 101, 115, 115, 101, 114, 97, 58, 32, 115, 108, 111, 116]
def txtMedia : List UInt8 := [116, 101, 115, 115, 101, 114, 97, 58, 32, 109, 101, 100, 105, 97]
def G3 : List (String × List UInt8 × Nat) := [("tessera/api.ErrEmpty", txtEmpty, 1), ("tessera/api.ErrSlot", txtSlot, 2), ("tessera/api.ErrMedia", txtMedia, 0)]
theorem errs3 {W : World} (h : laidMet Tryd.prog (laidList "*errors.errorString" G3) W) : Errs W (erAddr W) [0, 1, 2] :=
  (errs_of (by kernel_rfl) (by decide) (by decide) h).sub (by decide)
/-- One argument of the kind number; one of the kind script. -/
theorem arg_int {f : Func} {laid : List (String × DataW Unit)} {W : World} {args : Array Value} (h : Handed Tryd.prog f laid W args) {j : Nat} {v : Value} (hp : f.params[j]? = some 3) (hv : args[j]? = some v) : ∃ n : Int, v = .int .i64 n ∧ -9223372036854775808 ≤ n ∧ n ≤ 9223372036854775807 := by
  obtain ⟨h1, h2, _⟩ := h.args.2 j 3 v hp hv
  have h3 := h2 (by kernel_rfl)
  obtain ⟨n, h4, h5, h6⟩ := h1.int (k := .i64) (by kernel_rfl)
  refine ⟨n, ?_, h5, h6⟩
  rw [cells_one h3] at h4
  simpa using h4
theorem arg_ops {f : Func} {laid : List (String × DataW Unit)} {W : World} {args : Array Value} (h : Handed Tryd.prog f laid W args) {j : Nat} {v : Value} (hp : f.params[j]? = some 22) (hv : args[j]? = some v) : ∃ ops, Ops W v ops (old_ W) := by
  obtain ⟨h1, h2, _⟩ := h.args.2 j 22 v hp hv
  have h3 := h2 (by kernel_rfl)
  rw [cells_one h3] at h1
  obtain ⟨v', ops, e, ho⟩ := ops_of h1
  obtain rfl : v = v' := by simpa using e
  exact ⟨ops, ho⟩
theorem walk_DiskMeters (W : World) (args : Array Value) (h : Handed Tryd.prog Tryd.f4 Rows.diskMetersRow.laid W args) : call Tryd.prog 4 args W fun v W' => v = .bool true ∧ Kp none_ W W' := by
  have he := errs3 (W := W) (h.2.2 (by decide))
  have hl := h.args.1
  rw [show Tryd.f4.params.size = 2 from by kernel_rfl] at hl
  obtain ⟨a0, a1, rfl⟩ : ∃ a b, args = #[a, b] := by
    match args, hl with
    | ⟨[a, b]⟩, _ => exact ⟨a, b, rfl⟩
  obtain ⟨n, rfl, _⟩ := arg_int h (j := 0) (by kernel_rfl) rfl
  obtain ⟨ops, ho⟩ := arg_ops h (j := 1) (by kernel_rfl) rfl
  exact meters_ok he ho fun w' hk => ⟨rfl, hk⟩
end Go.Proofs.YtfiakplgifimkaaDoor
