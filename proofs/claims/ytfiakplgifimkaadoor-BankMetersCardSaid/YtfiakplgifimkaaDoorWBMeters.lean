/- BankMeters from the values handed in. No statement of the seat is proved in this text. -/
import Derived.Test.YtfiakplgifimkaaDoorWArms
import Derived.Test.YtfiakplgifimkaaDoorOpen16
import Derived.Test.YtfiakplgifimkaaDoorBMeter2
namespace Go.Proofs.YtfiakplgifimkaaDoor
open Go.TS
set_option maxRecDepth 100000
def G6m : List (String × List UInt8 × Nat) := [("tessera/api.ErrEmpty", [116, 101, 115, 115, 101, 114, 97, 58, 32, 101, 109, 112, 116, 121], 1), ("tessera/api.ErrNumber", [116, 101, 115, 115, 101, 114, 97, 58, 32, 110, 117, 109, 98, 101, 114], 3), ("tessera/api.ErrDrive", [116, 101, 115, 115, 101, 114, 97, 58, 32, 100, 114, 105, 118, 101], 5), ("tessera/api.ErrSlot", [116, 101, 115, 115, 101, 114, 97, 58, 32, 115, 108, 111, 116], 2), ("tessera/api.ErrMedia", [116, 101, 115, 115, 101, 114, 97, 58, 32, 109, 101, 100, 105, 97], 0), ("tessera/api.ErrDown", [116, 101, 115, 115, 101, 114, 97, 58, 32, 100, 111, 119, 110], 4)]
theorem errs6m {W : World} (h : laidMet Tryd.prog (laidList "*errors.errorString" G6m) W) : Errs W (erAddr W) LB :=
  (errs_of (by kernel_rfl) (by decide +kernel) (by decide +kernel) h).sub (by decide +kernel)
theorem arg_ops16 {f : Func} {laid : List (String × DataW Unit)} {W : World} {args : Array Value} (h : Handed Tryd.prog f laid W args) {j : Nat} {v : Value} (hp : f.params[j]? = some 69) (hv : args[j]? = some v) : ∃ ops, Ops16 W v ops (old_ W) := by
  obtain ⟨h1, h2, _⟩ := h.args.2 j 69 v hp hv
  have h3 := h2 (by kernel_rfl)
  rw [cells_one h3] at h1
  obtain ⟨v', ops, e, ho⟩ := ops16_of h1
  obtain rfl : v = v' := by simpa using e
  exact ⟨ops, ho⟩
/-- An argument that is two numbers. -/
theorem arg_pair {f : Func} {laid : List (String × DataW Unit)} {W : World} {args : Array Value} (h : Handed Tryd.prog f laid W args) {j : Nat} {v : Value} (hp : f.params[j]? = some 54) (hv : args[j]? = some v) : ∃ a b : Int, v = .agg #[.int .i64 a, .int .i64 b] := by
  obtain ⟨h1, _, h2⟩ := h.args.2 j 54 v hp hv
  obtain ⟨cs, rfl⟩ := h2 (by kernel_rfl)
  obtain ⟨hl, hr⟩ := h1.array (n := 2) (e := 3) (by kernel_rfl)
  rw [(show Tryd.prog.cellsOf 54 = 2 from by kernel_rfl)] at hl
  rw [(show Tryd.prog.cellsOf 3 = 1 from by kernel_rfl)] at hr
  have hl' : cs.toList.length = 2 := hl
  obtain ⟨l⟩ := cs
  match l, hl' with
  | [x, y], _ =>
    obtain ⟨a, ha, _⟩ := (hr 0 (by omega)).int (k := .i64) (by kernel_rfl)
    obtain ⟨b, hb, _⟩ := (hr 1 (by omega)).int (k := .i64) (by kernel_rfl)
    simp [Value.cells] at ha hb
    subst ha hb
    exact ⟨a, b, rfl⟩
theorem walk_BankMeters (W : World) (args : Array Value) (h : Handed Tryd.prog Tryd.f8 Rows.bankMetersRow.laid W args) : call Tryd.prog 8 args W fun v W' => v = .bool true ∧ Kp none_ W W' := by
  have he := errs6m (W := W) (h.2.2 (by unfold Rows.bankMetersRow; simp))
  have hl := h.args.1
  rw [show Tryd.f8.params.size = 2 from by kernel_rfl] at hl
  obtain ⟨a0, a1, rfl⟩ : ∃ a b, args = #[a, b] := by
    match args, hl with
    | ⟨[a, b]⟩, _ => exact ⟨a, b, rfl⟩
  obtain ⟨z0, z1, rfl⟩ := arg_pair h (j := 0) (by kernel_rfl) rfl
  obtain ⟨ops, ho⟩ := arg_ops16 h (j := 1) (by kernel_rfl) rfl
  exact bmeters_ok he ho (fun x hx => hx) fun w' hk => ⟨rfl, hk⟩
end Go.Proofs.YtfiakplgifimkaaDoor
