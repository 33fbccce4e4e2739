/- The statement BankMeters is proved: for every input that can be read the law returns true, and each argument reads behind the call as it read before; the errors that it names are tied to the program's text. -/
import Derived.Test.YtfiakplgifimkaaDoorWBMeters
import Derived.Test.YtfiakplgifimkaaDoorCards
import Derived.Test.YtfiakplgifimkaaDoorTie
import Derived.SevenTiedAt
namespace Go.Proofs.YtfiakplgifimkaaDoor
open Go Go.TS
set_option maxRecDepth 100000
theorem bankMeters_spec : LawSpec Rows.bankMetersSpec 2 := ⟨rfl, fun H ds h => by
  match ds, h with
  | [d1, d2], _ => rfl⟩
theorem bankMeters_met (os : Os) : laidMetH Tryd.prog Rows.bankMetersRow.laid ((World.doorLaid Tryd.prog 484 os).forCall (fun _ _ => 0) ⟨#[], #[.agg #[.int .i64 0, .int .i64 0], .slice none 0 0], []⟩).memory :=
  laidMetH_of_parts3 (fuel := 8) (laidMet_of_run' 8 (by kernel_rfl) (by kernel_rfl)) (by kernel_rfl) (by kernel_rfl)
theorem bankMeters_lifted (os : Os) (started : os.Started) (H : Type) (enc : TypeId × Value → H) :
    ReturnsInHanded {} Tryd.checked os 8 .any (fun w args => (Rows.bankMetersSpec.pre enc Tryd.prog Tryd.f8 [] false w args ∧ laidMetH Tryd.prog Rows.bankMetersRow.laid w) ∧ sizedMet enc Tryd.prog Tryd.f8 (OpenSpec.ofChange Rows.bankMetersSpec) false w args) (Rows.bankMetersSpec.post enc Tryd.prog Tryd.f8 false true false false) :=
  lifted (C := Tryd.checked) (tb := 4) own_ started (by kernel_rfl) Tryd.func8
    (ChangeSpec.witness_shaped (enc := enc) (C := Tryd.checked) (os := os) (X := fun w _ => laidMetH Tryd.prog Rows.bankMetersRow.laid w) false (World.doorLaid Tryd.prog 484 os) #[.agg #[.int .i64 0, .int .i64 0], .slice none 0 0] 8 rfl (World.shaped_of_RefB (by kernel_rfl) (by kernel_rfl)) (by kernel_rfl) (by kernel_rfl) (by kernel_rfl) (bankMeters_met os))
    bankMeters_spec (by kernel_rfl) (by kernel_rfl) laidOut_ (by kernel_rfl) (by kernel_rfl) walk_BankMeters
theorem bankMeters_holds : Rows.BankMetersSaid :=
  OpenClaim.holds_of_wide 8 Tryd.f8 rfl rfl rfl rfl rfl rfl rfl ⟨rfl, rfl, rfl, rfl, rfl⟩ rfl rfl rfl rfl rfl (by kernel_rfl) Tryd.func8 (by kernel_rfl)
    (of_decide_eq_true (by kernel_rfl)) (by unfold Func.isWrapper; first | (rw [if_pos (by decide +kernel)]; kernel_rfl) | (rw [if_neg (by decide +kernel)]; exact ⟨rfl, rfl⟩))
    (fun os started H enc _ => bankMeters_lifted os started H enc)
theorem bankMeters_card : Rows.BankMetersCardSaid :=
  Claim7.holds_tied_plain_at .later [] [.sentinel, .sentinel, .sentinel, .sentinel, .sentinel, .sentinel] true (true, "f4337d277b0bab2cf4ebf66f4295ee5edbfe3c9144273043ae1e79ed4d0dbcb4") true
    bankMeters_holds (fun _ h => by cases h) (by kernel_rfl) (fun _ h => by cases h) bankMeters_row_tie rfl ⟨rfl, rfl⟩ (by kernel_rfl) rfl
    (fun f fn hf hfn => by
      obtain rfl : f = 8 := Option.some.inj ((show Tryd.prog.funcNamed "tessera/tesseralaw16.BankMeters" = some 8 by kernel_rfl).symm.trans hf) |>.symm
      obtain rfl : fn = Tryd.f8 := (Option.some.inj (Tryd.func8.symm.trans hfn)).symm
      exact ⟨by kernel_rfl, fun j t ht => by
        rw [Tryd.params8] at ht
        have hm : t ∈ [54, 69] := by simpa using Array.mem_of_getElem? ht
        have hall : ([54, 69].all fun u => !Tryd.prog.wantsStandIn u) = true := by kernel_rfl
        exact (show Tryd.prog.wantsStandIn t = false by simpa using List.all_eq_true.1 hall t hm)⟩)
    (by kernel_rfl)
#print axioms bankMeters_card
end Go.Proofs.YtfiakplgifimkaaDoor
