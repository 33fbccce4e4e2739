/- The statement BankPlays is proved: for every input that can be read the law returns true, and each argument reads behind the call as it read before; the errors that it names are tied to the program's text. -/
import Derived.Test.YtfiakplgifimkaaDoorWBPlays
import Derived.Test.YtfiakplgifimkaaDoorCards
import Derived.Test.YtfiakplgifimkaaDoorTie
import Derived.SevenTiedAt
namespace Go.Proofs.YtfiakplgifimkaaDoor
open Go Go.TS
set_option maxRecDepth 100000
theorem bankPlays_spec : LawSpec Rows.bankPlaysSpec 2 := ⟨rfl, fun H ds h => by
  match ds, h with
  | [d1, d2], _ => rfl⟩
theorem bankPlays_met (os : Os) : laidMetH Tryd.prog Rows.bankPlaysRow.laid ((World.doorLaid Tryd.prog 484 os).forCall (fun _ _ => 0) ⟨#[], #[.agg #[.int .i64 0, .int .i64 0, .int .i64 0, .int .i64 0], .slice none 0 0], []⟩).memory :=
  laidMetH_of_parts3 (fuel := 8) (laidMet_of_run' 8 (by kernel_rfl) (by kernel_rfl)) (by kernel_rfl) (by kernel_rfl)
theorem bankPlays_lifted (os : Os) (started : os.Started) (H : Type) (enc : TypeId × Value → H) :
    ReturnsInHanded {} Tryd.checked os 9 .any (fun w args => (Rows.bankPlaysSpec.pre enc Tryd.prog Tryd.f9 [] false w args ∧ laidMetH Tryd.prog Rows.bankPlaysRow.laid w) ∧ sizedMet enc Tryd.prog Tryd.f9 (OpenSpec.ofChange Rows.bankPlaysSpec) false w args) (Rows.bankPlaysSpec.post enc Tryd.prog Tryd.f9 false true false false) :=
  lifted (C := Tryd.checked) (tb := 4) own_ started (by kernel_rfl) Tryd.func9
    (ChangeSpec.witness_shaped (enc := enc) (C := Tryd.checked) (os := os) (X := fun w _ => laidMetH Tryd.prog Rows.bankPlaysRow.laid w) false (World.doorLaid Tryd.prog 484 os) #[.agg #[.int .i64 0, .int .i64 0, .int .i64 0, .int .i64 0], .slice none 0 0] 8 rfl (World.shaped_of_RefB (by kernel_rfl) (by kernel_rfl)) (by kernel_rfl) (by kernel_rfl) (by kernel_rfl) (bankPlays_met os))
    bankPlays_spec (by kernel_rfl) (by kernel_rfl) laidOut_ (by kernel_rfl) (by kernel_rfl) walk_BankPlays
theorem bankPlays_holds : Rows.BankPlaysSaid :=
  OpenClaim.holds_of_wide 9 Tryd.f9 rfl rfl rfl rfl rfl rfl rfl ⟨rfl, rfl, rfl, rfl, rfl⟩ rfl rfl rfl rfl rfl (by kernel_rfl) Tryd.func9 (by kernel_rfl)
    (of_decide_eq_true (by kernel_rfl)) (by unfold Func.isWrapper; first | (rw [if_pos (by decide +kernel)]; kernel_rfl) | (rw [if_neg (by decide +kernel)]; exact ⟨rfl, rfl⟩))
    (fun os started H enc _ => bankPlays_lifted os started H enc)
theorem bankPlays_card : Rows.BankPlaysCardSaid :=
  Claim7.holds_tied_plain_at .later [] [.sentinel, .sentinel, .sentinel, .sentinel, .sentinel, .sentinel, .sentinel, .sentinel, .sentinel, .sentinel, .sentinel, .sentinel, .sentinel, .sentinel, .sentinel, .sentinel, .sentinel, .sentinel, .sentinel, .sentinel, .sentinel, .sentinel, .sentinel, .sentinel, .sentinel] true (true, "f4337d277b0bab2cf4ebf66f4295ee5edbfe3c9144273043ae1e79ed4d0dbcb4") true
    bankPlays_holds (fun _ h => by cases h) (by kernel_rfl) (fun _ h => by cases h) bankPlays_row_tie rfl ⟨rfl, rfl⟩ (by kernel_rfl) rfl
    (fun f fn hf hfn => by
      obtain rfl : f = 9 := Option.some.inj ((show Tryd.prog.funcNamed "tessera/tesseralaw16.BankPlays" = some 9 by kernel_rfl).symm.trans hf) |>.symm
      obtain rfl : fn = Tryd.f9 := (Option.some.inj (Tryd.func9.symm.trans hfn)).symm
      exact ⟨by kernel_rfl, fun j t ht => by
        rw [Tryd.params9] at ht
        have hm : t ∈ [76, 69] := by simpa using Array.mem_of_getElem? ht
        have hall : ([76, 69].all fun u => !Tryd.prog.wantsStandIn u) = true := by kernel_rfl
        exact (show Tryd.prog.wantsStandIn t = false by simpa using List.all_eq_true.1 hall t hm)⟩)
    (by kernel_rfl)
#print axioms bankPlays_card
end Go.Proofs.YtfiakplgifimkaaDoor
