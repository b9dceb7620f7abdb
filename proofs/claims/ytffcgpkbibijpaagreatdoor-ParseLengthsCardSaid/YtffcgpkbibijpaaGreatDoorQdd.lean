/- The row ParseLengths: a body of so many bytes is read whole, as soon as all of it is there; one byte above the limit is told by 413: true for every input; its tied card. -/
import Derived.Test.YtffcgpkbibijpaaGreatDoorQd5
import Derived.Test.YtffcgpkbibijpaaGreatDoorQdsi
import Derived.Test.YtffcgpkbibijpaaGreatDoorRows
import Derived.Test.YtffcgpkbibijpaaGreatDoorCards
import Derived.Test.YtffcgpkbibijpaaGreatDoorTie
import Derived.SevenTiedAt
set_option linter.unusedVariables false
set_option linter.unusedSimpArgs false
namespace Go.Proofs.YtffcgpkbibijpaaGreatDoor.L
open Go Go.RowKit Go.Proofs Go.ChangeShapes Go.WideShapes Go.ChangeAt
set_option linter.unusedVariables false
set_option maxRecDepth 100000
attribute [local irreducible] AL QL AWp Thn InB RetQ ACalls LoopQ
theorem parseLengths_met (os : Os) (args : Array Value) : laidMet Tryz.prog Rows.parseLengthsRow.laid ((World.laidAll Tryz.prog os Rows.parseLengthsRow.laid).forCall (fun _ _ => 0) ⟨#[], args, []⟩).memory := laidMet_laidAll _ (by kernel_rfl) (by kernel_rfl)
theorem parseLengths_reads (os : Os) {H : Type} (enc : TypeId × Value → H) : ∃ places, DataW.whole enc Tryz.prog ((World.laidAll Tryz.prog os Rows.parseLengthsRow.laid).forCall (fun _ _ => 0) ⟨#[], #[.int .i64 0, .int .i64 0], []⟩).memory Tryz.f9.params.toList Rows.parseLengthsSpec.vars false (#[.int .i64 0, .int .i64 0]).toList 8 = some ([.lit (.int .i64 0), .lit (.int .i64 0)], [], places) :=
  ⟨[], by kernel_rfl⟩
theorem parseLengths_lifted (os : Os) (started : os.Started) (H : Type) (enc : TypeId × Value → H) (F : Stop.Interp) :
    ReturnsInHanded {} Tryz.checked os 9 .any ((OpenSpec.ofChange Rows.parseLengthsSpec).preRow enc Tryz.prog Tryz.f9 Rows.parseLengthsRow.domain false Rows.parseLengthsRow.laid) (((OpenSpec.ofChange Rows.parseLengthsSpec).at F).post enc Tryz.prog Tryz.f9 false true false false) := by
  obtain ⟨places, hx⟩ := parseLengths_reads os enc
  refine returnsInHanded_of_row (C := Tryz.checked) (s := (OpenSpec.ofChange Rows.parseLengthsSpec)) rowOwn started (by kernel_rfl) Tryz.func9
    (witness_row_at (enc := enc) (C := Tryz.checked) false (World.laidAll Tryz.prog os Rows.parseLengthsRow.laid) #[.int .i64 0, .int .i64 0] (World.laidAll_os _ _ _) (by kernel_rfl) (by kernel_rfl) (by kernel_rfl)
      (OpenSpec.preRow_of_cond 8 hx (by kernel_rfl) (fun k hk => by cases hk) (by kernel_rfl) (parseLengths_met os _))) ?_
  intro W base args ds gs before hval hW _ hcond hsz hL hsh _
  have hG := glob_of hsh
  refine law_calls (P := Tryz.prog) (n := 8) (aks := [.one (.int .i64), .one (.int .i64)]) rowLaid (by kernel_rfl) rfl Tryz.underlying4 rfl (by kernel_rfl) (fun ds h => ?_) (fun xs h => ?_) hval hW hsz
  · match ds, h with
    | [_, _], _ => rfl
  · cases h with | one h1 r => cases r with | one h2 r => cases r; cases h1; cases h2; exact s_lawLengths hG
theorem parseLengths_over : Rows.ParseLengthsSaid :=
  OpenClaim.holds_of_cond 9 Tryz.f9 rfl rfl rfl rfl rfl rfl rfl ⟨rfl, rfl, rfl, rfl, rfl⟩ rfl rfl rfl rfl rfl (by kernel_rfl) Tryz.func9 (by kernel_rfl)
    (of_decide_eq_true (by kernel_rfl)) (by unfold Func.isWrapper; first | (rw [if_pos (by decide +kernel)]; kernel_rfl) | (rw [if_neg (by decide +kernel)]; exact ⟨rfl, rfl⟩))
    (fun os started H enc _ F => by rw [OpenClaim.pre_eq_preRow]; exact parseLengths_lifted os started H enc F)
end Go.Proofs.YtffcgpkbibijpaaGreatDoor.L
namespace Go.Proofs.YtffcgpkbibijpaaGreatDoor
/-- The row. -/
theorem parseLengths_holds : Rows.ParseLengthsSaid := L.parseLengths_over
/-- Its tied card. -/
theorem parseLengthsCard_holds : Rows.ParseLengthsCardSaid :=
  Claim7.holds_tied_plain_at .later [] _ _ _ _ parseLengths_holds (fun _ h => by cases h) (by kernel_rfl) (fun _ h => by cases h) parseLengths_row_tie rfl ⟨rfl, rfl⟩ (by kernel_rfl) rfl
    (fun f fn hf hfn => by
      obtain rfl : f = 9 := Option.some.inj ((show Tryz.prog.funcNamed "cloister/cloisterlaw08.ParseLengths" = some 9 by kernel_rfl).symm.trans hf) |>.symm
      obtain rfl : fn = Tryz.f9 := (Option.some.inj (Tryz.func9.symm.trans hfn)).symm
      exact ⟨by kernel_rfl, fun j t ht => by
        have hm : t ∈ Tryz.f9.params.toList := by simpa using Array.mem_of_getElem? ht
        have hall : (Tryz.f9.params.toList.all fun u => !Tryz.prog.wantsStandIn u) = true := by kernel_rfl
        exact (show Tryz.prog.wantsStandIn t = false by simpa using List.all_eq_true.1 hall t hm)⟩)
    (by kernel_rfl)
end Go.Proofs.YtffcgpkbibijpaaGreatDoor
#print axioms Go.Proofs.YtffcgpkbibijpaaGreatDoor.parseLengthsCard_holds
