/- The row CodeAgain: what is read prints to a text that is read as the same: true for every input; its tied card. -/
import Derived.Test.YtnjolbnbpfjdiaaDoorQb4
import Derived.Test.YtnjolbnbpfjdiaaDoorRows
import Derived.Test.YtnjolbnbpfjdiaaDoorCards
import Derived.Test.YtnjolbnbpfjdiaaDoorTie
import Derived.SevenTiedAt
set_option linter.unusedVariables false
set_option linter.unusedSimpArgs false
namespace Go.Proofs.YtnjolbnbpfjdiaaDoor.L
open Go Go.RowKit Go.Proofs Go.ChangeShapes Go.WideShapes Go.ChangeAt
set_option linter.unusedVariables false
set_option maxRecDepth 100000
attribute [local irreducible] AL QL AWp Thn InB RetQ ACalls LoopQ
theorem codeAgain_met (os : Os) (args : Array Value) : laidMet Tryd.prog Rows.codeAgainRow.laid ((World.laidAll Tryd.prog os Rows.codeAgainRow.laid).forCall (fun _ _ => 0) ⟨#[], args, []⟩).memory := laidMet_laidAll _ (by kernel_rfl) (by kernel_rfl)
theorem codeAgain_reads (os : Os) {H : Type} (enc : TypeId × Value → H) : ∃ places, DataW.whole enc Tryd.prog ((World.laidAll Tryd.prog os Rows.codeAgainRow.laid).forCall (fun _ _ => 0) ⟨#[], #[.string ⟨#[]⟩], []⟩).memory Tryd.f8.params.toList Rows.codeAgainSpec.vars false (#[.string ⟨#[]⟩]).toList 8 = some ([.lit (.string [])], [], places) :=
  ⟨[], by kernel_rfl⟩
theorem codeAgain_lifted (os : Os) (started : os.Started) (H : Type) (enc : TypeId × Value → H) (F : Stop.Interp) :
    ReturnsInHanded {} Tryd.checked os 8 .any ((OpenSpec.ofChange Rows.codeAgainSpec).preRow enc Tryd.prog Tryd.f8 Rows.codeAgainRow.domain false Rows.codeAgainRow.laid) (((OpenSpec.ofChange Rows.codeAgainSpec).at F).post enc Tryd.prog Tryd.f8 false true false false) := by
  obtain ⟨places, hx⟩ := codeAgain_reads os enc
  refine returnsInHanded_of_row (C := Tryd.checked) (s := (OpenSpec.ofChange Rows.codeAgainSpec)) rowOwn started (by kernel_rfl) Tryd.func8
    (witness_row_at (enc := enc) (C := Tryd.checked) false (World.laidAll Tryd.prog os Rows.codeAgainRow.laid) #[.string ⟨#[]⟩] (World.laidAll_os _ _ _) (by kernel_rfl) (by kernel_rfl) (by kernel_rfl)
      (OpenSpec.preRow_of_cond 8 hx (by kernel_rfl) (fun k hk => by cases hk) (by kernel_rfl) (codeAgain_met os _))) ?_
  intro W base args ds gs before hval hW _ hcond hsz hL hsh _
  have hG := tabs_of hsh hL (by kernel_rfl) (by kernel_rfl) (by kernel_rfl)
  refine law_calls (P := Tryd.prog) (n := 8) (aks := [.one .str]) rowLaid (by kernel_rfl) rfl Tryd.underlying4 rfl (by kernel_rfl) (fun ds h => ?_) (fun xs h => ?_) hval hW hsz
  · match ds, h with
    | [_], _ => rfl
  · cases h with | one h1 r =>
      cases r
      cases h1 with | str s hs => exact s_lawCodeAgain hG hs
theorem codeAgain_over : Rows.CodeAgainSaid :=
  OpenClaim.holds_of_cond 8 Tryd.f8 rfl rfl rfl rfl rfl rfl rfl ⟨rfl, rfl, rfl, rfl, rfl⟩ rfl rfl rfl rfl rfl (by kernel_rfl) Tryd.func8 (by kernel_rfl)
    (of_decide_eq_true (by kernel_rfl)) (by unfold Func.isWrapper; first | (rw [if_pos (by decide +kernel)]; kernel_rfl) | (rw [if_neg (by decide +kernel)]; exact ⟨rfl, rfl⟩))
    (fun os started H enc _ F => by rw [OpenClaim.pre_eq_preRow]; exact codeAgain_lifted os started H enc F)
end Go.Proofs.YtnjolbnbpfjdiaaDoor.L
namespace Go.Proofs.YtnjolbnbpfjdiaaDoor
/-- The row. -/
theorem codeAgain_holds : Rows.CodeAgainSaid := L.codeAgain_over
/-- Its tied card. -/
theorem codeAgainCard_holds : Rows.CodeAgainCardSaid :=
  Claim7.holds_tied_plain_at .later [] _ _ _ _ codeAgain_holds (fun _ h => by cases h) (by kernel_rfl) (fun _ h => by cases h) codeAgain_row_tie rfl ⟨rfl, rfl⟩ (by kernel_rfl) rfl
    (fun f fn hf hfn => by
      obtain rfl : f = 8 := Option.some.inj ((show Tryd.prog.funcNamed "cloister/cloisterlaw13.CodeAgain" = some 8 by kernel_rfl).symm.trans hf) |>.symm
      obtain rfl : fn = Tryd.f8 := (Option.some.inj (Tryd.func8.symm.trans hfn)).symm
      exact ⟨by kernel_rfl, fun j t ht => by
        have hm : t ∈ Tryd.f8.params.toList := by simpa using Array.mem_of_getElem? ht
        have hall : (Tryd.f8.params.toList.all fun u => !Tryd.prog.wantsStandIn u) = true := by kernel_rfl
        exact (show Tryd.prog.wantsStandIn t = false by simpa using List.all_eq_true.1 hall t hm)⟩)
    (by kernel_rfl)
end Go.Proofs.YtnjolbnbpfjdiaaDoor
#print axioms Go.Proofs.YtnjolbnbpfjdiaaDoor.codeAgainCard_holds
