/- The row CodeBack: the text of instructions is read as they are: true for every input; its tied card. -/
import Derived.Test.YtnjolbnbpfjdiaaDoorQb4
import Derived.Test.YtnjolbnbpfjdiaaDoorRows
import Derived.Test.YtnjolbnbpfjdiaaDoorCards
import Derived.Test.YtnjolbnbpfjdiaaDoorTie
import Derived.SevenTiedAt
set_option linter.unusedVariables false
set_option linter.unusedSimpArgs false
namespace Go.Proofs.YtnjolbnbpfjdiaaDoor.L
open Go Go.RowKit Go.Proofs Go.ChangeShapes Go.WideShapes Go.ChangeAt
set_option linter.unusedVariables false
set_option maxRecDepth 100000
attribute [local irreducible] AL QL AWp Thn InB RetQ ACalls LoopQ
theorem codeBack_met (os : Os) (args : Array Value) : laidMet Tryd.prog Rows.codeBackRow.laid ((World.laidAll Tryd.prog os Rows.codeBackRow.laid).forCall (fun _ _ => 0) ⟨#[], args, []⟩).memory := laidMet_laidAll _ (by kernel_rfl) (by kernel_rfl)
theorem codeBack_reads (os : Os) {H : Type} (enc : TypeId × Value → H) : ∃ places, DataW.whole enc Tryd.prog ((World.laidAll Tryd.prog os Rows.codeBackRow.laid).forCall (fun _ _ => 0) ⟨#[], #[.slice none 0 0], []⟩).memory Tryd.f7.params.toList Rows.codeBackSpec.vars false (#[.slice none 0 0]).toList 8 = some ([.nil], [], places) :=
  ⟨[], by kernel_rfl⟩
theorem codeBack_lifted (os : Os) (started : os.Started) (H : Type) (enc : TypeId × Value → H) (F : Stop.Interp) :
    ReturnsInHanded {} Tryd.checked os 7 .any ((OpenSpec.ofChange Rows.codeBackSpec).preRow enc Tryd.prog Tryd.f7 Rows.codeBackRow.domain false Rows.codeBackRow.laid) (((OpenSpec.ofChange Rows.codeBackSpec).at F).post enc Tryd.prog Tryd.f7 false true false false) := by
  obtain ⟨places, hx⟩ := codeBack_reads os enc
  refine returnsInHanded_of_row (C := Tryd.checked) (s := (OpenSpec.ofChange Rows.codeBackSpec)) rowOwn started (by kernel_rfl) Tryd.func7
    (witness_row_at (enc := enc) (C := Tryd.checked) false (World.laidAll Tryd.prog os Rows.codeBackRow.laid) #[.slice none 0 0] (World.laidAll_os _ _ _) (by kernel_rfl) (by kernel_rfl) (by kernel_rfl)
      (OpenSpec.preRow_of_cond 8 hx (by kernel_rfl) (fun k hk => by cases hk) (by kernel_rfl) (codeBack_met os _))) ?_
  intro W base args ds gs before hval hW _ hcond hsz hL hsh _
  have hG := tabs_of hsh hL (by kernel_rfl) (by kernel_rfl) (by kernel_rfl)
  refine law_calls (P := Tryd.prog) (n := 8) (aks := [.one (.sl [.int .i64, .int .i64])]) rowLaid (by kernel_rfl) rfl Tryd.underlying4 rfl (by kernel_rfl) (fun ds h => ?_) (fun xs h => ?_) hval hW hsz
  · match ds, h with
    | [_], _ => rfl
  · cases h with | one h1 r =>
      cases r
      cases h1 with | sl _ rows hl hb hr =>
        obtain ⟨l, rfl, hI⟩ := okr_ins hr
        exact s_lawCodeBack hG (by rw [insAV_len] at hl; exact hl) hI
theorem codeBack_over : Rows.CodeBackSaid :=
  OpenClaim.holds_of_cond 7 Tryd.f7 rfl rfl rfl rfl rfl rfl rfl ⟨rfl, rfl, rfl, rfl, rfl⟩ rfl rfl rfl rfl rfl (by kernel_rfl) Tryd.func7 (by kernel_rfl)
    (of_decide_eq_true (by kernel_rfl)) (by unfold Func.isWrapper; first | (rw [if_pos (by decide +kernel)]; kernel_rfl) | (rw [if_neg (by decide +kernel)]; exact ⟨rfl, rfl⟩))
    (fun os started H enc _ F => by rw [OpenClaim.pre_eq_preRow]; exact codeBack_lifted os started H enc F)
end Go.Proofs.YtnjolbnbpfjdiaaDoor.L
namespace Go.Proofs.YtnjolbnbpfjdiaaDoor
/-- The row. -/
theorem codeBack_holds : Rows.CodeBackSaid := L.codeBack_over
/-- Its tied card. -/
theorem codeBackCard_holds : Rows.CodeBackCardSaid :=
  Claim7.holds_tied_plain_at .later [] _ _ _ _ codeBack_holds (fun _ h => by cases h) (by kernel_rfl) (fun _ h => by cases h) codeBack_row_tie rfl ⟨rfl, rfl⟩ (by kernel_rfl) rfl
    (fun f fn hf hfn => by
      obtain rfl : f = 7 := Option.some.inj ((show Tryd.prog.funcNamed "cloister/cloisterlaw13.CodeBack" = some 7 by kernel_rfl).symm.trans hf) |>.symm
      obtain rfl : fn = Tryd.f7 := (Option.some.inj (Tryd.func7.symm.trans hfn)).symm
      exact ⟨by kernel_rfl, fun j t ht => by
        have hm : t ∈ Tryd.f7.params.toList := by simpa using Array.mem_of_getElem? ht
        have hall : (Tryd.f7.params.toList.all fun u => !Tryd.prog.wantsStandIn u) = true := by kernel_rfl
        exact (show Tryd.prog.wantsStandIn t = false by simpa using List.all_eq_true.1 hall t hm)⟩)
    (by kernel_rfl)
end Go.Proofs.YtnjolbnbpfjdiaaDoor
#print axioms Go.Proofs.YtnjolbnbpfjdiaaDoor.codeBackCard_holds
