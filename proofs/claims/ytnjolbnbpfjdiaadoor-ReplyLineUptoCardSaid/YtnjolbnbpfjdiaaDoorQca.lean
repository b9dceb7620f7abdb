/- The row ReplyLine in its second form (arguments of bulk at most 1048576): responses one behind the other are told apart; its tied card. -/
import Derived.Test.YtnjolbnbpfjdiaaDoorQc3
import Derived.Test.YtnjolbnbpfjdiaaDoorQc4
import Derived.Test.YtnjolbnbpfjdiaaDoorRows
import Derived.Test.YtnjolbnbpfjdiaaDoorCards
import Derived.Test.YtnjolbnbpfjdiaaDoorTie
import Derived.SevenTiedAt
set_option linter.unusedVariables false
set_option linter.unusedSimpArgs false
namespace Go.Proofs.YtnjolbnbpfjdiaaDoor.L
open Go Go.RowKit Go.Proofs Go.ChangeShapes Go.WideShapes Go.ChangeAt
set_option linter.unusedVariables false
set_option maxRecDepth 100000
attribute [local irreducible] AL QL AWp Thn InB RetQ ACalls LoopQ
theorem replyLine_met (os : Os) (args : Array Value) : laidMet Tryd.prog Rows.replyLineUptoRow.laid ((World.laidAll Tryd.prog os Rows.replyLineUptoRow.laid).forCall (fun _ _ => 0) ⟨#[], args, []⟩).memory := laidMet_laidAll _ (by kernel_rfl) (by kernel_rfl)
theorem replyLine_reads (os : Os) {H : Type} (enc : TypeId × Value → H) : ∃ places, DataW.whole enc Tryd.prog ((World.laidAll Tryd.prog os Rows.replyLineUptoRow.laid).forCall (fun _ _ => 0) ⟨#[], #[.slice none 0 0], []⟩).memory Tryd.f3.params.toList Rows.replyLineSpec.vars false (#[.slice none 0 0]).toList 8 = some ([.nil], [], places) :=
  ⟨[], by kernel_rfl⟩
theorem replyLine_lifted (os : Os) (started : os.Started) (H : Type) (enc : TypeId × Value → H) (F : Stop.Interp) :
    ReturnsInHanded {} Tryd.checked os 3 .any ((Rows.OpenSpec.upto Rows.replyLineSpec).preRow enc Tryd.prog Tryd.f3 Rows.replyLineUptoRow.domain false Rows.replyLineUptoRow.laid) (((Rows.OpenSpec.upto Rows.replyLineSpec).at F).post enc Tryd.prog Tryd.f3 false true false false) := by
  obtain ⟨places, hx⟩ := replyLine_reads os enc
  refine returnsInHanded_of_row (C := Tryd.checked) (s := (Rows.OpenSpec.upto Rows.replyLineSpec)) rowOwn started (by kernel_rfl) Tryd.func3
    (witness_row_at (enc := enc) (C := Tryd.checked) false (World.laidAll Tryd.prog os Rows.replyLineUptoRow.laid) #[.slice none 0 0] (World.laidAll_os _ _ _) (by kernel_rfl) (by kernel_rfl) (by kernel_rfl)
      (OpenSpec.preRow_of_cond 8 hx (by kernel_rfl) (fun k hk => by cases hk; kernel_rfl) (by kernel_rfl) (replyLine_met os _))) ?_
  intro W base args ds gs before hval hW _ hcond hsz hL hsh _
  have hG := tabs_of hsh hL (by kernel_rfl) (by kernel_rfl) (by kernel_rfl)
  refine law_callsB (P := Tryd.prog) (n := 8) (aks := [.one (.sl [.int .i64, .sl [.str, .str], .str, .bool])]) rowLaid (by kernel_rfl) rfl Tryd.underlying4 rfl (by kernel_rfl) (fun ds h => ?_) (fun xs h hb => ?_) hval hW hsz (hcond _ rfl)
  · match ds, h with
    | [_], _ => rfl
  · cases h with | one h1 r =>
      cases r
      cases h1 with | sl _ rows hl hb2 hr =>
        obtain ⟨l, rfl⟩ := okr_rps hr
        have hb3 := Nat.le_trans hb (show _ ≤ 1048580 by decide)
        simp only [cellsB, avB] at hb3
        exact s_lawReplyLine hG (rps_fit (by omega)) (by omega)
theorem replyLine_over : Rows.ReplyLineUptoSaid :=
  OpenClaim.holds_of_cond 3 Tryd.f3 rfl rfl rfl rfl rfl rfl rfl ⟨rfl, rfl, rfl, rfl, rfl⟩ rfl rfl rfl rfl rfl (by kernel_rfl) Tryd.func3 (by kernel_rfl)
    (of_decide_eq_true (by kernel_rfl)) (by unfold Func.isWrapper; first | (rw [if_pos (by decide +kernel)]; kernel_rfl) | (rw [if_neg (by decide +kernel)]; exact ⟨rfl, rfl⟩))
    (fun os started H enc _ F => by rw [OpenClaim.pre_eq_preRow]; exact replyLine_lifted os started H enc F)
end Go.Proofs.YtnjolbnbpfjdiaaDoor.L
namespace Go.Proofs.YtnjolbnbpfjdiaaDoor
/-- The row. -/
theorem replyLineUpto_holds : Rows.ReplyLineUptoSaid := L.replyLine_over
/-- Its tied card. -/
theorem replyLineUptoCard_holds : Rows.ReplyLineUptoCardSaid :=
  Claim7.holds_tied_plain_at .later [] _ _ _ _ replyLineUpto_holds (fun _ h => by cases h) (by kernel_rfl) (fun _ h => by cases h) replyLineUpto_row_tie rfl ⟨rfl, rfl⟩ (by kernel_rfl) rfl
    (fun f fn hf hfn => by
      obtain rfl : f = 3 := Option.some.inj ((show Tryd.prog.funcNamed "cloister/cloisterlaw09.ReplyLine" = some 3 by kernel_rfl).symm.trans hf) |>.symm
      obtain rfl : fn = Tryd.f3 := (Option.some.inj (Tryd.func3.symm.trans hfn)).symm
      exact ⟨by kernel_rfl, fun j t ht => by
        have hm : t ∈ Tryd.f3.params.toList := by simpa using Array.mem_of_getElem? ht
        have hall : (Tryd.f3.params.toList.all fun u => !Tryd.prog.wantsStandIn u) = true := by kernel_rfl
        exact (show Tryd.prog.wantsStandIn t = false by simpa using List.all_eq_true.1 hall t hm)⟩)
    (by kernel_rfl)
end Go.Proofs.YtnjolbnbpfjdiaaDoor
#print axioms Go.Proofs.YtnjolbnbpfjdiaaDoor.replyLineUptoCard_holds
