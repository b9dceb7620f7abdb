/- The row HeadLimits: a head of so many fields, each of so many bytes, is read or told by 431: true for every input; its tied card. -/
import Derived.Test.YtffcgpkbibijpaaDoorQh4
import Derived.Test.YtffcgpkbibijpaaDoorQh5
import Derived.Test.YtffcgpkbibijpaaDoorRows
import Derived.Test.YtffcgpkbibijpaaDoorCards
import Derived.Test.YtffcgpkbibijpaaDoorTie
import Derived.SevenTiedAt
set_option linter.unusedVariables false
set_option linter.unusedSimpArgs false
namespace Go.Proofs.YtffcgpkbibijpaaDoor.L
open Go Go.RowKit Go.Proofs Go.ChangeShapes Go.WideShapes Go.ChangeAt
set_option linter.unusedVariables false
set_option maxRecDepth 100000
attribute [local irreducible] AL QL AWp Thn InB RetQ ACalls LoopQ
theorem headLimits_met (os : Os) (args : Array Value) : laidMet Tryd.prog Rows.headLimitsRow.laid ((World.laidAll Tryd.prog os Rows.headLimitsRow.laid).forCall (fun _ _ => 0) ⟨#[], args, []⟩).memory := laidMet_laidAll _ (by kernel_rfl) (by kernel_rfl)
theorem headLimits_reads (os : Os) {H : Type} (enc : TypeId × Value → H) : ∃ places, DataW.whole enc Tryd.prog ((World.laidAll Tryd.prog os Rows.headLimitsRow.laid).forCall (fun _ _ => 0) ⟨#[], #[.int .i64 0, .int .i64 0], []⟩).memory Tryd.f4.params.toList Rows.headLimitsSpec.vars false (#[.int .i64 0, .int .i64 0]).toList 8 = some ([.lit (.int .i64 0), .lit (.int .i64 0)], [], places) :=
  ⟨[], by kernel_rfl⟩
theorem headLimits_lifted (os : Os) (started : os.Started) (H : Type) (enc : TypeId × Value → H) (F : Stop.Interp) :
    ReturnsInHanded {} Tryd.checked os 4 .any ((OpenSpec.ofChange Rows.headLimitsSpec).preRow enc Tryd.prog Tryd.f4 Rows.headLimitsRow.domain false Rows.headLimitsRow.laid) (((OpenSpec.ofChange Rows.headLimitsSpec).at F).post enc Tryd.prog Tryd.f4 false true false false) := by
  obtain ⟨places, hx⟩ := headLimits_reads os enc
  refine returnsInHanded_of_row (C := Tryd.checked) (s := (OpenSpec.ofChange Rows.headLimitsSpec)) rowOwn started (by kernel_rfl) Tryd.func4
    (witness_row_at (enc := enc) (C := Tryd.checked) false (World.laidAll Tryd.prog os Rows.headLimitsRow.laid) #[.int .i64 0, .int .i64 0] (World.laidAll_os _ _ _) (by kernel_rfl) (by kernel_rfl) (by kernel_rfl)
      (OpenSpec.preRow_of_cond 8 hx (by kernel_rfl) (fun k hk => by cases hk) (by kernel_rfl) (headLimits_met os _))) ?_
  intro W base args ds gs before hval hW _ hcond hsz hL hsh _
  have hG := glob_of hsh
  refine law_calls (P := Tryd.prog) (n := 8) (aks := [.one (.int .i64), .one (.int .i64)]) rowLaid (by kernel_rfl) rfl Tryd.underlying4 rfl (by kernel_rfl) (fun ds h => ?_) (fun xs h => ?_) hval hW hsz
  · match ds, h with
    | [_, _], _ => rfl
  · cases h with | one h1 r => cases r with | one h2 r => cases r; cases h1; cases h2; exact s_lawLimits hG
theorem headLimits_over : Rows.HeadLimitsSaid :=
  OpenClaim.holds_of_cond 4 Tryd.f4 rfl rfl rfl rfl rfl rfl rfl ⟨rfl, rfl, rfl, rfl, rfl⟩ rfl rfl rfl rfl rfl (by kernel_rfl) Tryd.func4 (by kernel_rfl)
    (of_decide_eq_true (by kernel_rfl)) (by unfold Func.isWrapper; first | (rw [if_pos (by decide +kernel)]; kernel_rfl) | (rw [if_neg (by decide +kernel)]; exact ⟨rfl, rfl⟩))
    (fun os started H enc _ F => by rw [OpenClaim.pre_eq_preRow]; exact headLimits_lifted os started H enc F)
end Go.Proofs.YtffcgpkbibijpaaDoor.L
namespace Go.Proofs.YtffcgpkbibijpaaDoor
/-- The row. -/
theorem headLimits_holds : Rows.HeadLimitsSaid := L.headLimits_over
/-- Its tied card. -/
theorem headLimitsCard_holds : Rows.HeadLimitsCardSaid :=
  Claim7.holds_tied_plain_at .later [] _ _ _ _ headLimits_holds (fun _ h => by cases h) (by kernel_rfl) (fun _ h => by cases h) headLimits_row_tie rfl ⟨rfl, rfl⟩ (by kernel_rfl) rfl
    (fun f fn hf hfn => by
      obtain rfl : f = 4 := Option.some.inj ((show Tryd.prog.funcNamed "cloister/cloisterlaw07.HeadLimits" = some 4 by kernel_rfl).symm.trans hf) |>.symm
      obtain rfl : fn = Tryd.f4 := (Option.some.inj (Tryd.func4.symm.trans hfn)).symm
      exact ⟨by kernel_rfl, fun j t ht => by
        have hm : t ∈ Tryd.f4.params.toList := by simpa using Array.mem_of_getElem? ht
        have hall : (Tryd.f4.params.toList.all fun u => !Tryd.prog.wantsStandIn u) = true := by kernel_rfl
        exact (show Tryd.prog.wantsStandIn t = false by simpa using List.all_eq_true.1 hall t hm)⟩)
    (by kernel_rfl)
end Go.Proofs.YtffcgpkbibijpaaDoor
#print axioms Go.Proofs.YtffcgpkbibijpaaDoor.headLimitsCard_holds
