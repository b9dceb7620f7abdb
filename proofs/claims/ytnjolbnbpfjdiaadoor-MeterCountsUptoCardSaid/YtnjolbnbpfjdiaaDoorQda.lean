/- The row MeterCounts in its second form (arguments of bulk at most 1048576): how many responses went out at a connection, and whether it was closed; its tied card. -/
import Derived.Test.YtnjolbnbpfjdiaaDoorQd5
import Derived.Test.YtnjolbnbpfjdiaaDoorRows
import Derived.Test.YtnjolbnbpfjdiaaDoorCards
import Derived.Test.YtnjolbnbpfjdiaaDoorTie
import Derived.SevenTiedAt
set_option linter.unusedVariables false
set_option linter.unusedSimpArgs false
namespace Go.Proofs.YtnjolbnbpfjdiaaDoor.L
open Go Go.RowKit Go.Proofs Go.ChangeShapes Go.WideShapes Go.ChangeAt
set_option linter.unusedVariables false
set_option maxRecDepth 100000
attribute [local irreducible] AL QL AWp Thn InB RetQ ACalls LoopQ
theorem meterCounts_met (os : Os) (args : Array Value) : laidMet Tryd.prog Rows.meterCountsUptoRow.laid ((World.laidAll Tryd.prog os Rows.meterCountsUptoRow.laid).forCall (fun _ _ => 0) ⟨#[], args, []⟩).memory := laidMet_laidAll _ (by kernel_rfl) (by kernel_rfl)
theorem meterCounts_reads (os : Os) {H : Type} (enc : TypeId × Value → H) : ∃ places, DataW.whole enc Tryd.prog ((World.laidAll Tryd.prog os Rows.meterCountsUptoRow.laid).forCall (fun _ _ => 0) ⟨#[], #[.slice none 0 0, .int .i64 0], []⟩).memory Tryd.f4.params.toList Rows.meterCountsSpec.vars false (#[.slice none 0 0, .int .i64 0]).toList 8 = some ([.nil, .lit (.int .i64 0)], [], places) :=
  ⟨[], by kernel_rfl⟩
theorem meterCounts_lifted (os : Os) (started : os.Started) (H : Type) (enc : TypeId × Value → H) (F : Stop.Interp) :
    ReturnsInHanded {} Tryd.checked os 4 .any ((Rows.OpenSpec.upto Rows.meterCountsSpec).preRow enc Tryd.prog Tryd.f4 Rows.meterCountsUptoRow.domain false Rows.meterCountsUptoRow.laid) (((Rows.OpenSpec.upto Rows.meterCountsSpec).at F).post enc Tryd.prog Tryd.f4 false true false false) := by
  obtain ⟨places, hx⟩ := meterCounts_reads os enc
  refine returnsInHanded_of_row (C := Tryd.checked) (s := (Rows.OpenSpec.upto Rows.meterCountsSpec)) rowOwn started (by kernel_rfl) Tryd.func4
    (witness_row_at (enc := enc) (C := Tryd.checked) false (World.laidAll Tryd.prog os Rows.meterCountsUptoRow.laid) #[.slice none 0 0, .int .i64 0] (World.laidAll_os _ _ _) (by kernel_rfl) (by kernel_rfl) (by kernel_rfl)
      (OpenSpec.preRow_of_cond 8 hx (by kernel_rfl) (fun k hk => by cases hk; kernel_rfl) (by kernel_rfl) (meterCounts_met os _))) ?_
  intro W base args ds gs before hval hW _ hcond hsz hL hsh _
  have hG := tabs_of hsh hL (by kernel_rfl) (by kernel_rfl) (by kernel_rfl)
  refine law_callsB (P := Tryd.prog) (n := 8) (aks := [.one (.sl [.int .i64, .int .i64, .str, .bool]), .one (.int .i64)]) rowLaid (by kernel_rfl) rfl Tryd.underlying4 rfl (by kernel_rfl) (fun ds h => ?_) (fun xs h hb => ?_) hval hW hsz (hcond _ rfl)
  · match ds, h with
    | [_, _], _ => rfl
  · cases h with | one h1 r => cases r with | one h2 r =>
      cases r
      cases h2
      cases h1 with | sl _ rows hl hb2 hr =>
        obtain ⟨l, rfl⟩ := okr_ous hr
        have hb3 := Nat.le_trans hb (show _ ≤ 1048580 by decide)
        simp only [cellsB, avB] at hb3
        exact s_lawCounts hG (by omega)
theorem meterCounts_over : Rows.MeterCountsUptoSaid :=
  OpenClaim.holds_of_cond 4 Tryd.f4 rfl rfl rfl rfl rfl rfl rfl ⟨rfl, rfl, rfl, rfl, rfl⟩ rfl rfl rfl rfl rfl (by kernel_rfl) Tryd.func4 (by kernel_rfl)
    (of_decide_eq_true (by kernel_rfl)) (by unfold Func.isWrapper; first | (rw [if_pos (by decide +kernel)]; kernel_rfl) | (rw [if_neg (by decide +kernel)]; exact ⟨rfl, rfl⟩))
    (fun os started H enc _ F => by rw [OpenClaim.pre_eq_preRow]; exact meterCounts_lifted os started H enc F)
end Go.Proofs.YtnjolbnbpfjdiaaDoor.L
namespace Go.Proofs.YtnjolbnbpfjdiaaDoor
/-- The row. -/
theorem meterCountsUpto_holds : Rows.MeterCountsUptoSaid := L.meterCounts_over
/-- Its tied card. -/
theorem meterCountsUptoCard_holds : Rows.MeterCountsUptoCardSaid :=
  Claim7.holds_tied_plain_at .later [] _ _ _ _ meterCountsUpto_holds (fun _ h => by cases h) (by kernel_rfl) (fun _ h => by cases h) meterCountsUpto_row_tie rfl ⟨rfl, rfl⟩ (by kernel_rfl) rfl
    (fun f fn hf hfn => by
      obtain rfl : f = 4 := Option.some.inj ((show Tryd.prog.funcNamed "cloister/cloisterlaw21.MeterCounts" = some 4 by kernel_rfl).symm.trans hf) |>.symm
      obtain rfl : fn = Tryd.f4 := (Option.some.inj (Tryd.func4.symm.trans hfn)).symm
      exact ⟨by kernel_rfl, fun j t ht => by
        have hm : t ∈ Tryd.f4.params.toList := by simpa using Array.mem_of_getElem? ht
        have hall : (Tryd.f4.params.toList.all fun u => !Tryd.prog.wantsStandIn u) = true := by kernel_rfl
        exact (show Tryd.prog.wantsStandIn t = false by simpa using List.all_eq_true.1 hall t hm)⟩)
    (by kernel_rfl)
end Go.Proofs.YtnjolbnbpfjdiaaDoor
#print axioms Go.Proofs.YtnjolbnbpfjdiaaDoor.meterCountsUptoCard_holds
