/- The row DemuxNobody: connections that nobody made answer nothing, and do not fail: true for every input; its tied card. -/
import Derived.Test.YtkljmljkiodnpaaGreatDoorQe6
import Derived.Test.YtkljmljkiodnpaaGreatDoorRows
import Derived.Test.YtkljmljkiodnpaaGreatDoorCards
import Derived.Test.YtkljmljkiodnpaaGreatDoorTie
import Derived.SevenTiedAt
set_option linter.unusedVariables false
set_option linter.unusedSimpArgs false
set_option maxRecDepth 100000
namespace Go.Proofs.YtkljmljkiodnpaaGreatDoor.L
open Go Go.RowKit Go.Proofs Go.ChangeShapes Go.WideShapes Go.ChangeAt
attribute [local irreducible] AL QL AWp Thn InB RetQ ACalls LoopQ
theorem a8v (os : Os) (args : Array Value) : laidMet Tryz.prog Rows.demuxNobodyRow.laid ((World.laidAll Tryz.prog os Rows.demuxNobodyRow.laid).forCall (fun _ _ => 0) ⟨#[], args, []⟩).memory := laidMet_laidAll _ (by kernel_rfl) (by kernel_rfl)
theorem a6y (os : Os) {H : Type} (enc : TypeId × Value → H) : ∃ places, DataW.whole enc Tryz.prog ((World.laidAll Tryz.prog os Rows.demuxNobodyRow.laid).forCall (fun _ _ => 0) ⟨#[], #[.int .i64 0, .string ⟨#[]⟩], []⟩).memory Tryz.f7.params.toList Rows.demuxNobodySpec.vars false (#[.int .i64 0, .string ⟨#[]⟩]).toList 8 = some ([.lit (.int .i64 0), .lit (.string [])], [], places) :=
  ⟨[], by kernel_rfl⟩
theorem a6m (os : Os) (started : os.Started) (H : Type) (enc : TypeId × Value → H) (F : Stop.Interp) :
    ReturnsInHanded {} Tryz.checked os 7 .any ((OpenSpec.ofChange Rows.demuxNobodySpec).preRow enc Tryz.prog Tryz.f7 Rows.demuxNobodyRow.domain false Rows.demuxNobodyRow.laid) (((OpenSpec.ofChange Rows.demuxNobodySpec).at F).post enc Tryz.prog Tryz.f7 false true false false) := by
  obtain ⟨places, hx⟩ := a6y os enc
  refine returnsInHanded_of_row (C := Tryz.checked) (s := (OpenSpec.ofChange Rows.demuxNobodySpec)) rowOwn started (by kernel_rfl) Tryz.func7
    (witness_row_at (enc := enc) (C := Tryz.checked) false (World.laidAll Tryz.prog os Rows.demuxNobodyRow.laid) #[.int .i64 0, .string ⟨#[]⟩] (World.laidAll_os _ _ _) (by kernel_rfl) (by kernel_rfl) (by kernel_rfl)
      (OpenSpec.preRow_of_cond 8 hx (by kernel_rfl) (fun k hk => by cases hk) (by kernel_rfl) (a8v os _))) ?_
  intro W base args ds gs before hval hW _ hcond hsz hL hsh _
  have hG := b7h hsh hL (by kernel_rfl) (by kernel_rfl) (by kernel_rfl)
  refine b8p (P := Tryz.prog) (n := 8) (aks := [.one (.int .i64), .one .str]) rowLaid (by kernel_rfl) rfl Tryz.underlying4 rfl (by kernel_rfl) (fun ds h => ?_) (fun xs h => ?_) hval hW hsz
  · match ds, h with
    | [_, _], _ => rfl
  · cases h with | one h1 r => cases r with | one h2 r =>
      cases r
      cases h1
      cases h2 with | str s hs => exact b0k hG
theorem demuxNobody_over : Rows.DemuxNobodySaid :=
  OpenClaim.holds_of_cond 7 Tryz.f7 rfl rfl rfl rfl rfl rfl rfl ⟨rfl, rfl, rfl, rfl, rfl⟩ rfl rfl rfl rfl rfl (by kernel_rfl) Tryz.func7 (by kernel_rfl)
    (of_decide_eq_true (by kernel_rfl)) (by unfold Func.isWrapper; first | (rw [if_pos (by decide +kernel)]; kernel_rfl) | (rw [if_neg (by decide +kernel)]; exact ⟨rfl, rfl⟩))
    (fun os started H enc _ F => by rw [OpenClaim.pre_eq_preRow]; exact a6m os started H enc F)
end Go.Proofs.YtkljmljkiodnpaaGreatDoor.L
namespace Go.Proofs.YtkljmljkiodnpaaGreatDoor
theorem a6z : Rows.DemuxNobodySaid := L.demuxNobody_over
theorem demuxNobodyCard_holds : Rows.DemuxNobodyCardSaid :=
  Claim7.holds_tied_plain_at .later [] _ _ _ _ a6z (fun _ h => by cases h) (by kernel_rfl) (fun _ h => by cases h) demuxNobody_row_tie rfl ⟨rfl, rfl⟩ (by kernel_rfl) rfl
    (fun f fn hf hfn => by
      obtain rfl : f = 7 := Option.some.inj ((show Tryz.prog.funcNamed "cloister/cloisterlaw18.DemuxNobody" = some 7 by kernel_rfl).symm.trans hf) |>.symm
      obtain rfl : fn = Tryz.f7 := (Option.some.inj (Tryz.func7.symm.trans hfn)).symm
      exact ⟨by kernel_rfl, fun j t ht => by
        have hm : t ∈ Tryz.f7.params.toList := by simpa using Array.mem_of_getElem? ht
        have hall : (Tryz.f7.params.toList.all fun u => !Tryz.prog.wantsStandIn u) = true := by kernel_rfl
        exact (show Tryz.prog.wantsStandIn t = false by simpa using List.all_eq_true.1 hall t hm)⟩)
    (by kernel_rfl)
end Go.Proofs.YtkljmljkiodnpaaGreatDoor
#print axioms Go.Proofs.YtkljmljkiodnpaaGreatDoor.demuxNobodyCard_holds
