/- The row ParseWrong: what breaks a parser is one of four statuses, and it stays broken: true for every input; its tied card. -/
import Derived.Test.YtffcgpkbibijpaaGreatDoorQc5
import Derived.Test.YtffcgpkbibijpaaGreatDoorQcsa
import Derived.Test.YtffcgpkbibijpaaGreatDoorRows
import Derived.Test.YtffcgpkbibijpaaGreatDoorCards
import Derived.Test.YtffcgpkbibijpaaGreatDoorTie
import Derived.SevenTiedAt
set_option linter.unusedVariables false
set_option linter.unusedSimpArgs false
namespace Go.Proofs.YtffcgpkbibijpaaGreatDoor.L
open Go Go.RowKit Go.Proofs Go.ChangeShapes Go.WideShapes Go.ChangeAt
set_option linter.unusedVariables false
set_option maxRecDepth 100000
attribute [local irreducible] AL QL AWp Thn InB RetQ ACalls LoopQ
theorem parseWrong_met (os : Os) (args : Array Value) : laidMet Tryz.prog Rows.parseWrongRow.laid ((World.laidAll Tryz.prog os Rows.parseWrongRow.laid).forCall (fun _ _ => 0) ⟨#[], args, []⟩).memory := laidMet_laidAll _ (by kernel_rfl) (by kernel_rfl)
theorem parseWrong_reads (os : Os) {H : Type} (enc : TypeId × Value → H) : ∃ places, DataW.whole enc Tryz.prog ((World.laidAll Tryz.prog os Rows.parseWrongRow.laid).forCall (fun _ _ => 0) ⟨#[], #[.string ⟨#[]⟩, .string ⟨#[]⟩], []⟩).memory Tryz.f8.params.toList Rows.parseWrongSpec.vars false (#[.string ⟨#[]⟩, .string ⟨#[]⟩]).toList 8 = some ([.lit (.string []), .lit (.string [])], [], places) :=
  ⟨[], by kernel_rfl⟩
theorem parseWrong_lifted (os : Os) (started : os.Started) (H : Type) (enc : TypeId × Value → H) (F : Stop.Interp) :
    ReturnsInHanded {} Tryz.checked os 8 .any ((OpenSpec.ofChange Rows.parseWrongSpec).preRow enc Tryz.prog Tryz.f8 Rows.parseWrongRow.domain false Rows.parseWrongRow.laid) (((OpenSpec.ofChange Rows.parseWrongSpec).at F).post enc Tryz.prog Tryz.f8 false true false false) := by
  obtain ⟨places, hx⟩ := parseWrong_reads os enc
  refine returnsInHanded_of_row (C := Tryz.checked) (s := (OpenSpec.ofChange Rows.parseWrongSpec)) rowOwn started (by kernel_rfl) Tryz.func8
    (witness_row_at (enc := enc) (C := Tryz.checked) false (World.laidAll Tryz.prog os Rows.parseWrongRow.laid) #[.string ⟨#[]⟩, .string ⟨#[]⟩] (World.laidAll_os _ _ _) (by kernel_rfl) (by kernel_rfl) (by kernel_rfl)
      (OpenSpec.preRow_of_cond 8 hx (by kernel_rfl) (fun k hk => by cases hk) (by kernel_rfl) (parseWrong_met os _))) ?_
  intro W base args ds gs before hval hW _ hcond hsz hL hsh _
  have hG := glob_of hsh
  refine law_calls (P := Tryz.prog) (n := 8) (aks := [.one .str, .one .str]) rowLaid (by kernel_rfl) rfl Tryz.underlying4 rfl (by kernel_rfl) (fun ds h => ?_) (fun xs h => ?_) hval hW hsz
  · match ds, h with
    | [_, _], _ => rfl
  · cases h with | one h1 r => cases r with | one h2 r =>
      cases r
      cases h1 with | str s hs => cases h2 with | str m hm => exact s_lawWrong hG hs hm
theorem parseWrong_over : Rows.ParseWrongSaid :=
  OpenClaim.holds_of_cond 8 Tryz.f8 rfl rfl rfl rfl rfl rfl rfl ⟨rfl, rfl, rfl, rfl, rfl⟩ rfl rfl rfl rfl rfl (by kernel_rfl) Tryz.func8 (by kernel_rfl)
    (of_decide_eq_true (by kernel_rfl)) (by unfold Func.isWrapper; first | (rw [if_pos (by decide +kernel)]; kernel_rfl) | (rw [if_neg (by decide +kernel)]; exact ⟨rfl, rfl⟩))
    (fun os started H enc _ F => by rw [OpenClaim.pre_eq_preRow]; exact parseWrong_lifted os started H enc F)
end Go.Proofs.YtffcgpkbibijpaaGreatDoor.L
namespace Go.Proofs.YtffcgpkbibijpaaGreatDoor
/-- The row. -/
theorem parseWrong_holds : Rows.ParseWrongSaid := L.parseWrong_over
/-- Its tied card. -/
theorem parseWrongCard_holds : Rows.ParseWrongCardSaid :=
  Claim7.holds_tied_plain_at .later [] _ _ _ _ parseWrong_holds (fun _ h => by cases h) (by kernel_rfl) (fun _ h => by cases h) parseWrong_row_tie rfl ⟨rfl, rfl⟩ (by kernel_rfl) rfl
    (fun f fn hf hfn => by
      obtain rfl : f = 8 := Option.some.inj ((show Tryz.prog.funcNamed "cloister/cloisterlaw08.ParseWrong" = some 8 by kernel_rfl).symm.trans hf) |>.symm
      obtain rfl : fn = Tryz.f8 := (Option.some.inj (Tryz.func8.symm.trans hfn)).symm
      exact ⟨by kernel_rfl, fun j t ht => by
        have hm : t ∈ Tryz.f8.params.toList := by simpa using Array.mem_of_getElem? ht
        have hall : (Tryz.f8.params.toList.all fun u => !Tryz.prog.wantsStandIn u) = true := by kernel_rfl
        exact (show Tryz.prog.wantsStandIn t = false by simpa using List.all_eq_true.1 hall t hm)⟩)
    (by kernel_rfl)
end Go.Proofs.YtffcgpkbibijpaaGreatDoor
#print axioms Go.Proofs.YtffcgpkbibijpaaGreatDoor.parseWrongCard_holds
