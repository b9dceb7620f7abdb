/- The row HeadBodies in its second form (arguments of bulk at most 1048576): which body a head asks for, and whether the connection ends: true for every such input; its tied card. -/
import Derived.Test.YtffcgpkbibijpaaGreatDoorQb4
import Derived.Test.YtffcgpkbibijpaaGreatDoorRows
import Derived.Test.YtffcgpkbibijpaaGreatDoorCards
import Derived.Test.YtffcgpkbibijpaaGreatDoorTie
import Derived.SevenTiedAt
set_option linter.unusedVariables false
set_option linter.unusedSimpArgs false
namespace Go.Proofs.YtffcgpkbibijpaaGreatDoor.L
open Go Go.RowKit Go.Proofs Go.ChangeShapes Go.WideShapes Go.ChangeAt
set_option linter.unusedVariables false
set_option maxRecDepth 100000
attribute [local irreducible] AL QL AWp Thn InB RetQ ACalls LoopQ
theorem headBodies_met (os : Os) (args : Array Value) : laidMet Tryz.prog Rows.headBodiesUptoRow.laid ((World.laidAll Tryz.prog os Rows.headBodiesUptoRow.laid).forCall (fun _ _ => 0) ⟨#[], args, []⟩).memory := laidMet_laidAll _ (by kernel_rfl) (by kernel_rfl)
theorem headBodies_reads (os : Os) {H : Type} (enc : TypeId × Value → H) : ∃ places, DataW.whole enc Tryz.prog ((World.laidAll Tryz.prog os Rows.headBodiesUptoRow.laid).forCall (fun _ _ => 0) ⟨#[], #[.agg #[.string ⟨#[]⟩, .string ⟨#[]⟩, .int .i64 0, .slice none 0 0]], []⟩).memory Tryz.f3.params.toList Rows.headBodiesSpec.vars false (#[.agg #[.string ⟨#[]⟩, .string ⟨#[]⟩, .int .i64 0, .slice none 0 0]]).toList 8 = some ([.agg [.lit (.string []), .lit (.string []), .lit (.int .i64 0), .nil]], [], places) :=
  ⟨[], by kernel_rfl⟩
theorem headBodies_lifted (os : Os) (started : os.Started) (H : Type) (enc : TypeId × Value → H) (F : Stop.Interp) :
    ReturnsInHanded {} Tryz.checked os 3 .any ((Rows.OpenSpec.upto Rows.headBodiesSpec).preRow enc Tryz.prog Tryz.f3 Rows.headBodiesUptoRow.domain false Rows.headBodiesUptoRow.laid) (((Rows.OpenSpec.upto Rows.headBodiesSpec).at F).post enc Tryz.prog Tryz.f3 false true false false) := by
  obtain ⟨places, hx⟩ := headBodies_reads os enc
  refine returnsInHanded_of_row (C := Tryz.checked) (s := (Rows.OpenSpec.upto Rows.headBodiesSpec)) rowOwn started (by kernel_rfl) Tryz.func3
    (witness_row_at (enc := enc) (C := Tryz.checked) false (World.laidAll Tryz.prog os Rows.headBodiesUptoRow.laid) #[.agg #[.string ⟨#[]⟩, .string ⟨#[]⟩, .int .i64 0, .slice none 0 0]] (World.laidAll_os _ _ _) (by kernel_rfl) (by kernel_rfl) (by kernel_rfl)
      (OpenSpec.preRow_of_cond 8 hx (by kernel_rfl) (fun k hk => by cases hk; kernel_rfl) (by kernel_rfl) (headBodies_met os _))) ?_
  intro W base args ds gs before hval hW _ hcond hsz hL hsh _
  have hG := glob_of hsh
  refine law_callsB (P := Tryz.prog) (n := 8) (aks := [.agg [.str, .str, .int .i64, .sl [.str, .str]]]) rowLaid (by kernel_rfl) rfl Tryz.underlying4 rfl (by kernel_rfl) (fun ds h => ?_) (fun xs h hb => ?_) hval hW hsz (hcond _ rfl)
  · match ds, h with
    | [_], _ => rfl
  · cases h with | agg h1 r =>
      cases r
      obtain ⟨hd, he, hf⟩ := okl_head h1
      rw [he] at hb ⊢
      exact s_lawBodies hG (tiny_of (Nat.le_trans hb (by decide)))
theorem headBodies_over : Rows.HeadBodiesUptoSaid :=
  OpenClaim.holds_of_cond 3 Tryz.f3 rfl rfl rfl rfl rfl rfl rfl ⟨rfl, rfl, rfl, rfl, rfl⟩ rfl rfl rfl rfl rfl (by kernel_rfl) Tryz.func3 (by kernel_rfl)
    (of_decide_eq_true (by kernel_rfl)) (by unfold Func.isWrapper; first | (rw [if_pos (by decide +kernel)]; kernel_rfl) | (rw [if_neg (by decide +kernel)]; exact ⟨rfl, rfl⟩))
    (fun os started H enc _ F => by rw [OpenClaim.pre_eq_preRow]; exact headBodies_lifted os started H enc F)
end Go.Proofs.YtffcgpkbibijpaaGreatDoor.L
namespace Go.Proofs.YtffcgpkbibijpaaGreatDoor
/-- The row. -/
theorem headBodiesUpto_holds : Rows.HeadBodiesUptoSaid := L.headBodies_over
/-- Its tied card. -/
theorem headBodiesUptoCard_holds : Rows.HeadBodiesUptoCardSaid :=
  Claim7.holds_tied_plain_at .later [] _ _ _ _ headBodiesUpto_holds (fun _ h => by cases h) (by kernel_rfl) (fun _ h => by cases h) headBodiesUpto_row_tie rfl ⟨rfl, rfl⟩ (by kernel_rfl) rfl
    (fun f fn hf hfn => by
      obtain rfl : f = 3 := Option.some.inj ((show Tryz.prog.funcNamed "cloister/cloisterlaw07.HeadBodies" = some 3 by kernel_rfl).symm.trans hf) |>.symm
      obtain rfl : fn = Tryz.f3 := (Option.some.inj (Tryz.func3.symm.trans hfn)).symm
      exact ⟨by kernel_rfl, fun j t ht => by
        have hm : t ∈ Tryz.f3.params.toList := by simpa using Array.mem_of_getElem? ht
        have hall : (Tryz.f3.params.toList.all fun u => !Tryz.prog.wantsStandIn u) = true := by kernel_rfl
        exact (show Tryz.prog.wantsStandIn t = false by simpa using List.all_eq_true.1 hall t hm)⟩)
    (by kernel_rfl)
end Go.Proofs.YtffcgpkbibijpaaGreatDoor
#print axioms Go.Proofs.YtffcgpkbibijpaaGreatDoor.headBodiesUptoCard_holds
