/- The row ParseBehind: a request that is written behind others is read as if it stood alone: true for every input; its tied card. -/
import Derived.Test.YtffcgpkbibijpaaGreatDoorQd5
import Derived.Test.YtffcgpkbibijpaaGreatDoorQdsg
import Derived.Test.YtffcgpkbibijpaaGreatDoorRows
import Derived.Test.YtffcgpkbibijpaaGreatDoorCards
import Derived.Test.YtffcgpkbibijpaaGreatDoorTie
import Derived.SevenTiedAt
set_option linter.unusedVariables false
set_option linter.unusedSimpArgs false
namespace Go.Proofs.YtffcgpkbibijpaaGreatDoor.L
open Go Go.RowKit Go.Proofs Go.ChangeShapes Go.WideShapes Go.ChangeAt
set_option linter.unusedVariables false
set_option maxRecDepth 100000
attribute [local irreducible] AL QL AWp Thn InB RetQ ACalls LoopQ
theorem parseBehind_met (os : Os) (args : Array Value) : laidMet Tryz.prog Rows.parseBehindRow.laid ((World.laidAll Tryz.prog os Rows.parseBehindRow.laid).forCall (fun _ _ => 0) ⟨#[], args, []⟩).memory := laidMet_laidAll _ (by kernel_rfl) (by kernel_rfl)
theorem parseBehind_reads (os : Os) {H : Type} (enc : TypeId × Value → H) : ∃ places, DataW.whole enc Tryz.prog ((World.laidAll Tryz.prog os Rows.parseBehindRow.laid).forCall (fun _ _ => 0) ⟨#[], #[.agg #[.string ⟨#[]⟩, .string ⟨#[]⟩, .int .i64 0, .slice none 0 0], .agg #[.string ⟨#[]⟩, .string ⟨#[]⟩, .int .i64 0, .slice none 0 0]], []⟩).memory Tryz.f6.params.toList Rows.parseBehindSpec.vars false (#[.agg #[.string ⟨#[]⟩, .string ⟨#[]⟩, .int .i64 0, .slice none 0 0], .agg #[.string ⟨#[]⟩, .string ⟨#[]⟩, .int .i64 0, .slice none 0 0]]).toList 8 = some ([.agg [.lit (.string []), .lit (.string []), .lit (.int .i64 0), .nil], .agg [.lit (.string []), .lit (.string []), .lit (.int .i64 0), .nil]], [], places) :=
  ⟨[], by kernel_rfl⟩
theorem parseBehind_lifted (os : Os) (started : os.Started) (H : Type) (enc : TypeId × Value → H) (F : Stop.Interp) :
    ReturnsInHanded {} Tryz.checked os 6 .any ((OpenSpec.ofChange Rows.parseBehindSpec).preRow enc Tryz.prog Tryz.f6 Rows.parseBehindRow.domain false Rows.parseBehindRow.laid) (((OpenSpec.ofChange Rows.parseBehindSpec).at F).post enc Tryz.prog Tryz.f6 false true false false) := by
  obtain ⟨places, hx⟩ := parseBehind_reads os enc
  refine returnsInHanded_of_row (C := Tryz.checked) (s := (OpenSpec.ofChange Rows.parseBehindSpec)) rowOwn started (by kernel_rfl) Tryz.func6
    (witness_row_at (enc := enc) (C := Tryz.checked) false (World.laidAll Tryz.prog os Rows.parseBehindRow.laid) #[.agg #[.string ⟨#[]⟩, .string ⟨#[]⟩, .int .i64 0, .slice none 0 0], .agg #[.string ⟨#[]⟩, .string ⟨#[]⟩, .int .i64 0, .slice none 0 0]] (World.laidAll_os _ _ _) (by kernel_rfl) (by kernel_rfl) (by kernel_rfl)
      (OpenSpec.preRow_of_cond 8 hx (by kernel_rfl) (fun k hk => by cases hk) (by kernel_rfl) (parseBehind_met os _))) ?_
  intro W base args ds gs before hval hW _ hcond hsz hL hsh _
  have hG := glob_of hsh
  refine law_calls (P := Tryz.prog) (n := 8) (aks := [.agg [.str, .str, .int .i64, .sl [.str, .str]], .agg [.str, .str, .int .i64, .sl [.str, .str]]]) rowLaid (by kernel_rfl) rfl Tryz.underlying4 rfl (by kernel_rfl) (fun ds h => ?_) (fun xs h => ?_) hval hW hsz
  · match ds, h with
    | [_, _], _ => rfl
  · cases h with | agg h1 r => cases r with | agg h2 r =>
      cases r
      obtain ⟨a, ea, ha⟩ := okl_wide h1
      obtain ⟨b, eb, hb⟩ := okl_wide h2
      rw [ea, eb]
      exact s_lawBehind hG ha hb
theorem parseBehind_over : Rows.ParseBehindSaid :=
  OpenClaim.holds_of_cond 6 Tryz.f6 rfl rfl rfl rfl rfl rfl rfl ⟨rfl, rfl, rfl, rfl, rfl⟩ rfl rfl rfl rfl rfl (by kernel_rfl) Tryz.func6 (by kernel_rfl)
    (of_decide_eq_true (by kernel_rfl)) (by unfold Func.isWrapper; first | (rw [if_pos (by decide +kernel)]; kernel_rfl) | (rw [if_neg (by decide +kernel)]; exact ⟨rfl, rfl⟩))
    (fun os started H enc _ F => by rw [OpenClaim.pre_eq_preRow]; exact parseBehind_lifted os started H enc F)
end Go.Proofs.YtffcgpkbibijpaaGreatDoor.L
namespace Go.Proofs.YtffcgpkbibijpaaGreatDoor
/-- The row. -/
theorem parseBehind_holds : Rows.ParseBehindSaid := L.parseBehind_over
/-- Its tied card. -/
theorem parseBehindCard_holds : Rows.ParseBehindCardSaid :=
  Claim7.holds_tied_plain_at .later [] _ _ _ _ parseBehind_holds (fun _ h => by cases h) (by kernel_rfl) (fun _ h => by cases h) parseBehind_row_tie rfl ⟨rfl, rfl⟩ (by kernel_rfl) rfl
    (fun f fn hf hfn => by
      obtain rfl : f = 6 := Option.some.inj ((show Tryz.prog.funcNamed "cloister/cloisterlaw08.ParseBehind" = some 6 by kernel_rfl).symm.trans hf) |>.symm
      obtain rfl : fn = Tryz.f6 := (Option.some.inj (Tryz.func6.symm.trans hfn)).symm
      exact ⟨by kernel_rfl, fun j t ht => by
        have hm : t ∈ Tryz.f6.params.toList := by simpa using Array.mem_of_getElem? ht
        have hall : (Tryz.f6.params.toList.all fun u => !Tryz.prog.wantsStandIn u) = true := by kernel_rfl
        exact (show Tryz.prog.wantsStandIn t = false by simpa using List.all_eq_true.1 hall t hm)⟩)
    (by kernel_rfl)
end Go.Proofs.YtffcgpkbibijpaaGreatDoor
#print axioms Go.Proofs.YtffcgpkbibijpaaGreatDoor.parseBehindCard_holds
