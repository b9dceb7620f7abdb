/- The row HeadPrints in its second form (arguments of bulk at most 1048576): any head's bytes, and the values of its fields: true for every such input; its tied card. -/
import Derived.Test.YtffcgpkbibijpaaDoorQh4
import Derived.Test.YtffcgpkbibijpaaDoorQh5
import Derived.Test.YtffcgpkbibijpaaDoorRows
import Derived.Test.YtffcgpkbibijpaaDoorCards
import Derived.Test.YtffcgpkbibijpaaDoorTie
import Derived.SevenTiedAt
set_option linter.unusedVariables false
set_option linter.unusedSimpArgs false
namespace Go.Proofs.YtffcgpkbibijpaaDoor.L
open Go Go.RowKit Go.Proofs Go.ChangeShapes Go.WideShapes Go.ChangeAt
set_option linter.unusedVariables false
set_option maxRecDepth 100000
attribute [local irreducible] AL QL AWp Thn InB RetQ ACalls LoopQ
theorem headPrints_met (os : Os) (args : Array Value) : laidMet Tryd.prog Rows.headPrintsUptoRow.laid ((World.laidAll Tryd.prog os Rows.headPrintsUptoRow.laid).forCall (fun _ _ => 0) ⟨#[], args, []⟩).memory := laidMet_laidAll _ (by kernel_rfl) (by kernel_rfl)
theorem headPrints_reads (os : Os) {H : Type} (enc : TypeId × Value → H) : ∃ places, DataW.whole enc Tryd.prog ((World.laidAll Tryd.prog os Rows.headPrintsUptoRow.laid).forCall (fun _ _ => 0) ⟨#[], #[.agg #[.string ⟨#[]⟩, .string ⟨#[]⟩, .int .i64 0, .slice none 0 0], .string ⟨#[]⟩], []⟩).memory Tryd.f5.params.toList Rows.headPrintsSpec.vars false (#[.agg #[.string ⟨#[]⟩, .string ⟨#[]⟩, .int .i64 0, .slice none 0 0], .string ⟨#[]⟩]).toList 8 = some ([.agg [.lit (.string []), .lit (.string []), .lit (.int .i64 0), .nil], .lit (.string [])], [], places) :=
  ⟨[], by kernel_rfl⟩
theorem headPrints_lifted (os : Os) (started : os.Started) (H : Type) (enc : TypeId × Value → H) (F : Stop.Interp) :
    ReturnsInHanded {} Tryd.checked os 5 .any ((Rows.OpenSpec.upto Rows.headPrintsSpec).preRow enc Tryd.prog Tryd.f5 Rows.headPrintsUptoRow.domain false Rows.headPrintsUptoRow.laid) (((Rows.OpenSpec.upto Rows.headPrintsSpec).at F).post enc Tryd.prog Tryd.f5 false true false false) := by
  obtain ⟨places, hx⟩ := headPrints_reads os enc
  refine returnsInHanded_of_row (C := Tryd.checked) (s := (Rows.OpenSpec.upto Rows.headPrintsSpec)) rowOwn started (by kernel_rfl) Tryd.func5
    (witness_row_at (enc := enc) (C := Tryd.checked) false (World.laidAll Tryd.prog os Rows.headPrintsUptoRow.laid) #[.agg #[.string ⟨#[]⟩, .string ⟨#[]⟩, .int .i64 0, .slice none 0 0], .string ⟨#[]⟩] (World.laidAll_os _ _ _) (by kernel_rfl) (by kernel_rfl) (by kernel_rfl)
      (OpenSpec.preRow_of_cond 8 hx (by kernel_rfl) (fun k hk => by cases hk; kernel_rfl) (by kernel_rfl) (headPrints_met os _))) ?_
  intro W base args ds gs before hval hW _ hcond hsz hL hsh _
  have hG := glob_of hsh
  refine law_callsB (P := Tryd.prog) (n := 8) (aks := [.agg [.str, .str, .int .i64, .sl [.str, .str]], .one .str]) rowLaid (by kernel_rfl) rfl Tryd.underlying4 rfl (by kernel_rfl) (fun ds h => ?_) (fun xs h hb => ?_) hval hW hsz (hcond _ rfl)
  · match ds, h with
    | [_, _], _ => rfl
  · cases h with | agg h1 r => cases r with | one h2 r =>
      cases r
      obtain ⟨hd, he, hf⟩ := okl_head h1
      rw [he] at hb ⊢
      cases h2 with | str s hs => exact s_lawPrints hG (small_of hf (Nat.le_trans hb (by decide))) (by omega)
theorem headPrints_over : Rows.HeadPrintsUptoSaid :=
  OpenClaim.holds_of_cond 5 Tryd.f5 rfl rfl rfl rfl rfl rfl rfl ⟨rfl, rfl, rfl, rfl, rfl⟩ rfl rfl rfl rfl rfl (by kernel_rfl) Tryd.func5 (by kernel_rfl)
    (of_decide_eq_true (by kernel_rfl)) (by unfold Func.isWrapper; first | (rw [if_pos (by decide +kernel)]; kernel_rfl) | (rw [if_neg (by decide +kernel)]; exact ⟨rfl, rfl⟩))
    (fun os started H enc _ F => by rw [OpenClaim.pre_eq_preRow]; exact headPrints_lifted os started H enc F)
end Go.Proofs.YtffcgpkbibijpaaDoor.L
namespace Go.Proofs.YtffcgpkbibijpaaDoor
/-- The row. -/
theorem headPrintsUpto_holds : Rows.HeadPrintsUptoSaid := L.headPrints_over
/-- Its tied card. -/
theorem headPrintsUptoCard_holds : Rows.HeadPrintsUptoCardSaid :=
  Claim7.holds_tied_plain_at .later [] _ _ _ _ headPrintsUpto_holds (fun _ h => by cases h) (by kernel_rfl) (fun _ h => by cases h) headPrintsUpto_row_tie rfl ⟨rfl, rfl⟩ (by kernel_rfl) rfl
    (fun f fn hf hfn => by
      obtain rfl : f = 5 := Option.some.inj ((show Tryd.prog.funcNamed "cloister/cloisterlaw07.HeadPrints" = some 5 by kernel_rfl).symm.trans hf) |>.symm
      obtain rfl : fn = Tryd.f5 := (Option.some.inj (Tryd.func5.symm.trans hfn)).symm
      exact ⟨by kernel_rfl, fun j t ht => by
        have hm : t ∈ Tryd.f5.params.toList := by simpa using Array.mem_of_getElem? ht
        have hall : (Tryd.f5.params.toList.all fun u => !Tryd.prog.wantsStandIn u) = true := by kernel_rfl
        exact (show Tryd.prog.wantsStandIn t = false by simpa using List.all_eq_true.1 hall t hm)⟩)
    (by kernel_rfl)
end Go.Proofs.YtffcgpkbibijpaaDoor
#print axioms Go.Proofs.YtffcgpkbibijpaaDoor.headPrintsUptoCard_holds
