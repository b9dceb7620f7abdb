/- The row ParseAll in its second form (arguments of bulk at most 1048576): all requests of any bytes, and the status by which they break; its tied card. -/
import Derived.Test.YtffcgpkbibijpaaGreatDoorQc5
import Derived.Test.YtffcgpkbibijpaaGreatDoorQc6
import Derived.Test.YtffcgpkbibijpaaGreatDoorRows
import Derived.Test.YtffcgpkbibijpaaGreatDoorCards
import Derived.Test.YtffcgpkbibijpaaGreatDoorTie
import Derived.SevenTiedAt
set_option linter.unusedVariables false
set_option linter.unusedSimpArgs false
namespace Go.Proofs.YtffcgpkbibijpaaGreatDoor.L
open Go Go.RowKit Go.Proofs Go.ChangeShapes Go.WideShapes Go.ChangeAt
set_option linter.unusedVariables false
set_option maxRecDepth 100000
attribute [local irreducible] AL QL AWp Thn InB RetQ ACalls LoopQ
theorem parseAll_met (os : Os) (args : Array Value) : laidMet Tryz.prog Rows.parseAllUptoRow.laid ((World.laidAll Tryz.prog os Rows.parseAllUptoRow.laid).forCall (fun _ _ => 0) ⟨#[], args, []⟩).memory := laidMet_laidAll _ (by kernel_rfl) (by kernel_rfl)
theorem parseAll_reads (os : Os) {H : Type} (enc : TypeId × Value → H) : ∃ places, DataW.whole enc Tryz.prog ((World.laidAll Tryz.prog os Rows.parseAllUptoRow.laid).forCall (fun _ _ => 0) ⟨#[], #[.string ⟨#[]⟩], []⟩).memory Tryz.f4.params.toList Rows.parseAllSpec.vars false (#[.string ⟨#[]⟩]).toList 8 = some ([.lit (.string [])], [], places) :=
  ⟨[], by kernel_rfl⟩
theorem parseAll_lifted (os : Os) (started : os.Started) (H : Type) (enc : TypeId × Value → H) (F : Stop.Interp) :
    ReturnsInHanded {} Tryz.checked os 4 .any ((Rows.OpenSpec.upto Rows.parseAllSpec).preRow enc Tryz.prog Tryz.f4 Rows.parseAllUptoRow.domain false Rows.parseAllUptoRow.laid) (((Rows.OpenSpec.upto Rows.parseAllSpec).at F).post enc Tryz.prog Tryz.f4 false true false false) := by
  obtain ⟨places, hx⟩ := parseAll_reads os enc
  refine returnsInHanded_of_row (C := Tryz.checked) (s := (Rows.OpenSpec.upto Rows.parseAllSpec)) rowOwn started (by kernel_rfl) Tryz.func4
    (witness_row_at (enc := enc) (C := Tryz.checked) false (World.laidAll Tryz.prog os Rows.parseAllUptoRow.laid) #[.string ⟨#[]⟩] (World.laidAll_os _ _ _) (by kernel_rfl) (by kernel_rfl) (by kernel_rfl)
      (OpenSpec.preRow_of_cond 8 hx (by kernel_rfl) (fun k hk => by cases hk; kernel_rfl) (by kernel_rfl) (parseAll_met os _))) ?_
  intro W base args ds gs before hval hW _ hcond hsz hL hsh _
  have hG := glob_of hsh
  refine law_callsB (P := Tryz.prog) (n := 8) (aks := [.one .str]) rowLaid (by kernel_rfl) rfl Tryz.underlying4 rfl (by kernel_rfl) (fun ds h => ?_) (fun xs h hb => ?_) hval hW hsz (hcond _ rfl)
  · match ds, h with
    | [_], _ => rfl
  · cases h with | one h1 r =>
      cases r
      cases h1 with | str s hs => exact s_lawAll hG (by have hb2 := Nat.le_trans hb (show _ ≤ 1048580 by decide); simp only [cellsB, avB] at hb2; omega)
theorem parseAll_over : Rows.ParseAllUptoSaid :=
  OpenClaim.holds_of_cond 4 Tryz.f4 rfl rfl rfl rfl rfl rfl rfl ⟨rfl, rfl, rfl, rfl, rfl⟩ rfl rfl rfl rfl rfl (by kernel_rfl) Tryz.func4 (by kernel_rfl)
    (of_decide_eq_true (by kernel_rfl)) (by unfold Func.isWrapper; first | (rw [if_pos (by decide +kernel)]; kernel_rfl) | (rw [if_neg (by decide +kernel)]; exact ⟨rfl, rfl⟩))
    (fun os started H enc _ F => by rw [OpenClaim.pre_eq_preRow]; exact parseAll_lifted os started H enc F)
end Go.Proofs.YtffcgpkbibijpaaGreatDoor.L
namespace Go.Proofs.YtffcgpkbibijpaaGreatDoor
/-- The row. -/
theorem parseAllUpto_holds : Rows.ParseAllUptoSaid := L.parseAll_over
/-- Its tied card. -/
theorem parseAllUptoCard_holds : Rows.ParseAllUptoCardSaid :=
  Claim7.holds_tied_plain_at .later [] _ _ _ _ parseAllUpto_holds (fun _ h => by cases h) (by kernel_rfl) (fun _ h => by cases h) parseAllUpto_row_tie rfl ⟨rfl, rfl⟩ (by kernel_rfl) rfl
    (fun f fn hf hfn => by
      obtain rfl : f = 4 := Option.some.inj ((show Tryz.prog.funcNamed "cloister/cloisterlaw08.ParseAll" = some 4 by kernel_rfl).symm.trans hf) |>.symm
      obtain rfl : fn = Tryz.f4 := (Option.some.inj (Tryz.func4.symm.trans hfn)).symm
      exact ⟨by kernel_rfl, fun j t ht => by
        have hm : t ∈ Tryz.f4.params.toList := by simpa using Array.mem_of_getElem? ht
        have hall : (Tryz.f4.params.toList.all fun u => !Tryz.prog.wantsStandIn u) = true := by kernel_rfl
        exact (show Tryz.prog.wantsStandIn t = false by simpa using List.all_eq_true.1 hall t hm)⟩)
    (by kernel_rfl)
end Go.Proofs.YtffcgpkbibijpaaGreatDoor
#print axioms Go.Proofs.YtffcgpkbibijpaaGreatDoor.parseAllUptoCard_holds
