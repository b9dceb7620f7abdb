/- The row DemuxMeters in its second form (arguments of bulk at most 1048576): no user has more than it may, and 503 is told only where a limit is reached; its tied card. -/
import Derived.Test.YtkljmljkiodnpaaGreatDoorQg7
import Derived.Test.YtkljmljkiodnpaaGreatDoorRows
import Derived.Test.YtkljmljkiodnpaaGreatDoorCards
import Derived.Test.YtkljmljkiodnpaaGreatDoorTie
import Derived.SevenTiedAt
set_option linter.unusedVariables false
set_option linter.unusedSimpArgs false
set_option maxRecDepth 100000
namespace Go.Proofs.YtkljmljkiodnpaaGreatDoor.L
open Go Go.RowKit Go.Proofs Go.ChangeShapes Go.WideShapes Go.ChangeAt
attribute [local irreducible] AL QL AWp Thn InB RetQ ACalls LoopQ
theorem a9r (os : Os) (args : Array Value) : laidMet Tryz.prog Rows.demuxMetersUptoRow.laid ((World.laidAll Tryz.prog os Rows.demuxMetersUptoRow.laid).forCall (fun _ _ => 0) ⟨#[], args, []⟩).memory := laidMet_laidAll _ (by kernel_rfl) (by kernel_rfl)
theorem a7v (os : Os) {H : Type} (enc : TypeId × Value → H) : ∃ places,DataW.whole enc Tryz.prog ((World.laidAll Tryz.prog os Rows.demuxMetersUptoRow.laid).forCall (fun _ _ => 0) ⟨#[],#[.agg #[.int .i64 0,.int .i64 0,.int .i64 0],.slice none 0 0],[]⟩).memory Tryz.f3.params.toList Rows.demuxMetersSpec.vars false (#[.agg #[.int .i64 0,.int .i64 0,.int .i64 0],.slice none 0 0]).toList 8 = some ([.agg [.lit (.int .i64 0),.lit (.int .i64 0),.lit (.int .i64 0)],.nil],[],places) :=
  ⟨[], by kernel_rfl⟩
theorem a7b (os : Os) (started : os.Started) (H : Type) (enc : TypeId × Value → H) (F : Stop.Interp) :
    ReturnsInHanded {} Tryz.checked os 3 .any ((Rows.OpenSpec.upto Rows.demuxMetersSpec).preRow enc Tryz.prog Tryz.f3 Rows.demuxMetersUptoRow.domain false Rows.demuxMetersUptoRow.laid) (((Rows.OpenSpec.upto Rows.demuxMetersSpec).at F).post enc Tryz.prog Tryz.f3 false true false false) := by
  obtain ⟨places, hx⟩ := a7v os enc
  refine returnsInHanded_of_row (C := Tryz.checked) (s := (Rows.OpenSpec.upto Rows.demuxMetersSpec)) rowOwn started (by kernel_rfl) Tryz.func3
    (witness_row_at (enc := enc) (C := Tryz.checked) false (World.laidAll Tryz.prog os Rows.demuxMetersUptoRow.laid) #[.agg #[.int .i64 0, .int .i64 0, .int .i64 0], .slice none 0 0] (World.laidAll_os _ _ _) (by kernel_rfl) (by kernel_rfl) (by kernel_rfl)
      (OpenSpec.preRow_of_cond 8 hx (by kernel_rfl) (fun k hk => by cases hk; kernel_rfl) (by kernel_rfl) (a9r os _))) ?_
  intro W base args ds gs before hval hW _ hcond hsz hL hsh _
  have hG := c4z hsh hL (by kernel_rfl) (by kernel_rfl) (by kernel_rfl)
  refine b7w (P := Tryz.prog) (n := 8) (aks := [.agg [.int .i64, .int .i64, .int .i64], .one (.sl [.int .i64, .int .i64, .int .i64, .str, .int .i64, .sl [.str, .str], .str, .bool])]) rowLaid (by kernel_rfl) rfl Tryz.underlying4 rfl (by kernel_rfl) (fun ds h => ?_) (fun xs h hb => ?_) hval hW hsz (hcond _ rfl)
  · match ds, h with
    | [_, _], _ => rfl
  · cases h with | agg h0 r => cases r with | one h1 r =>
      cases r
      obtain ⟨a, b, c, rfl⟩ := c0c h0
      cases h1 with | sl _ rows hl hb2 hr =>
        obtain ⟨l, rfl⟩ := c0b hr
        have hb3 := Nat.le_trans hb (show _ ≤ 1048580 by decide)
        simp only [cellsB, avB] at hb3
        obtain ⟨h1, h2⟩ := c5t (l := l) (by omega)
        exact b1k hG (by omega) (c2y (by omega))
theorem demuxMeters_over : Rows.DemuxMetersUptoSaid :=
  OpenClaim.holds_of_cond 3 Tryz.f3 rfl rfl rfl rfl rfl rfl rfl ⟨rfl, rfl, rfl, rfl, rfl⟩ rfl rfl rfl rfl rfl (by kernel_rfl) Tryz.func3 (by kernel_rfl)
    (of_decide_eq_true (by kernel_rfl)) (by unfold Func.isWrapper; first | (rw [if_pos (by decide +kernel)]; kernel_rfl) | (rw [if_neg (by decide +kernel)]; exact ⟨rfl, rfl⟩))
    (fun os started H enc _ F => by rw [OpenClaim.pre_eq_preRow]; exact a7b os started H enc F)
end Go.Proofs.YtkljmljkiodnpaaGreatDoor.L
namespace Go.Proofs.YtkljmljkiodnpaaGreatDoor
theorem a5z : Rows.DemuxMetersUptoSaid := L.demuxMeters_over
theorem demuxMetersUptoCard_holds : Rows.DemuxMetersUptoCardSaid :=
  Claim7.holds_tied_plain_at .later [] _ _ _ _ a5z (fun _ h => by cases h) (by kernel_rfl) (fun _ h => by cases h) demuxMetersUpto_row_tie rfl ⟨rfl, rfl⟩ (by kernel_rfl) rfl
    (fun f fn hf hfn => by
      obtain rfl : f = 3 := Option.some.inj ((show Tryz.prog.funcNamed "cloister/cloisterlaw18.DemuxMeters" = some 3 by kernel_rfl).symm.trans hf) |>.symm
      obtain rfl : fn = Tryz.f3 := (Option.some.inj (Tryz.func3.symm.trans hfn)).symm
      exact ⟨by kernel_rfl, fun j t ht => by
        have hm : t ∈ Tryz.f3.params.toList := by simpa using Array.mem_of_getElem? ht
        have hall : (Tryz.f3.params.toList.all fun u => !Tryz.prog.wantsStandIn u) = true := by kernel_rfl
        exact (show Tryz.prog.wantsStandIn t = false by simpa using List.all_eq_true.1 hall t hm)⟩)
    (by kernel_rfl)
end Go.Proofs.YtkljmljkiodnpaaGreatDoor
#print axioms Go.Proofs.YtkljmljkiodnpaaGreatDoor.demuxMetersUptoCard_holds
