/- The row MeterFair. -/
import Derived.Test.YtibmabidjacjlaaFb
import Derived.Test.YtibmabidjacjlaaMc
namespace Go.Proofs.Ytibmabidjacjlaa.L
open Go Go.RowKit Go.Proofs
set_option linter.unusedVariables false
set_option maxRecDepth 100000
attribute [local irreducible] AL QL AWp Thn InB RetQ ACalls LoopQ

section
variable {w0 : World} {base : Nat} {u dr co : List (List AV)} {im : List UInt8} {ro : List (List AV)} {conns asks quota fuel : Int}
theorem fair_two (n within : Int) (L l : List S4) : ∃ b e, fairR u asks fuel n within L l = [.bool b, .int .i64 e] := by
  unfold fairR
  split
  · split <;> exact ⟨_, _, rfl⟩
  · exact ⟨_, _, rfl⟩
theorem s_lawFair {within : Int} {L : List S4} (hL : L.length ≤ 140737488351232) : PCalls (EE w0 base) 5 [cfgAV u dr co im ro conns asks quota fuel, .int .i64 within, .rs (L.map stepAV)] fun rv => rv = .bool true := by
  obtain ⟨l, hl⟩ := steps_list (@units_steps u asks fuel (((L.map stepAV).length : Int).tmod 4) 1)
  obtain ⟨b, e, hb⟩ := fair_two (u := u) (asks := asks) (fuel := fuel) (((L.map stepAV).length : Int).tmod 4) within L l
  refine acalls_of Try.func5 rfl rfl rfl (.cons (.cons (.cons .nil))) ?_
  repeat' (first | (first | (refine al_call rfl rfl rfl rfl (s_fair hl hL) ?_; rintro _ rfl; rw [hb]) | (refine al_call rfl rfl rfl rfl (s_rfair hl hL) ?_; rintro _ rfl; rw [hb]) | (refine al_call rfl rfl rfl rfl s_awake ?_; rintro _ rfl)) | (refine k_al ?_; first | (refine al_v (ov_move rfl) rfl ?_) | (refine k_g ?_; first | (refine al_gy' rfl rfl (by with_reducible rfl) ?_) | (refine al_gnt rfl rfl (by with_reducible rfl) rfl ?_) | (refine al_gnf rfl rfl (by with_reducible rfl) rfl ?_) | (refine al_gnt0 rfl rfl (by with_reducible rfl) ?_) | (refine al_gnf0 rfl rfl (by with_reducible rfl) ?_) | (refine al_gu rfl rfl rfl ?_) | (refine al_gu0 rfl rfl ?_) | (refine al_gsp rfl rfl (fun hc => ?_) (fun hc => ?_) <;> (try (exfalso; omega))) | (refine al_gsb rfl rfl (fun hc => ?_) (fun hc => ?_))) | (refine al_v (ov_fieldAddr rfl rfl) rfl ?_) | (refine k_load ?_; first | (refine al_v (ov_load rfl rfl) rfl ?_) | (refine al_v (ov_load_agg rfl rfl rfl) rfl ?_)) | (refine k_bin ?_; first | (refine al_v (ov_cmp rfl rfl rfl) rfl ?_) | (refine al_v (ov_add rfl rfl (by (first | exact w64 (by omega) (by omega) | exact w8 (by omega) (by omega) | rfl))) rfl ?_) | (refine al_v (ov_sub rfl rfl (by (first | exact w64 (by omega) (by omega) | exact w8 (by omega) (by omega) | rfl))) rfl ?_) | (refine al_v (ov_mul rfl rfl (by (first | exact w64 (by omega) (by omega) | exact w8 (by omega) (by omega) | rfl))) rfl ?_) | (refine al_v (ov_rem rfl rfl (by decide) rfl) rfl ?_) | (refine al_v (ov_seq rfl rfl) rfl ?_) | (refine al_v (ov_sne rfl rfl) rfl ?_) | (refine al_v (ov_beq rfl rfl) rfl ?_) | (refine al_v (ov_bne rfl rfl) rfl ?_) | (refine al_v (ov_aeq rfl rfl (by repeat constructor) (by repeat constructor)) rfl ?_) | (refine al_v (ov_ane rfl rfl (by repeat constructor) (by repeat constructor)) rfl ?_)) | (refine k_pick ?_; first | (refine al_v (ov_pick_t' rfl (by with_reducible rfl) rfl) rfl ?_) | (refine al_v (ov_pick_f' rfl (by with_reducible rfl) rfl) rfl ?_) | (refine al_pick_p rfl (fun hc => ?_) (fun hc => ?_) <;> (try (exfalso; omega)))) | (refine al_v (ov_assign rfl) rfl ?_) | (refine k_call ?_; first | (refine al_v (ov_len_rs rfl) rfl ?_) | (refine al_v (ov_len_str rfl) rfl ?_) | (refine al_v (ov_len_nil rfl) rfl ?_) | (refine al_v (ov_len_os rfl rfl rfl) rfl ?_)) | (refine al_v (ov_extract rfl rfl) rfl ?_) | (refine al_nil ?_) | (refine al_box rfl rfl rfl (by (first | exact (rfl : _ = 0) | exact (rfl : _ = 1) | exact (rfl : _ = 2) | exact (rfl : _ = 3) | exact (rfl : _ = 4) | exact (rfl : _ = 5) | exact (rfl : _ = 6) | exact (rfl : _ = 7) | exact (rfl : _ = 8) | exact (rfl : _ = 9) | exact (rfl : _ = 10) | exact (rfl : _ = 11) | exact (rfl : _ = 12))) (by repeat constructor) rfl ?_) | (refine al_alloc rfl rfl rfl (by (first | exact (rfl : _ = 0) | exact (rfl : _ = 1) | exact (rfl : _ = 2) | exact (rfl : _ = 3) | exact (rfl : _ = 4) | exact (rfl : _ = 5) | exact (rfl : _ = 6) | exact (rfl : _ = 7) | exact (rfl : _ = 8) | exact (rfl : _ = 9) | exact (rfl : _ = 10) | exact (rfl : _ = 11) | exact (rfl : _ = 12))) (by repeat constructor) rfl ?_) | (refine al_store rfl rfl rfl rfl rfl (by repeat constructor) (by repeat constructor) ?_) | (refine al_v (ov_build rfl rfl rfl (by repeat constructor)) rfl ?_) | (refine al_buildSlice (by rfl) (by rfl) (by rfl) (by rfl) (by decide) (by decide) (by rfl) (by rfl) (by repeat constructor) (by rfl) (by repeat constructor) (by rfl) (by (first | exact (rfl : _ = 0) | exact (rfl : _ = 1) | exact (rfl : _ = 2) | exact (rfl : _ = 3) | exact (rfl : _ = 4) | exact (rfl : _ = 5) | exact (rfl : _ = 6) | exact (rfl : _ = 7) | exact (rfl : _ = 8) | exact (rfl : _ = 9) | exact (rfl : _ = 10) | exact (rfl : _ = 11) | exact (rfl : _ = 12))) (by repeat constructor) rfl ?_) | (refine al_v (ov_not_t rfl (by with_reducible rfl)) rfl ?_) | (refine al_v (ov_not_f rfl (by with_reducible rfl)) rfl ?_) | (refine al_v (ov_not_p rfl) rfl ?_) | (refine al_v (ov_not rfl rfl) rfl ?_) | (refine al_v (ov_index rfl rfl (by omega) (by omega)) rfl ?_) | (refine al_makeMap (by (first | exact (rfl : _ = 0) | exact (rfl : _ = 1) | exact (rfl : _ = 2) | exact (rfl : _ = 3) | exact (rfl : _ = 4) | exact (rfl : _ = 5) | exact (rfl : _ = 6) | exact (rfl : _ = 7) | exact (rfl : _ = 8) | exact (rfl : _ = 9) | exact (rfl : _ = 10) | exact (rfl : _ = 11) | exact (rfl : _ = 12))) (by repeat constructor) rfl ?_)) | (first | (refine thn_n ?_) | (refine k_awp ?_; first | (refine awp_seq (awp_region ?_)) | (refine awp_seq ?_) | (refine awp_region ?_) | (refine k_cond ?_; first | (refine awp_cond_t' rfl (by with_reducible rfl) ?_) | (refine awp_cond_f' rfl (by with_reducible rfl) ?_) | (refine awp_cond_p rfl (fun hc => ?_) (fun hc => ?_) <;> (try (exfalso; omega)))) | (refine awp_block ?_) | (refine awp_ret ?_) | (refine awp_skip ?_) | (refine awp_exit ?_)) | (refine thn_ret ?_) | (refine lq_exit ?_) | (refine lq_ret ?_) | (refine thn_exit ?_) | (refine inb_n ?_) | (refine inb_ret ?_) | (refine inb_here ?_) | (refine inb_out rfl ?_)))
  all_goals first | (exact absurd rfl hc) | skip
  refine ret1 (by first | exact .inr rfl | exact .inl rfl) rfl rfl ?_
  exact ⟨rfl, rfl⟩
theorem okR_steps {xs : List (List AV)} : OKR [.int .i64, .int .i64, .str, .int .i64] xs → ∃ L : List S4, xs = L.map stepAV := by
  intro h
  refine steps_list fun row hr => ?_
  obtain ⟨i, hi⟩ := List.mem_iff_getElem?.1 hr
  have := h.get i row hi
  cases this with | cons h1 r => cases h1; cases r with | cons h1 r => cases h1; cases r with | cons h1 r => cases h1; cases r with | cons h1 r => cases h1; cases r; exact ⟨_, _, _, _, rfl⟩
end

theorem fairLifted (os : Os) (started : os.Started) (H : Type) (enc : TypeId × Value → H) :
    ReturnsInHanded {} Try.checked os 5 .any (Rows.meterFairSpec.pre6 enc Try.prog Try.f5 Rows.meterFairRow.domain false) (Rows.meterFairSpec.post enc Try.prog Try.f5 false true false false) := by
  refine returnsInHanded_of_change_sized (C := Try.checked) rowOwn started (by kernel_rfl) Try.func5
    (ChangeSpec.witness6 (enc := enc) (C := Try.checked) false ⟨#[], #[.agg #[.slice none 0 0, .slice none 0 0, .slice none 0 0, .string ⟨#[]⟩, .slice none 0 0, .int .i64 0, .int .i64 0, .int .i64 0, .int .i64 0], .int .i64 0, .slice none 0 0], []⟩ 8 (by kernel_rfl) (by kernel_rfl) (by kernel_rfl) (by kernel_rfl)) ?_
  intro W base args ds gs before hval hW _ hsz _
  refine law_calls (P := Try.prog) (n := 8) (aks := [.agg cfgK, .one (.int .i64), .one (.sl [.int .i64, .int .i64, .str, .int .i64])]) rowLaid (by kernel_rfl) rfl Try.underlying4 rfl (by kernel_rfl) (fun ds h => ?_) (fun xs h => ?_) hval hW hsz
  · match ds, h with
    | [_, _, _], _ => rfl
  · cases h with | agg h r => cases r with | one h1 r => cases h1; cases r with | one h2 r => cases r; cases h2 with | sl _ _ hl h2 =>
      obtain ⟨_, _, _, _, _, _, _, _, _, rfl⟩ := okL_cfg h
      obtain ⟨L, rfl⟩ := okR_steps h2
      exact s_lawFair (by simpa using hl)
theorem meterFair_over : Rows.meterFairRow.holds Try.pinned (OpenSpec.ofChange Rows.meterFairSpec) :=
  OpenClaim.holds_of_wide 5 Try.f5 rfl rfl rfl rfl rfl rfl rfl ⟨rfl, rfl, rfl, rfl, rfl⟩ rfl rfl rfl rfl rfl (by kernel_rfl) Try.func5 (by kernel_rfl)
    (of_decide_eq_true (by kernel_rfl)) (by unfold Func.isWrapper; first | (rw [if_pos (by decide +kernel)]; kernel_rfl) | (rw [if_neg (by decide +kernel)]; exact ⟨rfl, rfl⟩))
    (fun os started H enc _ => fairLifted os started H enc)
end Go.Proofs.Ytibmabidjacjlaa.L
namespace Go.Proofs.Ytibmabidjacjlaa
/-- The row, for the claim. -/
theorem meterFair_holds : Rows.MeterFairSaid := L.meterFair_over
end Go.Proofs.Ytibmabidjacjlaa
#print axioms Go.Proofs.Ytibmabidjacjlaa.meterFair_holds
