/- Layer 8 (parse): the law ParseNobody: parsers that nobody made. -/
import Derived.Test.YtffcgpkbibijpaaGreatDoorQcsa
import Derived.Test.YtffcgpkbibijpaaGreatDoorQc7
set_option linter.unusedVariables false
set_option linter.unusedSimpArgs false
namespace Go.Proofs.YtffcgpkbibijpaaGreatDoor.L
open Go Go.RowKit Go.Proofs
set_option linter.unusedVariables false
set_option linter.unusedSimpArgs false
set_option maxRecDepth 100000
attribute [local irreducible] AL QL AWp Thn InB RetQ ACalls LoopQ HL HO HW HQ NoG JmpQ MidQ HF

/-- A parser of noughts. -/
abbrev zPar : AV := .rp [.bool false, .str [], .int .i64 0]
theorem req0_le : AvLe (.agg [.str [], .str [], .int .i64 0, .nilsl, .str [], .nilsl, .str [], .bool false]) (.agg (rqC rq0)) := .agg (.cons (.refl _) (.cons (.refl _) (.cons (.refl _) (.cons .nil (.cons (.refl _) (.cons .nil (.cons (.refl _) (.cons (.refl _) .nil))))))))
section
variable {w0 : World} {base : Nat}
theorem s_givenN {pv : AV} (h : pv = .nilp ∨ pv = zPar) : PCalls (EE w0 base) 48 [pv] fun rv => rv = .bool false := by
  refine acalls_of Tryz.func48 rfl rfl rfl (.cons .nil) ?_
  rcases h with rfl | rfl
  all_goals
    repeat' (first | (first | (refine al_v (ov_pne_nn rfl rfl) rfl ?_) | (refine al_v (ov_nilCheck (n := 0) rfl rfl) rfl ?_) | (refine al_v (ov_pne_pn rfl rfl rfl) rfl ?_)) | (refine k_al ?_; first | (refine al_v (ov_move rfl) rfl ?_) | (refine k_g ?_; first | (refine al_gy' rfl rfl (by with_reducible rfl) ?_) | (refine al_gnt rfl rfl (by with_reducible rfl) rfl ?_)) | (refine al_v (ov_fieldAddr rfl rfl) rfl ?_) | (refine k_load ?_; first | (refine al_v (ov_load rfl rfl) rfl ?_)) | (refine k_pick ?_; first | (refine al_v (ov_pick_t' rfl (by with_reducible rfl) rfl) rfl ?_) | (refine al_v (ov_pick_f' rfl (by with_reducible rfl) rfl) rfl ?_)) | (refine al_v (ov_assign rfl) rfl ?_) | (refine al_nil ?_)) | (first | (refine thn_n ?_) | (refine k_awp ?_; first | (refine awp_seq (awp_region ?_)) | (refine awp_seq ?_) | (refine awp_region ?_) | (refine awp_ret ?_))))
    refine ret1 (by first | exact .inr rfl | exact .inl rfl) rfl rfl ?_
    exact ⟨rfl, rfl⟩
theorem s_feedN {pv : AV} {t : List UInt8} (h : pv = .nilp ∨ pv = zPar) : PCalls (EE w0 base) 22 [pv, .str t] fun rv => rv = .int .i64 1 := by
  have hg := s_givenN (w0 := w0) (base := base) h
  refine acalls_of Tryz.func22 rfl rfl rfl (.cons (.cons .nil)) ?_
  rcases h with rfl | rfl
  all_goals
    repeat' (first | ((refine k_call ?_; refine al_call rfl rfl rfl rfl hg ?_; rintro _ rfl)) | (refine k_al ?_; first | (refine al_v (ov_move rfl) rfl ?_) | (refine al_v (ov_assign rfl) rfl ?_) | (refine al_nil ?_) | (refine al_v (ov_not_f rfl (by with_reducible rfl)) rfl ?_)) | (first | (refine thn_n ?_) | (refine k_awp ?_; first | (refine awp_seq (awp_region ?_)) | (refine awp_seq ?_) | (refine awp_region ?_) | (refine k_cond ?_; first | (refine awp_cond_t' rfl (by with_reducible rfl) ?_)) | (refine awp_block ?_) | (refine awp_ret ?_)) | (refine thn_ret ?_) | (refine inb_ret ?_)))
    refine ret1 (by first | exact .inr rfl | exact .inl rfl) rfl rfl ?_
    exact ⟨rfl, rfl⟩
theorem s_leftN {pv : AV} (h : pv = .nilp ∨ pv = zPar) : PCalls (EE w0 base) 29 [pv] fun rv => rv = .int .i64 0 := by
  have hg := s_givenN (w0 := w0) (base := base) h
  refine acalls_of Tryz.func29 rfl rfl rfl (.cons .nil) ?_
  rcases h with rfl | rfl
  all_goals
    repeat' (first | ((refine k_call ?_; refine al_call rfl rfl rfl rfl hg ?_; rintro _ rfl)) | (refine k_al ?_; first | (refine al_v (ov_move rfl) rfl ?_) | (refine al_v (ov_assign rfl) rfl ?_) | (refine al_nil ?_) | (refine al_v (ov_not_f rfl (by with_reducible rfl)) rfl ?_)) | (first | (refine thn_n ?_) | (refine k_awp ?_; first | (refine awp_seq (awp_region ?_)) | (refine awp_seq ?_) | (refine awp_region ?_) | (refine k_cond ?_; first | (refine awp_cond_t' rfl (by with_reducible rfl) ?_)) | (refine awp_ret ?_)) | (refine thn_ret ?_)))
    refine ret1 (by first | exact .inr rfl | exact .inl rfl) rfl rfl ?_
    exact ⟨rfl, rfl⟩
theorem s_brokenN {pv : AV} (h : pv = .nilp ∨ pv = zPar) : PCalls (EE w0 base) 30 [pv] fun rv => rv = .int .i64 0 := by
  have hg := s_givenN (w0 := w0) (base := base) h
  refine acalls_of Tryz.func30 rfl rfl rfl (.cons .nil) ?_
  rcases h with rfl | rfl
  all_goals
    repeat' (first | ((refine k_call ?_; refine al_call rfl rfl rfl rfl hg ?_; rintro _ rfl)) | (refine k_al ?_; first | (refine al_v (ov_move rfl) rfl ?_) | (refine al_v (ov_assign rfl) rfl ?_) | (refine al_nil ?_) | (refine al_v (ov_not_f rfl (by with_reducible rfl)) rfl ?_)) | (first | (refine thn_n ?_) | (refine k_awp ?_; first | (refine awp_seq (awp_region ?_)) | (refine awp_seq ?_) | (refine awp_region ?_) | (refine k_cond ?_; first | (refine awp_cond_t' rfl (by with_reducible rfl) ?_)) | (refine awp_ret ?_)) | (refine thn_ret ?_)))
    refine ret1 (by first | exact .inr rfl | exact .inl rfl) rfl rfl ?_
    exact ⟨rfl, rfl⟩
theorem s_copyN {pv : AV} (h : pv = .nilp ∨ pv = zPar) : PCalls (EE w0 base) 33 [pv] fun rv => rv = .nilp := by
  have hg := s_givenN (w0 := w0) (base := base) h
  refine acalls_of Tryz.func33 rfl rfl rfl (.cons .nil) ?_
  rcases h with rfl | rfl
  all_goals
    repeat' (first | ((refine k_call ?_; refine al_call rfl rfl rfl rfl hg ?_; rintro _ rfl)) | (refine k_al ?_; first | (refine al_v (ov_move rfl) rfl ?_) | (refine al_v (ov_assign rfl) rfl ?_) | (refine al_nil ?_) | (refine al_v (ov_not_f rfl (by with_reducible rfl)) rfl ?_)) | (first | (refine thn_n ?_) | (refine k_awp ?_; first | (refine awp_seq (awp_region ?_)) | (refine awp_seq ?_) | (refine awp_region ?_) | (refine k_cond ?_; first | (refine awp_cond_t' rfl (by with_reducible rfl) ?_)) | (refine awp_ret ?_)) | (refine thn_ret ?_)))
    refine ret1 (by first | exact .inr rfl | exact .inl rfl) rfl rfl ?_
    exact ⟨rfl, rfl⟩
theorem s_nextN {pv : AV} (h : pv = .nilp ∨ pv = zPar) : PCalls (EE w0 base) 23 [pv] fun rv => rv = .tup [req0, .bool false, .int .i64 0] := by
  have hg := s_givenN (w0 := w0) (base := base) h
  have hb := s_brokenN (w0 := w0) (base := base) h
  refine acalls_of Tryz.func23 rfl rfl rfl (.cons .nil) ?_
  rcases h with rfl | rfl
  all_goals
    repeat' (first | (first | (refine k_call ?_; refine al_call rfl rfl rfl rfl hg ?_; rintro _ rfl) | (refine k_call ?_; refine al_call rfl rfl rfl rfl hb ?_; rintro _ rfl)) | (refine k_al ?_; first | (refine al_v (ov_move rfl) rfl ?_) | (refine k_g ?_; first | (refine al_gnf rfl rfl (by with_reducible rfl) rfl ?_)) | (refine k_pick ?_; first | (refine al_v (ov_pick_t' rfl (by with_reducible rfl) rfl) rfl ?_)) | (refine al_v (ov_assign rfl) rfl ?_) | (refine al_nil ?_) | (refine al_alloc rfl rfl rfl (by first | exact ln0) (by repeat constructor) rfl ?_) | (refine al_store rfl rfl rfl rfl rfl (by repeat constructor) (by repeat constructor) ?_) | (refine al_v (ov_build rfl rfl rfl (by repeat constructor)) rfl ?_) | (refine al_v (ov_not_f rfl (by with_reducible rfl)) rfl ?_)) | (first | (refine thn_n ?_) | (refine k_awp ?_; first | (refine awp_seq (awp_region ?_)) | (refine awp_seq ?_) | (refine awp_region ?_) | (refine k_cond ?_; first | (refine awp_cond_t' rfl (by with_reducible rfl) ?_)) | (refine awp_ret ?_)) | (refine thn_ret ?_)))
    refine retq_wkn (.boxLe (id := 0) [.str [], .str [], .int .i64 0, .rs [], .str [], .rs [], .str [], .bool false] rfl (.cons (.refl _) (.cons (.refl _) (.cons (.refl _) (.cons .nil (.cons (.refl _) (.cons .nil (.cons (.refl _) (.cons (.refl _) .nil)))))))) rfl) ?_
    refine retc2 (by first | exact .inr rfl | exact .inl rfl) rfl rfl rfl rfl rfl rfl ?_
    exact ⟨rfl, rfl⟩
set_option maxHeartbeats 4000000 in
theorem s_lawNobody {s : List UInt8} (hG : Glob w0 base) : PCalls (EE w0 base) 11 [.str s] fun rv => rv = .bool true := by
  have hW := s_awake8 (w0 := w0) (base := base) hG
  have hS := s_sameRq (w0 := w0) (base := base) (x := rq0) (y := rq0) ⟨by decide, by decide⟩ ⟨by decide, by decide⟩
  rw [rqSame_self] at hS
  have hN1 := s_nextN (w0 := w0) (base := base) (.inl rfl)
  have hN2 := s_nextN (w0 := w0) (base := base) (.inr rfl)
  have hF1 := s_feedN (w0 := w0) (base := base) (t := s) (.inl rfl)
  have hF2 := s_feedN (w0 := w0) (base := base) (t := s) (.inr rfl)
  have hL1 := s_leftN (w0 := w0) (base := base) (.inl rfl)
  have hL2 := s_leftN (w0 := w0) (base := base) (.inr rfl)
  have hB1 := s_brokenN (w0 := w0) (base := base) (.inl rfl)
  have hB2 := s_brokenN (w0 := w0) (base := base) (.inr rfl)
  have hC1 := s_copyN (w0 := w0) (base := base) (.inl rfl)
  have hC2 := s_copyN (w0 := w0) (base := base) (.inr rfl)
  refine acalls_of Tryz.func11 rfl rfl rfl (.cons .nil) ?_
  repeat' (first | ((refine al_wkn (.boxRp 10 rfl (by repeat constructor) rfl) ?_)) | (refine k_al ?_; first | (refine al_v (ov_move rfl) rfl ?_) | (refine k_g ?_; first | (refine al_gy' rfl rfl (by with_reducible rfl) ?_) | (refine al_gsp rfl rfl (fun hc => ?_) (fun hc => ?_) <;> (try (exfalso; omega)))) | (refine k_load ?_; first | (refine al_v (ov_load rfl rfl) rfl ?_) | (refine al_v (ov_load_agg rfl rfl rfl) rfl ?_)) | (refine k_bin ?_; first | (refine al_v (ov_cmp rfl rfl rfl) rfl ?_) | (refine al_v (ov_add rfl rfl (by (first | exact w64 (by omega) (by omega) | rfl))) rfl ?_)) | (refine k_pick ?_; first | (refine al_v (ov_pick_f' rfl (by with_reducible rfl) rfl) rfl ?_)) | (refine al_v (ov_assign rfl) rfl ?_) | (refine k_call ?_; first | (refine al_v (ov_len_os rfl rfl rfl) rfl ?_)) | (refine al_v (ov_extract rfl rfl) rfl ?_) | (refine al_nil ?_) | (refine al_box rfl rfl rfl (by first | exact ln0 | exact ln1 | exact ln2) (by repeat constructor) rfl ?_) | (refine al_alloc rfl rfl rfl (by first | exact ln0 | exact ln1 | exact ln2) (by repeat constructor) rfl ?_) | (refine al_store rfl rfl rfl rfl rfl (by repeat constructor) (by repeat constructor) ?_) | (refine al_v (ov_build rfl rfl rfl (by repeat constructor)) rfl ?_) | (refine al_buildSlice (by rfl) (by rfl) (by rfl) (by rfl) (by decide) (by decide) (by rfl) (by rfl) (by repeat constructor) (by rfl) (by repeat constructor) (by rfl) (by first | exact ln0 | exact ln1 | exact ln2) (by repeat constructor) rfl ?_) | (refine al_v (ov_not_t rfl (by with_reducible rfl)) rfl ?_)) | (first | (refine thn_n ?_) | (refine k_awp ?_; first | (refine awp_seq (awp_region ?_)) | (refine awp_seq ?_) | (refine awp_region ?_) | (refine k_cond ?_; first | (refine awp_cond_f' rfl (by with_reducible rfl) ?_) | (refine awp_cond_p rfl (fun hc => ?_) (fun hc => ?_) <;> (try (exfalso; omega)))) | (refine awp_block ?_) | (refine awp_ret ?_) | (refine awp_skip ?_) | (refine awp_exit ?_)) | (refine lq_exit ?_) | (refine thn_exit ?_) | (refine inb_n ?_) | (refine inb_here ?_)))
  refine awp_loopq (fun i : Nat => ⟨[(0, .str s), (3, .os 1 0), (4, .int .i64 i)], [.gone, .row 35 1 0 0 [[.nilp], [zPar]]]⟩) (fun i => i ≤ 2) (fun i => 2 - i) 0 (.of (.same (by repeat constructor))) (Nat.zero_le _) ?_
  intro i hi
  dsimp only
  match i, hi with
  | 0, _ =>
    repeat' (first | (first | (refine al_v (ov_indexAddr_os rfl rfl rfl rfl rfl (by decide) (by decide)) rfl ?_) | (refine k_call ?_; refine al_call rfl rfl rfl rfl hN1 ?_; rintro _ rfl) | (refine k_call ?_; refine al_call rfl rfl rfl rfl hF1 ?_; rintro _ rfl) | (refine k_call ?_; refine al_call rfl rfl rfl rfl hL1 ?_; rintro _ rfl) | (refine k_call ?_; refine al_call rfl rfl rfl rfl hB1 ?_; rintro _ rfl) | (refine k_call ?_; refine al_call rfl rfl rfl rfl hC1 ?_; rintro _ rfl) | (refine k_call ?_; refine al_wkn (.le 41 (.agg (rqC rq0)) rfl req0_le) ?_; refine al_call rfl rfl rfl rfl hS ?_; rintro _ rfl) | (refine al_v (ov_pne_nn rfl rfl) rfl ?_)) | (refine k_al ?_; first | (refine al_v (ov_move rfl) rfl ?_) | (refine k_g ?_; first | (refine al_gy' rfl rfl (by with_reducible rfl) ?_) | (refine al_gsp rfl rfl (fun hc => ?_) (fun hc => ?_) <;> (try (exfalso; omega)))) | (refine k_load ?_; first | (refine al_v (ov_load rfl rfl) rfl ?_) | (refine al_v (ov_load_agg rfl rfl rfl) rfl ?_)) | (refine k_bin ?_; first | (refine al_v (ov_cmp rfl rfl rfl) rfl ?_) | (refine al_v (ov_add rfl rfl (by (first | exact w64 (by omega) (by omega) | rfl))) rfl ?_)) | (refine k_pick ?_; first | (refine al_v (ov_pick_f' rfl (by with_reducible rfl) rfl) rfl ?_)) | (refine al_v (ov_assign rfl) rfl ?_) | (refine k_call ?_; first | (refine al_v (ov_len_os rfl rfl rfl) rfl ?_)) | (refine al_v (ov_extract rfl rfl) rfl ?_) | (refine al_nil ?_) | (refine al_box rfl rfl rfl (by first | exact ln0 | exact ln1 | exact ln2) (by repeat constructor) rfl ?_) | (refine al_alloc rfl rfl rfl (by first | exact ln0 | exact ln1 | exact ln2) (by repeat constructor) rfl ?_) | (refine al_store rfl rfl rfl rfl rfl (by repeat constructor) (by repeat constructor) ?_) | (refine al_v (ov_build rfl rfl rfl (by repeat constructor)) rfl ?_) | (refine al_buildSlice (by rfl) (by rfl) (by rfl) (by rfl) (by decide) (by decide) (by rfl) (by rfl) (by repeat constructor) (by rfl) (by repeat constructor) (by rfl) (by first | exact ln0 | exact ln1 | exact ln2) (by repeat constructor) rfl ?_) | (refine al_v (ov_not_t rfl (by with_reducible rfl)) rfl ?_)) | (first | (refine thn_n ?_) | (refine k_awp ?_; first | (refine awp_seq (awp_region ?_)) | (refine awp_seq ?_) | (refine awp_region ?_) | (refine k_cond ?_; first | (refine awp_cond_f' rfl (by with_reducible rfl) ?_) | (refine awp_cond_p rfl (fun hc => ?_) (fun hc => ?_) <;> (try (exfalso; omega)))) | (refine awp_block ?_) | (refine awp_ret ?_) | (refine awp_skip ?_) | (refine awp_exit ?_)) | (refine lq_exit ?_) | (refine thn_exit ?_) | (refine inb_n ?_) | (refine inb_here ?_)))
    all_goals first
      | (rename_i hc; exact absurd (by decide) hc)
      | (first | refine lq_back 1 (.of (.same (by repeat constructor))) ?_ ?_ | refine lq_back 1 (.of (wk_drop [_] rfl (by repeat constructor) rfl (by repeat constructor) rfl)) ?_ ?_ | refine lq_back 1 (.of (wk_drop [_, _] rfl (by repeat constructor) rfl (by repeat constructor) rfl)) ?_ ?_ | refine lq_back 1 (.of (wk_drop [_, _, _] rfl (by repeat constructor) rfl (by repeat constructor) rfl)) ?_ ?_
         · decide
         · decide)
  | 1, _ =>
    repeat' (first | (first | (refine al_v (ov_indexAddr_os rfl rfl rfl rfl rfl (by decide) (by decide)) rfl ?_) | (refine k_call ?_; refine al_call rfl rfl rfl rfl hN2 ?_; rintro _ rfl) | (refine k_call ?_; refine al_call rfl rfl rfl rfl hF2 ?_; rintro _ rfl) | (refine k_call ?_; refine al_call rfl rfl rfl rfl hL2 ?_; rintro _ rfl) | (refine k_call ?_; refine al_call rfl rfl rfl rfl hB2 ?_; rintro _ rfl) | (refine k_call ?_; refine al_call rfl rfl rfl rfl hC2 ?_; rintro _ rfl) | (refine k_call ?_; refine al_wkn (.le 41 (.agg (rqC rq0)) rfl req0_le) ?_; refine al_call rfl rfl rfl rfl hS ?_; rintro _ rfl) | (refine al_v (ov_pne_nn rfl rfl) rfl ?_)) | (refine k_al ?_; first | (refine al_v (ov_move rfl) rfl ?_) | (refine k_g ?_; first | (refine al_gy' rfl rfl (by with_reducible rfl) ?_) | (refine al_gsp rfl rfl (fun hc => ?_) (fun hc => ?_) <;> (try (exfalso; omega)))) | (refine k_load ?_; first | (refine al_v (ov_load rfl rfl) rfl ?_) | (refine al_v (ov_load_agg rfl rfl rfl) rfl ?_)) | (refine k_bin ?_; first | (refine al_v (ov_cmp rfl rfl rfl) rfl ?_) | (refine al_v (ov_add rfl rfl (by (first | exact w64 (by omega) (by omega) | rfl))) rfl ?_)) | (refine k_pick ?_; first | (refine al_v (ov_pick_f' rfl (by with_reducible rfl) rfl) rfl ?_)) | (refine al_v (ov_assign rfl) rfl ?_) | (refine k_call ?_; first | (refine al_v (ov_len_os rfl rfl rfl) rfl ?_)) | (refine al_v (ov_extract rfl rfl) rfl ?_) | (refine al_nil ?_) | (refine al_box rfl rfl rfl (by first | exact ln0 | exact ln1 | exact ln2) (by repeat constructor) rfl ?_) | (refine al_alloc rfl rfl rfl (by first | exact ln0 | exact ln1 | exact ln2) (by repeat constructor) rfl ?_) | (refine al_store rfl rfl rfl rfl rfl (by repeat constructor) (by repeat constructor) ?_) | (refine al_v (ov_build rfl rfl rfl (by repeat constructor)) rfl ?_) | (refine al_buildSlice (by rfl) (by rfl) (by rfl) (by rfl) (by decide) (by decide) (by rfl) (by rfl) (by repeat constructor) (by rfl) (by repeat constructor) (by rfl) (by first | exact ln0 | exact ln1 | exact ln2) (by repeat constructor) rfl ?_) | (refine al_v (ov_not_t rfl (by with_reducible rfl)) rfl ?_)) | (first | (refine thn_n ?_) | (refine k_awp ?_; first | (refine awp_seq (awp_region ?_)) | (refine awp_seq ?_) | (refine awp_region ?_) | (refine k_cond ?_; first | (refine awp_cond_f' rfl (by with_reducible rfl) ?_) | (refine awp_cond_p rfl (fun hc => ?_) (fun hc => ?_) <;> (try (exfalso; omega)))) | (refine awp_block ?_) | (refine awp_ret ?_) | (refine awp_skip ?_) | (refine awp_exit ?_)) | (refine lq_exit ?_) | (refine thn_exit ?_) | (refine inb_n ?_) | (refine inb_here ?_)))
    all_goals first
      | (rename_i hc; exact absurd (by decide) hc)
      | (first | refine lq_back 2 (.of (.same (by repeat constructor))) ?_ ?_ | refine lq_back 2 (.of (wk_drop [_] rfl (by repeat constructor) rfl (by repeat constructor) rfl)) ?_ ?_ | refine lq_back 2 (.of (wk_drop [_, _] rfl (by repeat constructor) rfl (by repeat constructor) rfl)) ?_ ?_ | refine lq_back 2 (.of (wk_drop [_, _, _] rfl (by repeat constructor) rfl (by repeat constructor) rfl)) ?_ ?_
         · decide
         · decide)
  | 2, _ =>
    repeat' (first | ((refine k_call ?_; refine al_call rfl rfl rfl rfl hW ?_; rintro _ rfl)) | (refine k_al ?_; first | (refine al_v (ov_move rfl) rfl ?_) | (refine k_g ?_; first | (refine al_gy' rfl rfl (by with_reducible rfl) ?_) | (refine al_gsp rfl rfl (fun hc => ?_) (fun hc => ?_) <;> (try (exfalso; omega)))) | (refine k_load ?_; first | (refine al_v (ov_load rfl rfl) rfl ?_) | (refine al_v (ov_load_agg rfl rfl rfl) rfl ?_)) | (refine k_bin ?_; first | (refine al_v (ov_cmp rfl rfl rfl) rfl ?_) | (refine al_v (ov_add rfl rfl (by (first | exact w64 (by omega) (by omega) | rfl))) rfl ?_)) | (refine k_pick ?_; first | (refine al_v (ov_pick_f' rfl (by with_reducible rfl) rfl) rfl ?_)) | (refine al_v (ov_assign rfl) rfl ?_) | (refine k_call ?_; first | (refine al_v (ov_len_os rfl rfl rfl) rfl ?_)) | (refine al_v (ov_extract rfl rfl) rfl ?_) | (refine al_nil ?_) | (refine al_box rfl rfl rfl (by first | exact ln0 | exact ln1 | exact ln2) (by repeat constructor) rfl ?_) | (refine al_alloc rfl rfl rfl (by first | exact ln0 | exact ln1 | exact ln2) (by repeat constructor) rfl ?_) | (refine al_store rfl rfl rfl rfl rfl (by repeat constructor) (by repeat constructor) ?_) | (refine al_v (ov_build rfl rfl rfl (by repeat constructor)) rfl ?_) | (refine al_buildSlice (by rfl) (by rfl) (by rfl) (by rfl) (by decide) (by decide) (by rfl) (by rfl) (by repeat constructor) (by rfl) (by repeat constructor) (by rfl) (by first | exact ln0 | exact ln1 | exact ln2) (by repeat constructor) rfl ?_) | (refine al_v (ov_not_t rfl (by with_reducible rfl)) rfl ?_)) | (first | (refine thn_n ?_) | (refine k_awp ?_; first | (refine awp_seq (awp_region ?_)) | (refine awp_seq ?_) | (refine awp_region ?_) | (refine k_cond ?_; first | (refine awp_cond_f' rfl (by with_reducible rfl) ?_) | (refine awp_cond_p rfl (fun hc => ?_) (fun hc => ?_) <;> (try (exfalso; omega)))) | (refine awp_block ?_) | (refine awp_ret ?_) | (refine awp_skip ?_) | (refine awp_exit ?_)) | (refine lq_exit ?_) | (refine thn_exit ?_) | (refine inb_n ?_) | (refine inb_here ?_)))
    all_goals first
      | (rename_i hc; exact absurd hc (by decide))
      | (refine ret1 (by first | exact .inr rfl | exact .inl rfl) rfl rfl ?_
         exact ⟨rfl, rfl⟩)
end
end Go.Proofs.YtffcgpkbibijpaaGreatDoor.L
