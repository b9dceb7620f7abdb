/- Layer 8 (parse): the law ParseBehind. -/
import Derived.Test.YtffcgpkbibijpaaGreatDoorQdsa
import Derived.Test.YtffcgpkbibijpaaGreatDoorQdsb
import Derived.Test.YtffcgpkbibijpaaGreatDoorQdse
set_option linter.unusedVariables false
set_option linter.unusedSimpArgs false
namespace Go.Proofs.YtffcgpkbibijpaaGreatDoor.L
open Go Go.RowKit Go.Proofs
set_option linter.unusedVariables false
set_option linter.unusedSimpArgs false
set_option maxRecDepth 100000
attribute [local irreducible] AL QL AWp Thn InB RetQ ACalls LoopQ HL HO HW HQ NoG JmpQ MidQ HF

/-- A head, as memory can hold it. -/
structure Wide (h : Hd) : Prop where
  f : h.fs.length * 16 ≤ 140737488351232
  m : h.m.length ≤ 140737488351232
  t : h.t.length ≤ 140737488351232
  v : ∀ p ∈ h.fs, p.1.length ≤ 140737488351232 ∧ p.2.length ≤ 140737488351232
theorem vals_wide {h : Hd} (ht : Wide h) {name x : List UInt8} (hx : x ∈ valsOf h.fs name) : x.length ≤ 140737488351232 := by
  unfold valsOf at hx
  obtain ⟨p, hp, rfl⟩ := List.mem_map.1 hx
  exact (ht.v p ((List.mem_filter.1 hp).1)).2
theorem lines_wide {h : Hd} (ht : Wide h) : ∀ {i : Nat}, (linesOf ((h.fs.take i).map fLine)).length ≤ i * 281474976702470 := by
  intro i
  induction i with
  | zero => simp [linesOf]
  | succ i ih =>
    by_cases hi : i < h.fs.length
    · have hp := List.getElem?_eq_getElem hi
      have hv := ht.v _ (List.mem_of_getElem? hp)
      rw [fLines_next hp]
      simp only [List.length_append, List.length_cons, List.length_nil]
      omega
    · rw [List.take_of_length_le (by omega)]
      rw [List.take_of_length_le (by omega)] at ih
      exact Nat.le_trans ih (Nat.mul_le_mul_right _ (Nat.le_succ i))
section
variable {w0 : World} {base : Nat}
set_option maxHeartbeats 8000000 in
theorem s_bodyRW {h : Hd} (ht : Wide h) : PCalls (EE w0 base) 13 [hdAV h.m h.t h.v h.fs] (bodR h) := by
  have hf := ht.f
  have hV1 := s_valuesR (w0 := w0) (base := base) (m := h.m) (t := h.t) (v := h.v) (fs := h.fs) (name := cleS) (by decide) (by omega)
  have hV2 := s_valuesR (w0 := w0) (base := base) (m := h.m) (t := h.t) (v := h.v) (fs := h.fs) (name := teS) (by decide) (by omega)
  have hl1 := valsOf_len h.fs cleS
  have hm1 : ∀ x ∈ valsOf h.fs cleS, x.length ≤ 140737488351232 := fun x hx => vals_wide ht hx
  have hm2 : ∀ x ∈ valsOf h.fs teS, x.length ≤ 140737488351232 := fun x hx => vals_wide ht hx
  refine acalls_of Tryz.func13 rfl rfl rfl (.cons .nil) ?_
  unfold bodR bodyS
  revert hV1 hV2 hl1 hm1 hm2
  generalize valsOf h.fs cleS = L
  generalize valsOf h.fs teS = C
  intro hV1 hV2 hl1 hm1 hm2
  cases L with
  | nil =>
    cases C with
    | nil =>
      repeat' (first|(first|(refine awp_held (id := 1) [] [⟨0, true, [], bl 6 4⟩, ⟨2, true, [], bl 6 3⟩, ⟨1, false, [], []⟩, ⟨3, false, [], []⟩, ⟨4, true, [], bl 6 15⟩, ⟨5, true, [], bl 6 31⟩] (by kernel_rfl) (by kernel_rfl) rfl (by kernel_rfl) ?_)|(refine k_call ?_;refine al_call rfl rfl rfl rfl hV1 ?_;rintro _ rfl)|(refine k_call ?_;refine al_call rfl rfl rfl rfl hV2 ?_;rintro _ rfl)|(refine k_call ?_;refine al_v (ov_len_k 0 rfl rfl) rfl ?_))|(refine k_al ?_;first|(refine al_v (ov_move rfl) rfl ?_)|(refine k_g ?_;first|(refine al_gy' rfl rfl (by with_reducible rfl) ?_)|(refine al_gnt rfl rfl (by with_reducible rfl) rfl ?_)|(refine al_gnf rfl rfl (by with_reducible rfl) rfl ?_)|(refine al_gsp rfl rfl (fun hc => ?_) (fun hc => ?_) <;> (try (exfalso;omega))))|(refine al_v (ov_fieldAddr rfl rfl) rfl ?_)|(refine k_load ?_;first|(refine al_v (ov_load rfl rfl) rfl ?_)|(refine al_v (ov_load_agg rfl rfl rfl) rfl ?_))|(refine k_bin ?_;first|(refine al_v (ov_cmp rfl rfl rfl) rfl ?_)|(refine al_v (ov_add rfl rfl (by (first|exact w64 (by omega) (by omega)|exact w8 (by omega) (by omega)|rfl))) rfl ?_)|(refine al_v (ov_sub rfl rfl (by (first|exact w64 (by omega) (by omega)|exact w8 (by omega) (by omega)|rfl))) rfl ?_)|(refine al_v (ov_mul rfl rfl (by (first|exact w64 (by omega) (by omega)|exact w8 (by omega) (by omega)|rfl))) rfl ?_)|(refine al_v (ov_seq rfl rfl) rfl ?_)|(refine al_v (ov_sne rfl rfl) rfl ?_))|(refine k_pick ?_;first|(refine al_v (ov_pick_t' rfl (by with_reducible rfl) rfl) rfl ?_)|(refine al_v (ov_pick_f' rfl (by with_reducible rfl) rfl) rfl ?_))|(refine al_v (ov_assign rfl) rfl ?_)|(refine k_call ?_;first|(refine al_v (ov_len_str rfl) rfl ?_))|(refine al_nil ?_)|(refine al_box rfl rfl rfl (by first|exact ln0) (by repeat constructor) rfl ?_)|(refine al_v (ov_index rfl rfl (by omega) (by omega)) rfl ?_))|(first|(refine thn_n ?_)|(refine k_awp ?_;first|(refine awp_seq (awp_region ?_))|(refine awp_seq ?_)|(refine awp_region ?_)|(refine k_cond ?_;first|(refine awp_cond_t' rfl (by with_reducible rfl) ?_)|(refine awp_cond_f' rfl (by with_reducible rfl) ?_)|(refine awp_cond_p rfl (fun hc => ?_) (fun hc => ?_) <;> (try (exfalso;omega))))|(refine awp_block ?_)|(refine awp_ret ?_)|(refine awp_skip ?_)|(refine awp_exit ?_))|(refine thn_ret ?_)|(refine lq_exit ?_)|(refine lq_ret ?_)|(refine thn_exit ?_)|(refine inb_n ?_)|(refine inb_ret ?_)|(refine inb_here ?_))|(first|(refine k_hw ?_;first|(refine hw_s rfl ?_)|(refine hw_v (ov_move rfl) rfl ?_)|(refine hw_v (ov_assign rfl) rfl ?_)|(refine hw_v (ov_fieldAddr rfl rfl) rfl ?_)|(refine hw_v (ov_load rfl rfl) rfl ?_)|(refine hw_v (ov_load_agg rfl rfl rfl) rfl ?_)|(refine hw_v (ov_cmp rfl rfl rfl) rfl ?_)|(refine hw_v (ov_pick_t' rfl (by with_reducible rfl) rfl) rfl ?_)|(refine hw_v (ov_pick_f' rfl (by with_reducible rfl) rfl) rfl ?_)|(refine hw_v (ov_len_str rfl) rfl ?_)|(refine hw_v (ov_seq rfl rfl) rfl ?_)|(refine hw_v (ov_sne rfl rfl) rfl ?_)|(refine hw_v (ov_index rfl rfl (by omega) (by omega)) rfl ?_)|(refine hw_v (ov_add rfl rfl (by (first|exact w64 (by omega) (by omega)|exact w8 (by omega) (by omega)|rfl))) rfl ?_)|(refine hw_v (ov_sub rfl rfl (by (first|exact w64 (by omega) (by omega)|exact w8 (by omega) (by omega)|rfl))) rfl ?_))|(refine hl_op rfl ?_)|(refine k_ho ?_;first|(refine ho_n ?_))|(refine hl_nil ?_)|(refine hq_back ?_)))
      refine ret3 (by first | exact .inr rfl | exact .inl rfl) rfl rfl rfl rfl ?_
      exact ⟨rfl, rfl⟩
    | cons c C =>
      have hcl : (strAV (c :: C)).length = C.length + 1 := by simp [strAV]
      have hS := s_smallR (w0 := w0) (base := base) (s := c) (by have := hm2 c (by simp); omega)
      have hC : C ≠ [] ↔ 0 < C.length := List.length_pos_iff.symm
      repeat' (first|(first|(refine awp_held (id := 1) [] [⟨0, true, [], bl 6 4⟩, ⟨2, true, [], bl 6 3⟩, ⟨1, false, [], []⟩, ⟨3, false, [], []⟩, ⟨4, true, [], bl 6 15⟩, ⟨5, true, [], bl 6 31⟩] (by kernel_rfl) (by kernel_rfl) rfl (by kernel_rfl) ?_)|(refine k_call ?_;refine al_call rfl rfl rfl rfl hV1 ?_;rintro _ rfl)|(refine k_call ?_;refine al_call rfl rfl rfl rfl hV2 ?_;rintro _ rfl)|(refine k_call ?_;refine al_v (ov_len_k 0 rfl rfl) rfl ?_)|(refine k_call ?_;refine al_v (ov_len_k (C.length + 1) rfl hcl) rfl ?_)|(refine al_v (ov_indexAddr rfl rfl (by decide) rfl rfl) rfl ?_)|(refine k_call ?_;refine al_call rfl rfl rfl rfl hS ?_;rintro _ rfl))|(refine k_al ?_;first|(refine al_v (ov_move rfl) rfl ?_)|(refine k_g ?_;first|(refine al_gy' rfl rfl (by with_reducible rfl) ?_)|(refine al_gnt rfl rfl (by with_reducible rfl) rfl ?_)|(refine al_gnf rfl rfl (by with_reducible rfl) rfl ?_)|(refine al_gsp rfl rfl (fun hc => ?_) (fun hc => ?_) <;> (try (exfalso;omega))))|(refine al_v (ov_fieldAddr rfl rfl) rfl ?_)|(refine k_load ?_;first|(refine al_v (ov_load rfl rfl) rfl ?_)|(refine al_v (ov_load_agg rfl rfl rfl) rfl ?_))|(refine k_bin ?_;first|(refine al_v (ov_cmp rfl rfl rfl) rfl ?_)|(refine al_v (ov_add rfl rfl (by (first|exact w64 (by omega) (by omega)|exact w8 (by omega) (by omega)|rfl))) rfl ?_)|(refine al_v (ov_sub rfl rfl (by (first|exact w64 (by omega) (by omega)|exact w8 (by omega) (by omega)|rfl))) rfl ?_)|(refine al_v (ov_mul rfl rfl (by (first|exact w64 (by omega) (by omega)|exact w8 (by omega) (by omega)|rfl))) rfl ?_)|(refine al_v (ov_seq rfl rfl) rfl ?_)|(refine al_v (ov_sne rfl rfl) rfl ?_))|(refine k_pick ?_;first|(refine al_v (ov_pick_t' rfl (by with_reducible rfl) rfl) rfl ?_)|(refine al_v (ov_pick_f' rfl (by with_reducible rfl) rfl) rfl ?_))|(refine al_v (ov_assign rfl) rfl ?_)|(refine k_call ?_;first|(refine al_v (ov_len_str rfl) rfl ?_))|(refine al_nil ?_)|(refine al_box rfl rfl rfl (by first|exact ln0) (by repeat constructor) rfl ?_)|(refine al_v (ov_index rfl rfl (by omega) (by omega)) rfl ?_))|(first|(refine thn_n ?_)|(refine k_awp ?_;first|(refine awp_seq (awp_region ?_))|(refine awp_seq ?_)|(refine awp_region ?_)|(refine k_cond ?_;first|(refine awp_cond_t' rfl (by with_reducible rfl) ?_)|(refine awp_cond_f' rfl (by with_reducible rfl) ?_)|(refine awp_cond_p rfl (fun hc => ?_) (fun hc => ?_) <;> (try (exfalso;omega))))|(refine awp_block ?_)|(refine awp_ret ?_)|(refine awp_skip ?_)|(refine awp_exit ?_))|(refine thn_ret ?_)|(refine lq_exit ?_)|(refine lq_ret ?_)|(refine thn_exit ?_)|(refine inb_n ?_)|(refine inb_ret ?_)|(refine inb_here ?_))|(first|(refine k_hw ?_;first|(refine hw_s rfl ?_)|(refine hw_v (ov_move rfl) rfl ?_)|(refine hw_v (ov_assign rfl) rfl ?_)|(refine hw_v (ov_fieldAddr rfl rfl) rfl ?_)|(refine hw_v (ov_load rfl rfl) rfl ?_)|(refine hw_v (ov_load_agg rfl rfl rfl) rfl ?_)|(refine hw_v (ov_cmp rfl rfl rfl) rfl ?_)|(refine hw_v (ov_pick_t' rfl (by with_reducible rfl) rfl) rfl ?_)|(refine hw_v (ov_pick_f' rfl (by with_reducible rfl) rfl) rfl ?_)|(refine hw_v (ov_len_str rfl) rfl ?_)|(refine hw_v (ov_seq rfl rfl) rfl ?_)|(refine hw_v (ov_sne rfl rfl) rfl ?_)|(refine hw_v (ov_index rfl rfl (by omega) (by omega)) rfl ?_)|(refine hw_v (ov_add rfl rfl (by (first|exact w64 (by omega) (by omega)|exact w8 (by omega) (by omega)|rfl))) rfl ?_)|(refine hw_v (ov_sub rfl rfl (by (first|exact w64 (by omega) (by omega)|exact w8 (by omega) (by omega)|rfl))) rfl ?_))|(refine hl_op rfl ?_)|(refine k_ho ?_;first|(refine ho_n ?_))|(refine hl_nil ?_)|(refine hq_back ?_)))
      all_goals first
        | (exfalso; omega)
        | (refine ret3 (by first | exact .inr rfl | exact .inl rfl) rfl rfl rfl rfl ?_
           rw [bodyL, if_pos (by first | exact .inl (hC.2 (by omega)) | exact .inr (.inl ‹_›) | exact .inr (.inr ‹_›))]
           exact ⟨rfl, rfl⟩)
        | (refine ret3 (by first | exact .inr rfl | exact .inl rfl) rfl rfl rfl rfl ?_
           rw [bodyL, if_neg (by rintro (k | k | k) <;> first | (have := hC.1 k; omega) | exact ‹¬ _› k)]
           exact ⟨rfl, rfl⟩)
  | cons l L =>
    have hll : (strAV (l :: L)).length = L.length + 1 := by simp [strAV]
    simp only [List.length_cons] at hl1
    cases C with
    | cons c C =>
      have hcl : (strAV (c :: C)).length = C.length + 1 := by simp [strAV]
      repeat' (first|(first|(refine awp_held (id := 1) [] [⟨0, true, [], bl 6 4⟩, ⟨2, true, [], bl 6 3⟩, ⟨1, false, [], []⟩, ⟨3, false, [], []⟩, ⟨4, true, [], bl 6 15⟩, ⟨5, true, [], bl 6 31⟩] (by kernel_rfl) (by kernel_rfl) rfl (by kernel_rfl) ?_)|(refine k_call ?_;refine al_call rfl rfl rfl rfl hV1 ?_;rintro _ rfl)|(refine k_call ?_;refine al_call rfl rfl rfl rfl hV2 ?_;rintro _ rfl)|(refine k_call ?_;refine al_v (ov_len_k (L.length + 1) rfl hll) rfl ?_)|(refine k_call ?_;refine al_v (ov_len_k (C.length + 1) rfl hcl) rfl ?_))|(refine k_al ?_;first|(refine al_v (ov_move rfl) rfl ?_)|(refine k_g ?_;first|(refine al_gy' rfl rfl (by with_reducible rfl) ?_)|(refine al_gnt rfl rfl (by with_reducible rfl) rfl ?_)|(refine al_gnf rfl rfl (by with_reducible rfl) rfl ?_)|(refine al_gsp rfl rfl (fun hc => ?_) (fun hc => ?_) <;> (try (exfalso;omega))))|(refine al_v (ov_fieldAddr rfl rfl) rfl ?_)|(refine k_load ?_;first|(refine al_v (ov_load rfl rfl) rfl ?_)|(refine al_v (ov_load_agg rfl rfl rfl) rfl ?_))|(refine k_bin ?_;first|(refine al_v (ov_cmp rfl rfl rfl) rfl ?_)|(refine al_v (ov_add rfl rfl (by (first|exact w64 (by omega) (by omega)|exact w8 (by omega) (by omega)|rfl))) rfl ?_)|(refine al_v (ov_sub rfl rfl (by (first|exact w64 (by omega) (by omega)|exact w8 (by omega) (by omega)|rfl))) rfl ?_)|(refine al_v (ov_mul rfl rfl (by (first|exact w64 (by omega) (by omega)|exact w8 (by omega) (by omega)|rfl))) rfl ?_)|(refine al_v (ov_seq rfl rfl) rfl ?_)|(refine al_v (ov_sne rfl rfl) rfl ?_))|(refine k_pick ?_;first|(refine al_v (ov_pick_t' rfl (by with_reducible rfl) rfl) rfl ?_)|(refine al_v (ov_pick_f' rfl (by with_reducible rfl) rfl) rfl ?_))|(refine al_v (ov_assign rfl) rfl ?_)|(refine k_call ?_;first|(refine al_v (ov_len_str rfl) rfl ?_))|(refine al_nil ?_)|(refine al_box rfl rfl rfl (by first|exact ln0) (by repeat constructor) rfl ?_)|(refine al_v (ov_index rfl rfl (by omega) (by omega)) rfl ?_))|(first|(refine thn_n ?_)|(refine k_awp ?_;first|(refine awp_seq (awp_region ?_))|(refine awp_seq ?_)|(refine awp_region ?_)|(refine k_cond ?_;first|(refine awp_cond_t' rfl (by with_reducible rfl) ?_)|(refine awp_cond_f' rfl (by with_reducible rfl) ?_)|(refine awp_cond_p rfl (fun hc => ?_) (fun hc => ?_) <;> (try (exfalso;omega))))|(refine awp_block ?_)|(refine awp_ret ?_)|(refine awp_skip ?_)|(refine awp_exit ?_))|(refine thn_ret ?_)|(refine lq_exit ?_)|(refine lq_ret ?_)|(refine thn_exit ?_)|(refine inb_n ?_)|(refine inb_ret ?_)|(refine inb_here ?_))|(first|(refine k_hw ?_;first|(refine hw_s rfl ?_)|(refine hw_v (ov_move rfl) rfl ?_)|(refine hw_v (ov_assign rfl) rfl ?_)|(refine hw_v (ov_fieldAddr rfl rfl) rfl ?_)|(refine hw_v (ov_load rfl rfl) rfl ?_)|(refine hw_v (ov_load_agg rfl rfl rfl) rfl ?_)|(refine hw_v (ov_cmp rfl rfl rfl) rfl ?_)|(refine hw_v (ov_pick_t' rfl (by with_reducible rfl) rfl) rfl ?_)|(refine hw_v (ov_pick_f' rfl (by with_reducible rfl) rfl) rfl ?_)|(refine hw_v (ov_len_str rfl) rfl ?_)|(refine hw_v (ov_seq rfl rfl) rfl ?_)|(refine hw_v (ov_sne rfl rfl) rfl ?_)|(refine hw_v (ov_index rfl rfl (by omega) (by omega)) rfl ?_)|(refine hw_v (ov_add rfl rfl (by (first|exact w64 (by omega) (by omega)|exact w8 (by omega) (by omega)|rfl))) rfl ?_)|(refine hw_v (ov_sub rfl rfl (by (first|exact w64 (by omega) (by omega)|exact w8 (by omega) (by omega)|rfl))) rfl ?_))|(refine hl_op rfl ?_)|(refine k_ho ?_;first|(refine ho_n ?_))|(refine hl_nil ?_)|(refine hq_back ?_)))
      all_goals first
        | (exfalso; omega)
        | (refine ret3 (by first | exact .inr rfl | exact .inl rfl) rfl rfl rfl rfl ?_
           exact ⟨rfl, rfl⟩)
    | nil =>
      have hlb := hm1 l (by simp)
      repeat' (first|(first|(refine awp_held (id := 1) [] [⟨0, true, [], bl 6 4⟩, ⟨2, true, [], bl 6 3⟩, ⟨1, false, [], []⟩, ⟨3, false, [], []⟩, ⟨4, true, [], bl 6 15⟩, ⟨5, true, [], bl 6 31⟩] (by kernel_rfl) (by kernel_rfl) rfl (by kernel_rfl) ?_)|(refine k_call ?_;refine al_call rfl rfl rfl rfl hV1 ?_;rintro _ rfl)|(refine k_call ?_;refine al_call rfl rfl rfl rfl hV2 ?_;rintro _ rfl)|(refine k_call ?_;refine al_v (ov_len_k (L.length + 1) rfl hll) rfl ?_)|(refine k_call ?_;refine al_v (ov_len_k 0 rfl rfl) rfl ?_))|(refine k_al ?_;first|(refine al_v (ov_move rfl) rfl ?_)|(refine k_g ?_;first|(refine al_gy' rfl rfl (by with_reducible rfl) ?_)|(refine al_gnt rfl rfl (by with_reducible rfl) rfl ?_)|(refine al_gnf rfl rfl (by with_reducible rfl) rfl ?_)|(refine al_gsp rfl rfl (fun hc => ?_) (fun hc => ?_) <;> (try (exfalso;omega))))|(refine al_v (ov_fieldAddr rfl rfl) rfl ?_)|(refine k_load ?_;first|(refine al_v (ov_load rfl rfl) rfl ?_)|(refine al_v (ov_load_agg rfl rfl rfl) rfl ?_))|(refine k_bin ?_;first|(refine al_v (ov_cmp rfl rfl rfl) rfl ?_)|(refine al_v (ov_add rfl rfl (by (first|exact w64 (by omega) (by omega)|exact w8 (by omega) (by omega)|rfl))) rfl ?_)|(refine al_v (ov_sub rfl rfl (by (first|exact w64 (by omega) (by omega)|exact w8 (by omega) (by omega)|rfl))) rfl ?_)|(refine al_v (ov_mul rfl rfl (by (first|exact w64 (by omega) (by omega)|exact w8 (by omega) (by omega)|rfl))) rfl ?_)|(refine al_v (ov_seq rfl rfl) rfl ?_)|(refine al_v (ov_sne rfl rfl) rfl ?_))|(refine k_pick ?_;first|(refine al_v (ov_pick_t' rfl (by with_reducible rfl) rfl) rfl ?_)|(refine al_v (ov_pick_f' rfl (by with_reducible rfl) rfl) rfl ?_))|(refine al_v (ov_assign rfl) rfl ?_)|(refine k_call ?_;first|(refine al_v (ov_len_str rfl) rfl ?_))|(refine al_nil ?_)|(refine al_box rfl rfl rfl (by first|exact ln0) (by repeat constructor) rfl ?_)|(refine al_v (ov_index rfl rfl (by omega) (by omega)) rfl ?_))|(first|(refine thn_n ?_)|(refine k_awp ?_;first|(refine awp_seq (awp_region ?_))|(refine awp_seq ?_)|(refine awp_region ?_)|(refine k_cond ?_;first|(refine awp_cond_t' rfl (by with_reducible rfl) ?_)|(refine awp_cond_f' rfl (by with_reducible rfl) ?_)|(refine awp_cond_p rfl (fun hc => ?_) (fun hc => ?_) <;> (try (exfalso;omega))))|(refine awp_block ?_)|(refine awp_ret ?_)|(refine awp_skip ?_)|(refine awp_exit ?_))|(refine thn_ret ?_)|(refine lq_exit ?_)|(refine lq_ret ?_)|(refine thn_exit ?_)|(refine inb_n ?_)|(refine inb_ret ?_)|(refine inb_here ?_))|(first|(refine k_hw ?_;first|(refine hw_s rfl ?_)|(refine hw_v (ov_move rfl) rfl ?_)|(refine hw_v (ov_assign rfl) rfl ?_)|(refine hw_v (ov_fieldAddr rfl rfl) rfl ?_)|(refine hw_v (ov_load rfl rfl) rfl ?_)|(refine hw_v (ov_load_agg rfl rfl rfl) rfl ?_)|(refine hw_v (ov_cmp rfl rfl rfl) rfl ?_)|(refine hw_v (ov_pick_t' rfl (by with_reducible rfl) rfl) rfl ?_)|(refine hw_v (ov_pick_f' rfl (by with_reducible rfl) rfl) rfl ?_)|(refine hw_v (ov_len_str rfl) rfl ?_)|(refine hw_v (ov_seq rfl rfl) rfl ?_)|(refine hw_v (ov_sne rfl rfl) rfl ?_)|(refine hw_v (ov_index rfl rfl (by omega) (by omega)) rfl ?_)|(refine hw_v (ov_add rfl rfl (by (first|exact w64 (by omega) (by omega)|exact w8 (by omega) (by omega)|rfl))) rfl ?_)|(refine hw_v (ov_sub rfl rfl (by (first|exact w64 (by omega) (by omega)|exact w8 (by omega) (by omega)|rfl))) rfl ?_))|(refine hl_op rfl ?_)|(refine k_ho ?_;first|(refine ho_n ?_))|(refine hl_nil ?_)|(refine hq_back ?_)))
      all_goals (try (exfalso; omega))
      refine awp_loopq (fun p : Nat × Int => ⟨[(1, .op 0 0), (5, .rs (strAV (l :: L))), (7, .int .i64 p.2), (8, .int .i64 p.1)], [.box [.str h.m, .str h.t, .int .i64 h.v, .rs (h.fs.map prAV)]]⟩)
        (fun p => p.1 ≤ l.length ∧ p.1 ≤ 9 ∧ (l.take p.1).all pDigit = true ∧ p.2 = decN (l.take p.1)) (fun p => l.length - p.1) (0, 0) (.of (.same (by repeat constructor))) ⟨Nat.zero_le _, Nat.zero_le _, rfl, rfl⟩ ?_
      rintro ⟨i, n⟩ ⟨hi, hi9, hall, hn⟩
      dsimp only at hi hi9 hall hn ⊢
      have hn1 := decN_nonneg hall
      have hn2 := decN_lt hall (by rw [List.length_take]; omega)
      have hby := byteAt_eq l (i : Int)
      have hub := (bAt l (i : Int)).toNat_lt
      have hdig : pDigit (bAt l (i : Int)) = true ↔ 48 ≤ byteAt l (i : Int) ∧ byteAt l (i : Int) ≤ 57 := by
        rw [hby]; unfold pDigit; simp; omega
      by_cases hlt : i < l.length
      · have htk : l.take (i + 1) = l.take i ++ [bAt l (i : Int)] := by rw [List.take_add_one, get_bAt hlt]; rfl
        repeat' (first|(first|(refine al_v (ov_indexAddr rfl rfl (by decide) rfl rfl) rfl ?_)|(refine al_v (ov_conv_int rfl rfl) rfl ?_))|(refine k_al ?_;first|(refine al_v (ov_move rfl) rfl ?_)|(refine k_g ?_;first|(refine al_gy' rfl rfl (by with_reducible rfl) ?_)|(refine al_gnt rfl rfl (by with_reducible rfl) rfl ?_)|(refine al_gnf rfl rfl (by with_reducible rfl) rfl ?_)|(refine al_gsp rfl rfl (fun hc => ?_) (fun hc => ?_) <;> (try (exfalso;omega))))|(refine al_v (ov_fieldAddr rfl rfl) rfl ?_)|(refine k_load ?_;first|(refine al_v (ov_load rfl rfl) rfl ?_)|(refine al_v (ov_load_agg rfl rfl rfl) rfl ?_))|(refine k_bin ?_;first|(refine al_v (ov_cmp rfl rfl rfl) rfl ?_)|(refine al_v (ov_add rfl rfl (by (first|exact w64 (by omega) (by omega)|exact w8 (by omega) (by omega)|rfl))) rfl ?_)|(refine al_v (ov_sub rfl rfl (by (first|exact w64 (by omega) (by omega)|exact w8 (by omega) (by omega)|rfl))) rfl ?_)|(refine al_v (ov_mul rfl rfl (by (first|exact w64 (by omega) (by omega)|exact w8 (by omega) (by omega)|rfl))) rfl ?_)|(refine al_v (ov_seq rfl rfl) rfl ?_)|(refine al_v (ov_sne rfl rfl) rfl ?_))|(refine k_pick ?_;first|(refine al_v (ov_pick_t' rfl (by with_reducible rfl) rfl) rfl ?_)|(refine al_v (ov_pick_f' rfl (by with_reducible rfl) rfl) rfl ?_))|(refine al_v (ov_assign rfl) rfl ?_)|(refine k_call ?_;first|(refine al_v (ov_len_str rfl) rfl ?_))|(refine al_nil ?_)|(refine al_box rfl rfl rfl (by first|exact ln0) (by repeat constructor) rfl ?_)|(refine al_v (ov_index rfl rfl (by omega) (by omega)) rfl ?_))|(first|(refine thn_n ?_)|(refine k_awp ?_;first|(refine awp_seq (awp_region ?_))|(refine awp_seq ?_)|(refine awp_region ?_)|(refine k_cond ?_;first|(refine awp_cond_t' rfl (by with_reducible rfl) ?_)|(refine awp_cond_f' rfl (by with_reducible rfl) ?_)|(refine awp_cond_p rfl (fun hc => ?_) (fun hc => ?_) <;> (try (exfalso;omega))))|(refine awp_block ?_)|(refine awp_ret ?_)|(refine awp_skip ?_)|(refine awp_exit ?_))|(refine thn_ret ?_)|(refine lq_exit ?_)|(refine lq_ret ?_)|(refine thn_exit ?_)|(refine inb_n ?_)|(refine inb_ret ?_)|(refine inb_here ?_)))
        all_goals first
          | (exfalso; omega)
          | (refine ret3 (by first | exact .inr rfl | exact .inl rfl) rfl rfl rfl rfl ?_
             rw [bodyL, if_pos (by
               by_cases h9 : 9 < l.length
               · exact .inr (.inl h9)
               · refine .inr (.inr (.inl ?_))
                 exact all_bAt_not (j := i) hlt (by cases hd : pDigit (bAt l (i : Int)) with
                   | false => rfl
                   | true => have := hdig.1 hd; omega))]
             exact ⟨rfl, rfl⟩)
          | skip
        first | refine lq_back (i + 1, _) (.of (.same (by repeat constructor))) ?_ ?_ | fail
        · refine ⟨by dsimp only; omega, by dsimp only; omega, ?_, ?_⟩
          · dsimp only
            rw [htk, List.all_append, hall]
            rw [List.all_cons, List.all_nil, hdig.2 (by omega)]; rfl
          · dsimp only
            rw [htk]
            unfold decN at hn ⊢
            rw [List.foldl_append, ← hn]
            simp only [List.foldl_cons, List.foldl_nil]
            have hn3 : 0 ≤ n ∧ n < 1000000000 := by rw [hn]; exact ⟨hn1, hn2⟩
            have e1 : IntKind.i64.wrap (byteAt l (i : Int) - 48) = byteAt l (i : Int) - 48 := w64 (by omega) (by omega)
            rw [e1, hby]
            exact w64 (by omega) (by omega)
        · dsimp only; omega
      · have hil : i = l.length := by omega
        rw [hil, List.take_length] at hall hn
        repeat' (first|(first|(refine al_v (ov_indexAddr rfl rfl (by decide) rfl rfl) rfl ?_))|(refine k_al ?_;first|(refine al_v (ov_move rfl) rfl ?_)|(refine k_g ?_;first|(refine al_gy' rfl rfl (by with_reducible rfl) ?_)|(refine al_gnt rfl rfl (by with_reducible rfl) rfl ?_)|(refine al_gnf rfl rfl (by with_reducible rfl) rfl ?_)|(refine al_gsp rfl rfl (fun hc => ?_) (fun hc => ?_) <;> (try (exfalso;omega))))|(refine al_v (ov_fieldAddr rfl rfl) rfl ?_)|(refine k_load ?_;first|(refine al_v (ov_load rfl rfl) rfl ?_)|(refine al_v (ov_load_agg rfl rfl rfl) rfl ?_))|(refine k_bin ?_;first|(refine al_v (ov_cmp rfl rfl rfl) rfl ?_)|(refine al_v (ov_add rfl rfl (by (first|exact w64 (by omega) (by omega)|exact w8 (by omega) (by omega)|rfl))) rfl ?_)|(refine al_v (ov_sub rfl rfl (by (first|exact w64 (by omega) (by omega)|exact w8 (by omega) (by omega)|rfl))) rfl ?_)|(refine al_v (ov_mul rfl rfl (by (first|exact w64 (by omega) (by omega)|exact w8 (by omega) (by omega)|rfl))) rfl ?_)|(refine al_v (ov_seq rfl rfl) rfl ?_)|(refine al_v (ov_sne rfl rfl) rfl ?_))|(refine k_pick ?_;first|(refine al_v (ov_pick_t' rfl (by with_reducible rfl) rfl) rfl ?_)|(refine al_v (ov_pick_f' rfl (by with_reducible rfl) rfl) rfl ?_))|(refine al_v (ov_assign rfl) rfl ?_)|(refine k_call ?_;first|(refine al_v (ov_len_str rfl) rfl ?_))|(refine al_nil ?_)|(refine al_box rfl rfl rfl (by first|exact ln0) (by repeat constructor) rfl ?_)|(refine al_v (ov_index rfl rfl (by omega) (by omega)) rfl ?_))|(first|(refine thn_n ?_)|(refine k_awp ?_;first|(refine awp_seq (awp_region ?_))|(refine awp_seq ?_)|(refine awp_region ?_)|(refine k_cond ?_;first|(refine awp_cond_t' rfl (by with_reducible rfl) ?_)|(refine awp_cond_f' rfl (by with_reducible rfl) ?_)|(refine awp_cond_p rfl (fun hc => ?_) (fun hc => ?_) <;> (try (exfalso;omega))))|(refine awp_block ?_)|(refine awp_ret ?_)|(refine awp_skip ?_)|(refine awp_exit ?_))|(refine thn_ret ?_)|(refine lq_exit ?_)|(refine lq_ret ?_)|(refine thn_exit ?_)|(refine inb_n ?_)|(refine inb_ret ?_)|(refine inb_here ?_)))
        refine awp_loopq (fun k : Nat => ⟨[(1, .op 0 0), (5, .rs (strAV (l :: L))), (7, .int .i64 n), (9, .int .i64 k)], [.box [.str h.m, .str h.t, .int .i64 h.v, .rs (h.fs.map prAV)]]⟩) (fun k => k ≤ L.length + 1 ∧ ((l :: L).take k).all (fun x => decide (x = l)) = true ∧ (0 < k → l ≠ [])) (fun k => L.length + 1 - k) 0 (.of (.same (by repeat constructor))) ⟨Nat.zero_le _, rfl, fun h => absurd h (by decide)⟩ ?_
        rintro k ⟨hk, hal, hne⟩
        try dsimp only
        by_cases hkt : k < L.length + 1
        · obtain ⟨x, hx⟩ : ∃ x, (l :: L)[k]? = some x := ⟨_, List.getElem?_eq_getElem (by simp; omega)⟩
          have hrow := strAV_row' hx
          repeat' (first|(first|(refine ql_v (ov_indexAddr rfl rfl (by omega) hrow rfl) rfl ?_)|(refine ql_v (ov_indexAddr rfl rfl (by decide) rfl rfl) rfl ?_)|(refine k_call ?_;refine al_v (ov_len_k (L.length + 1) rfl hll) rfl ?_))|(refine k_al ?_;first|(refine al_v (ov_move rfl) rfl ?_)|(refine k_g ?_;first|(refine al_gy' rfl rfl (by with_reducible rfl) ?_)|(refine al_gnt rfl rfl (by with_reducible rfl) rfl ?_)|(refine al_gnf rfl rfl (by with_reducible rfl) rfl ?_)|(refine al_gsp rfl rfl (fun hc => ?_) (fun hc => ?_) <;> (try (exfalso;omega))))|(refine al_v (ov_fieldAddr rfl rfl) rfl ?_)|(refine k_load ?_;first|(refine al_v (ov_load rfl rfl) rfl ?_)|(refine al_v (ov_load_agg rfl rfl rfl) rfl ?_))|(refine k_bin ?_;first|(refine al_v (ov_cmp rfl rfl rfl) rfl ?_)|(refine al_v (ov_add rfl rfl (by (first|exact w64 (by omega) (by omega)|exact w8 (by omega) (by omega)|rfl))) rfl ?_)|(refine al_v (ov_sub rfl rfl (by (first|exact w64 (by omega) (by omega)|exact w8 (by omega) (by omega)|rfl))) rfl ?_)|(refine al_v (ov_mul rfl rfl (by (first|exact w64 (by omega) (by omega)|exact w8 (by omega) (by omega)|rfl))) rfl ?_)|(refine al_v (ov_seq rfl rfl) rfl ?_)|(refine al_v (ov_sne rfl rfl) rfl ?_))|(refine k_pick ?_;first|(refine al_v (ov_pick_t' rfl (by with_reducible rfl) rfl) rfl ?_)|(refine al_v (ov_pick_f' rfl (by with_reducible rfl) rfl) rfl ?_))|(refine al_v (ov_assign rfl) rfl ?_)|(refine k_call ?_;first|(refine al_v (ov_len_str rfl) rfl ?_))|(refine al_nil ?_)|(refine al_box rfl rfl rfl (by first|exact ln0) (by repeat constructor) rfl ?_)|(refine al_v (ov_index rfl rfl (by omega) (by omega)) rfl ?_))|(first|(refine thn_n ?_)|(refine k_awp ?_;first|(refine awp_seq (awp_region ?_))|(refine awp_seq ?_)|(refine awp_region ?_)|(refine k_cond ?_;first|(refine awp_cond_t' rfl (by with_reducible rfl) ?_)|(refine awp_cond_f' rfl (by with_reducible rfl) ?_)|(refine awp_cond_p rfl (fun hc => ?_) (fun hc => ?_) <;> (try (exfalso;omega))))|(refine awp_block ?_)|(refine awp_ret ?_)|(refine awp_skip ?_)|(refine awp_exit ?_))|(refine thn_ret ?_)|(refine lq_exit ?_)|(refine lq_ret ?_)|(refine thn_exit ?_)|(refine inb_n ?_)|(refine inb_ret ?_)|(refine inb_here ?_))|(refine awp_draw (by kernel_rfl) (by kernel_rfl) ?_)|(first|(refine ql_v (ov_move rfl) rfl ?_)|(refine ql_v (ov_assign rfl) rfl ?_)|(refine ql_v (ov_fieldAddr rfl rfl) rfl ?_)|(refine ql_v (ov_load rfl rfl) rfl ?_)|(refine ql_v (ov_load_agg rfl rfl rfl) rfl ?_)|(refine ql_gy rfl rfl (by with_reducible rfl) ?_)|(refine ql_gnf rfl rfl (by with_reducible rfl) rfl ?_)|(refine ql_v (ov_cmp rfl rfl rfl) rfl ?_)|(refine ql_v (ov_pick_t' rfl (by with_reducible rfl) rfl) rfl ?_)|(refine ql_v (ov_pick_f' rfl (by with_reducible rfl) rfl) rfl ?_)|(refine ql_v (ov_len_str rfl) rfl ?_)|(refine ql_v (ov_seq rfl rfl) rfl ?_)|(refine ql_v (ov_sne rfl rfl) rfl ?_)|(refine ql_v (ov_index rfl rfl (by omega) (by omega)) rfl ?_)|(refine ql_v (ov_add rfl rfl (by (first|exact w64 (by omega) (by omega)|exact w8 (by omega) (by omega)|rfl))) rfl ?_)|(refine ql_v (ov_sub rfl rfl (by (first|exact w64 (by omega) (by omega)|exact w8 (by omega) (by omega)|rfl))) rfl ?_)|(refine ql_gsp rfl rfl (fun hc => ?_) (fun hc => ?_) <;> (try (exfalso;omega)))|(refine ql_nil ?_)))
          all_goals first
            | (exfalso; omega)
            | (have hxl : x ≠ l := by assumption
               refine ret3 (by first | exact .inr rfl | exact .inl rfl) rfl rfl rfl rfl ?_
               rw [bodyL, if_pos (by
                 refine .inr (.inr (.inr ?_))
                 cases hc : (l :: L).all fun x => decide (x = l) with
                 | false => rfl
                 | true =>
                   have := List.all_eq_true.1 hc x (List.mem_of_getElem? hx)
                   exact absurd (of_decide_eq_true this) hxl)]
               exact ⟨rfl, rfl⟩)
            | (refine ret3 (by first | exact .inr rfl | exact .inl rfl) rfl rfl rfl rfl ?_
               rw [bodyL, if_pos (by
                 have he : l = [] := ‹l = _›
                 exact .inl (by rw [he]; decide))]
               exact ⟨rfl, rfl⟩)
            | (first | refine lq_back (k + 1) (.of (.same (by repeat constructor))) ?_ ?_ | fail
               · refine ⟨by omega, ?_, fun _ => ‹¬l = _›⟩
                 rw [List.take_add_one, hx, List.all_append, hal]
                 simp [Classical.not_not.1 ‹¬x ≠ l›]
               · omega)
        · rw [List.take_of_length_le (by simp; omega)] at hal
          have hln := List.length_pos_iff.2 (hne (by omega))
          repeat' (first|((refine k_call ?_;refine al_v (ov_len_k (L.length + 1) rfl hll) rfl ?_))|(refine k_al ?_;first|(refine al_v (ov_move rfl) rfl ?_)|(refine k_g ?_;first|(refine al_gy' rfl rfl (by with_reducible rfl) ?_)|(refine al_gnt rfl rfl (by with_reducible rfl) rfl ?_)|(refine al_gnf rfl rfl (by with_reducible rfl) rfl ?_)|(refine al_gsp rfl rfl (fun hc => ?_) (fun hc => ?_) <;> (try (exfalso;omega))))|(refine al_v (ov_fieldAddr rfl rfl) rfl ?_)|(refine k_load ?_;first|(refine al_v (ov_load rfl rfl) rfl ?_)|(refine al_v (ov_load_agg rfl rfl rfl) rfl ?_))|(refine k_bin ?_;first|(refine al_v (ov_cmp rfl rfl rfl) rfl ?_)|(refine al_v (ov_add rfl rfl (by (first|exact w64 (by omega) (by omega)|exact w8 (by omega) (by omega)|rfl))) rfl ?_)|(refine al_v (ov_sub rfl rfl (by (first|exact w64 (by omega) (by omega)|exact w8 (by omega) (by omega)|rfl))) rfl ?_)|(refine al_v (ov_mul rfl rfl (by (first|exact w64 (by omega) (by omega)|exact w8 (by omega) (by omega)|rfl))) rfl ?_)|(refine al_v (ov_seq rfl rfl) rfl ?_)|(refine al_v (ov_sne rfl rfl) rfl ?_))|(refine k_pick ?_;first|(refine al_v (ov_pick_t' rfl (by with_reducible rfl) rfl) rfl ?_)|(refine al_v (ov_pick_f' rfl (by with_reducible rfl) rfl) rfl ?_))|(refine al_v (ov_assign rfl) rfl ?_)|(refine k_call ?_;first|(refine al_v (ov_len_str rfl) rfl ?_))|(refine al_nil ?_)|(refine al_box rfl rfl rfl (by first|exact ln0) (by repeat constructor) rfl ?_)|(refine al_v (ov_index rfl rfl (by omega) (by omega)) rfl ?_))|(first|(refine thn_n ?_)|(refine k_awp ?_;first|(refine awp_seq (awp_region ?_))|(refine awp_seq ?_)|(refine awp_region ?_)|(refine k_cond ?_;first|(refine awp_cond_t' rfl (by with_reducible rfl) ?_)|(refine awp_cond_f' rfl (by with_reducible rfl) ?_)|(refine awp_cond_p rfl (fun hc => ?_) (fun hc => ?_) <;> (try (exfalso;omega))))|(refine awp_block ?_)|(refine awp_ret ?_)|(refine awp_skip ?_)|(refine awp_exit ?_))|(refine thn_ret ?_)|(refine lq_exit ?_)|(refine lq_ret ?_)|(refine thn_exit ?_)|(refine inb_n ?_)|(refine inb_ret ?_)|(refine inb_here ?_)))
          all_goals first
            | (exfalso; omega)
            | (refine ret3 (by first | exact .inr rfl | exact .inl rfl) rfl rfl rfl rfl ?_
               rw [bodyL, if_neg (by rintro (k | k | k | k) <;> first | omega | (rw [hall] at k; cases k) | (rw [hal] at k; cases k)), if_pos (by omega)]
               exact ⟨rfl, rfl⟩)
            | (refine ret3 (by first | exact .inr rfl | exact .inl rfl) rfl rfl rfl rfl ?_
               rw [bodyL, if_neg (by rintro (k | k | k | k) <;> first | omega | (rw [hall] at k; cases k) | (rw [hal] at k; cases k)), if_neg (by omega), ← hn]
               exact ⟨rfl, rfl⟩)
set_option maxHeartbeats 8000000 in
theorem s_printRW {h : Hd} (hw : Wide h) :
    PCalls (EE w0 base) 24 [hdAV h.m h.t h.v h.fs] (prnR h) := by
  refine acalls_of Tryz.func24 rfl rfl rfl (.cons .nil) ?_
  have hf := hw.f
  have hwm := hw.m
  have hwt := hw.t
  have hlen : (h.fs.map prAV).length = h.fs.length := List.length_map _
  have hrl := rLine_len h
  repeat' (first|(refine k_al ?_;first|(refine al_v (ov_move rfl) rfl ?_)|(refine k_g ?_;first|(refine al_gy' rfl rfl (by with_reducible rfl) ?_)|(refine al_gnt rfl rfl (by with_reducible rfl) rfl ?_)|(refine al_gnf rfl rfl (by with_reducible rfl) rfl ?_)|(refine al_gsp rfl rfl (fun hc => ?_) (fun hc => ?_) <;> (try (exfalso;omega))))|(refine al_v (ov_fieldAddr rfl rfl) rfl ?_)|(refine k_load ?_;first|(refine al_v (ov_load rfl rfl) rfl ?_)|(refine al_v (ov_load_agg rfl rfl rfl) rfl ?_))|(refine k_bin ?_;first|(refine al_v (ov_cmp rfl rfl rfl) rfl ?_)|(refine al_v (ov_cat rfl rfl (by first|omega|(simp only [List.length_append, List.length_cons, List.length_nil];omega)|(simp;omega))) rfl ?_)|(refine al_v (ov_add rfl rfl (by (first|exact w64 (by omega) (by omega)|rfl))) rfl ?_))|(refine k_pick ?_;first|(refine al_v (ov_pick_t' rfl (by with_reducible rfl) rfl) rfl ?_)|(refine al_v (ov_pick_f' rfl (by with_reducible rfl) rfl) rfl ?_))|(refine al_v (ov_assign rfl) rfl ?_)|(refine k_call ?_;first|(refine al_v (ov_len_rs rfl) rfl ?_))|(refine al_v (ov_extract rfl rfl) rfl ?_)|(refine al_nil ?_)|(refine al_box rfl rfl rfl (by first|exact ln0|exact ln1) (by repeat constructor) rfl ?_)|(refine al_alloc rfl rfl rfl (by first|exact ln0|exact ln1) (by repeat constructor) rfl ?_)|(refine al_store rfl rfl rfl rfl rfl (by repeat constructor) (by repeat constructor) ?_)|(refine al_v (ov_not_p rfl) rfl ?_))|(first|(refine thn_n ?_)|(refine k_awp ?_;first|(refine awp_seq (awp_region ?_))|(refine awp_seq ?_)|(refine awp_region ?_)|(refine k_cond ?_;first|(refine awp_cond_t' rfl (by with_reducible rfl) ?_)|(refine awp_cond_f' rfl (by with_reducible rfl) ?_)|(refine awp_cond_p rfl (fun hc => ?_) (fun hc => ?_) <;> (try (exfalso;omega))))|(refine awp_block ?_)|(refine awp_ret ?_)|(refine awp_skip ?_)|(refine awp_exit ?_))|(refine thn_ret ?_)|(refine lq_exit ?_)|(refine thn_exit ?_)|(refine inb_n ?_)|(refine inb_here ?_)))
  all_goals
    refine awp_wkn (.spell 5 (.str (rLine h ++ [13, 10])) rfl (congrArg AV.str (by rw [rLine_eq]; simp [digS, *]))) ?_
    refine awp_loopq (fun p : Nat × List UInt8 => ⟨[(1, .op 0 0), (5, .str p.2), (6, .int .i64 p.1)], [.box [.str h.m, .str h.t, .int .i64 h.v, .rs (h.fs.map prAV)]]⟩)
      (fun p => p.1 ≤ h.fs.length ∧ p.1 ≤ 33 ∧ p.2 = (rLine h ++ [13, 10]) ++ linesOf ((h.fs.take p.1).map fLine)) (fun p => h.fs.length - p.1) (0, rLine h ++ [13, 10]) (.of (.same (by repeat constructor))) ⟨Nat.zero_le _, Nat.zero_le _, by simp [linesOf]⟩ ?_
    rintro ⟨i, l⟩ ⟨hi, hi2, hl⟩
    dsimp only at hi hi2 hl ⊢
    have hll := lines_wide hw (i := i)
    have hi33 : i * 281474976702470 ≤ 33 * 281474976702470 := Nat.mul_le_mul_right _ hi2
    have hlb : l.length ≤ 9288674231182000 + 281474976702600 := by rw [hl, List.length_append, hrl]; omega
    by_cases hlt : i < h.fs.length ∧ i ≤ 32
    · obtain ⟨hlt, hlt2⟩ := hlt
      obtain ⟨p, hp⟩ : ∃ p, h.fs[i]? = some p := ⟨_, List.getElem?_eq_getElem hlt⟩
      have hrow := prAV_row hp
      have hnx := fLines_next hp
      have hpl := hw.v p (List.mem_of_getElem? hp)
      repeat' (first|((refine ql_v (ov_indexAddr rfl rfl (by omega) hrow rfl) rfl ?_))|(refine k_al ?_;first|(refine al_v (ov_move rfl) rfl ?_)|(refine k_g ?_;first|(refine al_gy' rfl rfl (by with_reducible rfl) ?_)|(refine al_gnt rfl rfl (by with_reducible rfl) rfl ?_)|(refine al_gnf rfl rfl (by with_reducible rfl) rfl ?_)|(refine al_gsp rfl rfl (fun hc => ?_) (fun hc => ?_) <;> (try (exfalso;omega))))|(refine al_v (ov_fieldAddr rfl rfl) rfl ?_)|(refine k_load ?_;first|(refine al_v (ov_load rfl rfl) rfl ?_)|(refine al_v (ov_load_agg rfl rfl rfl) rfl ?_))|(refine k_bin ?_;first|(refine al_v (ov_cmp rfl rfl rfl) rfl ?_)|(refine al_v (ov_cat rfl rfl (by first|omega|(simp only [List.length_append, List.length_cons, List.length_nil];omega)|(simp;omega))) rfl ?_)|(refine al_v (ov_add rfl rfl (by (first|exact w64 (by omega) (by omega)|rfl))) rfl ?_))|(refine k_pick ?_;first|(refine al_v (ov_pick_t' rfl (by with_reducible rfl) rfl) rfl ?_)|(refine al_v (ov_pick_f' rfl (by with_reducible rfl) rfl) rfl ?_))|(refine al_v (ov_assign rfl) rfl ?_)|(refine k_call ?_;first|(refine al_v (ov_len_rs rfl) rfl ?_))|(refine al_v (ov_extract rfl rfl) rfl ?_)|(refine al_nil ?_)|(refine al_box rfl rfl rfl (by first|exact ln0|exact ln1) (by repeat constructor) rfl ?_)|(refine al_alloc rfl rfl rfl (by first|exact ln0|exact ln1) (by repeat constructor) rfl ?_)|(refine al_store rfl rfl rfl rfl rfl (by repeat constructor) (by repeat constructor) ?_)|(refine al_v (ov_not_p rfl) rfl ?_))|(first|(refine thn_n ?_)|(refine k_awp ?_;first|(refine awp_seq (awp_region ?_))|(refine awp_seq ?_)|(refine awp_region ?_)|(refine k_cond ?_;first|(refine awp_cond_t' rfl (by with_reducible rfl) ?_)|(refine awp_cond_f' rfl (by with_reducible rfl) ?_)|(refine awp_cond_p rfl (fun hc => ?_) (fun hc => ?_) <;> (try (exfalso;omega))))|(refine awp_block ?_)|(refine awp_ret ?_)|(refine awp_skip ?_)|(refine awp_exit ?_))|(refine thn_ret ?_)|(refine lq_exit ?_)|(refine thn_exit ?_)|(refine inb_n ?_)|(refine inb_here ?_))|(refine awp_draw (by kernel_rfl) (by kernel_rfl) ?_)|(first|(refine ql_v (ov_move rfl) rfl ?_)|(refine ql_v (ov_assign rfl) rfl ?_)|(refine ql_v (ov_fieldAddr rfl rfl) rfl ?_)|(refine ql_v (ov_load rfl rfl) rfl ?_)|(refine ql_v (ov_load_agg rfl rfl rfl) rfl ?_)|(refine ql_v (ov_cmp rfl rfl rfl) rfl ?_)|(refine ql_v (ov_pick_t' rfl (by with_reducible rfl) rfl) rfl ?_)|(refine ql_v (ov_pick_f' rfl (by with_reducible rfl) rfl) rfl ?_)|(refine ql_v (ov_len_rs rfl) rfl ?_)|(refine ql_v (ov_extract rfl rfl) rfl ?_)|(refine ql_v (ov_add rfl rfl (by (first|exact w64 (by omega) (by omega)|rfl))) rfl ?_)|(refine ql_v (ov_not_p rfl) rfl ?_)|(refine ql_v (ov_cat rfl rfl (by first|omega|(simp only [List.length_append, List.length_cons, List.length_nil];omega)|(simp;omega))) rfl ?_)|(refine ql_nil ?_)))
      first | refine lq_back (i + 1, _) (.of (.same (by repeat constructor))) ?_ ?_ | fail
      · refine ⟨by dsimp only; omega, by dsimp only; omega, ?_⟩
        dsimp only
        rw [hl, hnx]
        simp
      · dsimp only; omega
    · have hP := s_parseR (w0 := w0) (base := base) (s := l ++ [13, 10])
      have he : l ++ [13, 10] = printS ⟨h.m, h.t, h.v, h.fs.take i⟩ := by rw [printS_eq, hl]; rfl
      obtain ⟨x, st, a, hx⟩ : ∃ x st a, headParse (l ++ [13, 10]) = (x, st, a) := ⟨_, _, _, rfl⟩
      unfold prR at hP
      rw [hx] at hP
      dsimp only at hP
      have hxf : x.fs.length ≤ 32 := by have := headParse_fs (l ++ [13, 10]); rw [hx] at this; exact this
      have hE := s_same (w0 := w0) (base := base) (m := x.m) (t := x.t) (v := x.v) (m' := h.m) (t' := h.t) (v' := h.v) (f := x.fs) (g := h.fs) (by omega) hf
      have htk : h.fs.length ≤ 32 → h.fs.take i = h.fs := fun k => List.take_of_length_le (by omega)
      have hok : printOk h ↔ st = 0 ∧ x = h := by
        constructor
        · intro k
          have k0 := k
          obtain ⟨k1, k2, k3, k4⟩ := k
          rw [htk k1] at he
          have he' : l ++ [13, 10] = printS h := he
          rw [← he', hx] at k3 k4
          exact ⟨k3, k4⟩
        · rintro ⟨k1, k2⟩
          subst k1
          have hv := parse_v hx
          subst k2
          have he' : l ++ [13, 10] = printS x := by rw [he, htk hv.2]
          refine ⟨hv.2, hv.1, ?_, ?_⟩ <;> rw [← he', hx]
      repeat' (first|(first|(refine k_call ?_;refine al_call rfl rfl rfl rfl hP ?_;rintro _ rfl)|(refine k_call ?_;refine al_call rfl rfl rfl rfl hE ?_;rintro _ rfl))|(refine k_al ?_;first|(refine al_v (ov_move rfl) rfl ?_)|(refine k_g ?_;first|(refine al_gy' rfl rfl (by with_reducible rfl) ?_)|(refine al_gnt rfl rfl (by with_reducible rfl) rfl ?_)|(refine al_gnf rfl rfl (by with_reducible rfl) rfl ?_)|(refine al_gsp rfl rfl (fun hc => ?_) (fun hc => ?_) <;> (try (exfalso;omega))))|(refine al_v (ov_fieldAddr rfl rfl) rfl ?_)|(refine k_load ?_;first|(refine al_v (ov_load rfl rfl) rfl ?_)|(refine al_v (ov_load_agg rfl rfl rfl) rfl ?_))|(refine k_bin ?_;first|(refine al_v (ov_cmp rfl rfl rfl) rfl ?_)|(refine al_v (ov_cat rfl rfl (by first|omega|(simp only [List.length_append, List.length_cons, List.length_nil];omega)|(simp;omega))) rfl ?_)|(refine al_v (ov_add rfl rfl (by (first|exact w64 (by omega) (by omega)|rfl))) rfl ?_))|(refine k_pick ?_;first|(refine al_v (ov_pick_t' rfl (by with_reducible rfl) rfl) rfl ?_)|(refine al_v (ov_pick_f' rfl (by with_reducible rfl) rfl) rfl ?_))|(refine al_v (ov_assign rfl) rfl ?_)|(refine k_call ?_;first|(refine al_v (ov_len_rs rfl) rfl ?_))|(refine al_v (ov_extract rfl rfl) rfl ?_)|(refine al_nil ?_)|(refine al_box rfl rfl rfl (by first|exact ln0|exact ln1) (by repeat constructor) rfl ?_)|(refine al_alloc rfl rfl rfl (by first|exact ln0|exact ln1) (by repeat constructor) rfl ?_)|(refine al_store rfl rfl rfl rfl rfl (by repeat constructor) (by repeat constructor) ?_)|(refine al_v (ov_not_p rfl) rfl ?_))|(first|(refine thn_n ?_)|(refine k_awp ?_;first|(refine awp_seq (awp_region ?_))|(refine awp_seq ?_)|(refine awp_region ?_)|(refine k_cond ?_;first|(refine awp_cond_t' rfl (by with_reducible rfl) ?_)|(refine awp_cond_f' rfl (by with_reducible rfl) ?_)|(refine awp_cond_p rfl (fun hc => ?_) (fun hc => ?_) <;> (try (exfalso;omega))))|(refine awp_block ?_)|(refine awp_ret ?_)|(refine awp_skip ?_)|(refine awp_exit ?_))|(refine thn_ret ?_)|(refine lq_exit ?_)|(refine thn_exit ?_)|(refine inb_n ?_)|(refine inb_here ?_)))
      all_goals first
        | (refine ret2 (by first | exact .inr rfl | exact .inl rfl) rfl rfl rfl ?_
           exact ⟨prnR_not fun k => by
             obtain ⟨k1, k2⟩ := hok.1 k
             subst k2
             first | (exact absurd k1 ‹_›) | (exact absurd (⟨rfl, rfl, rfl, rfl⟩ : x.m = x.m ∧ x.t = x.t ∧ x.v = x.v ∧ x.fs = x.fs) ‹_›), rfl⟩)
        | (have hyes := hok.2 ⟨by first | omega | (exact Classical.not_not.1 ‹_›), by cases x; cases h; simp_all⟩
           refine ret2 (by first | exact .inr rfl | exact .inl rfl) rfl rfl rfl ?_
           exact ⟨prnR_yes hyes (by rw [he, htk hyes.1]), rfl⟩)
end

/-! What is printed, among bytes. -/
/-- Bytes of a whole request, and of none before. -/
structure OneRq (s : List UInt8) (h : Hd) : Prop where
  len : s.length ≤ 4096
  idx : ∀ r, Lib.index (s ++ r) crlf2 = (s.length : Int) - 4
  ne : 4 ≤ s.length
  got : ∀ r, nextL (s ++ r) = .got h [] s.length
theorem OneRq.pre {s u v : List UInt8} {h : Hd} (o : OneRq s h) (e : s = u ++ v) (hv : v ≠ []) : nextL u = .more := by
  have hl := o.len
  have hvl := List.length_pos_iff.2 hv
  rw [e, List.length_append] at hl
  unfold nextL
  have hx : Lib.index u crlf2 = -1 := by
    rcases idx_room u with hx | ⟨i, hx, hi⟩
    · exact hx
    · exfalso
      have h1 := index_app (s := u) (t := v) (by rw [hx]; omega)
      have h2 := o.idx []
      rw [List.append_nil, e, h1, hx, List.length_append] at h2
      omega
  rw [hx, if_pos (by decide), if_neg (by omega)]
theorem OneRq.all {s : List UInt8} {h : Hd} (o : OneRq s h) (r : List UInt8) (out : List Rq) : ∀ (v u : List UInt8), v ≠ [] → s = u ++ v → allF (v ++ r) u out = allF r [] (out ++ [rqOf h []]) := by
  intro v
  induction v with
  | nil => intro u hv; exact absurd rfl hv
  | cons c v ih =>
    intro u _ e
    have hl := o.len
    rw [List.cons_append, allF, if_neg (by rw [e] at hl; simp only [List.length_append, List.length_cons] at hl; omega), drainF_S (by simp)]
    by_cases hv : v = []
    · subst hv
      have hg := o.got []
      rw [List.append_nil, e] at hg
      have hd : (u ++ [c]).drop (u ++ [c]).length = [] := List.drop_length
      rw [drainS_got hg, hd, drainS_more rfl]
      rw [if_neg (fun k => k rfl)]
      rfl
    · have e2 : s = (u ++ [c]) ++ v := by rw [e]; simp
      rw [drainS_more (o.pre e2 hv), if_neg (fun k => k rfl)]
      exact ih (u ++ [c]) hv e2
theorem oneRq_of {s : List UInt8} {h : Hd} {a : Int} (hp : headParse s = (h, 0, a)) (hb : (bodyS h).1 = 0 ∧ (bodyS h).2.2 = 0) : OneRq s h := by
  obtain ⟨l, ls, e, h1, h2, h3, h4, h5, h6, h7⟩ := headParse_inv hp
  have hlm : 1 ≤ l.length := by
    cases l with
    | nil => exact absurd h2.ok (by decide)
    | cons b l => simp
  have hall : ∀ x ∈ l :: ls, 13 ∉ x ∧ x ≠ [] := by
    intro x hx
    rcases List.mem_cons.1 hx with rfl | hx
    · exact ⟨hasBr13 h2.br, fun k => by rw [k] at hlm; simp at hlm⟩
    · exact ⟨hasBr13 (h3 x hx).br, (h3 x hx).ne⟩
  have hsl : s.length = (linesOf (l :: ls)).length + 2 := by rw [e, textOf_length]
  have hll : 3 ≤ (linesOf (l :: ls)).length := by rw [linesOf_cons]; simp only [List.length_append, List.length_cons]; omega
  have hidx : ∀ r, Lib.index (s ++ r) crlf2 = (s.length : Int) - 4 := fun r => by
    rw [hsl, e, idx_text hall]; omega
  refine ⟨h1, hidx, by omega, fun r => ?_⟩
  unfold nextL
  have hn : ((s.length : Int) - 4).toNat + 4 = s.length := by omega
  rw [hidx r, if_neg (by omega), hn, take_app (Nat.le_refl _), List.take_length, hp]
  dsimp only
  rw [if_neg (fun k => k rfl)]
  unfold bodyAt
  rw [if_neg (fun k => k hb.2), if_neg (by rw [hb.1]; decide), if_neg (by rw [hb.1]; decide)]
theorem allS_one {s : List UInt8} {h : Hd} (o : OneRq s h) : allS s = ([rqOf h []], 0) := by
  have := o.all [] [] s [] (fun k => by have := o.ne; rw [k] at this; simp at this) rfl
  rw [List.append_nil] at this
  unfold allS
  rw [this, allF]
  rfl
theorem allS_two {s t : List UInt8} {h g : Hd} (o : OneRq s h) (q : OneRq t g) : allS (s ++ t) = ([rqOf h [], rqOf g []], 0) := by
  have h1 := o.all t [] s [] (fun k => by have := o.ne; rw [k] at this; simp at this) rfl
  have h2 := q.all [] [rqOf h []] t [] (fun k => by have := q.ne; rw [k] at this; simp at this) rfl
  rw [List.append_nil] at h2
  unfold allS
  rw [h1, List.nil_append, h2, allF]
  rfl
section
variable {w0 : World} {base : Nat}
set_option maxHeartbeats 8000000 in
theorem s_lawBehind {a b : Hd} (hG : Glob w0 base) (ha : Wide a) (hb : Wide b) : PCalls (EE w0 base) 6 [hdAV a.m a.t a.v a.fs, hdAV b.m b.t b.v b.fs] fun rv => rv = .bool true := by
  have hW := s_awake8 (w0 := w0) (base := base) hG
  have hP := s_printRW (w0 := w0) (base := base) ha
  have hQ := s_printRW (w0 := w0) (base := base) hb
  have hB := s_bodyRW (w0 := w0) (base := base) ha
  have hC := s_bodyRW (w0 := w0) (base := base) hb
  unfold prnR at hP hQ
  unfold bodR at hB hC
  refine acalls_of Tryz.func6 rfl rfl rfl (.cons (.cons .nil)) ?_
  by_cases hok : (printOk a ∧ printOk b) ∧ ((bodyS a).1 = 0 ∧ (bodyS a).2.2 = 0) ∧ (bodyS b).1 = 0 ∧ (bodyS b).2.2 = 0
  · obtain ⟨⟨pa, pb⟩, ba, bb⟩ := hok
    have oa := oneRq_of (back_ok pa) ba
    have ob := oneRq_of (back_ok pb) bb
    have hla := oa.len
    have hlb := ob.len
    have hA1 := s_allP (w0 := w0) (base := base) (s := printS b) hG (by omega)
    have hA2 := s_allP (w0 := w0) (base := base) (s := printS a ++ printS b) hG (by rw [List.length_append]; omega)
    rw [allS_one ob] at hA1
    rw [allS_two oa ob] at hA2
    rw [if_pos pa, if_pos pa] at hP
    rw [if_pos pb, if_pos pb] at hQ
    have gb : GoodH b := by have := headParse_good (s := printS b) (by rw [back_ok pb]); rw [back_ok pb] at this; exact this
    have hr : RqB (rqOf b []) := rqOf_B gb
    have hS := s_sameRq (w0 := w0) (base := base) (x := rqOf b []) (y := rqOf b []) hr hr
    rw [rqSame_self] at hS
    have hT := s_same (w0 := w0) (base := base) (m := b.m) (t := b.t) (v := b.v) (m' := b.m) (t' := b.t) (v' := b.v) (f := b.fs) (g := b.fs) hb.f hb.f
    rw [decide_eq_true ⟨rfl, rfl, rfl, rfl⟩] at hT
    rw [ba.1, ba.2] at hB
    rw [bb.1, bb.2] at hC
    repeat' (first|(first|(refine awp_held (id := 9) [] [⟨0, true, [], bl 37 0⟩, ⟨1, true, [], bl 37 1⟩, ⟨2, true, [], bl 37 3⟩, ⟨3, true, [], bl 37 7⟩, ⟨4, true, [], bl 37 15⟩, ⟨5, true, [], bl 37 31⟩, ⟨6, true, [], bl 37 63⟩, ⟨7, true, [], bl 37 127⟩, ⟨8, true, [], bl 37 255⟩, ⟨9, true, [], bl 37 511⟩, ⟨10, true, [], bl 37 1023⟩, ⟨11, true, [], bl 37 2047⟩, ⟨12, true, [], bl 37 4095⟩, ⟨13, true, [], bl 37 8191⟩, ⟨14, true, [], bl 37 16383⟩, ⟨15, true, [], bl 37 32767⟩, ⟨16, true, [], bl 37 65535⟩, ⟨17, true, [], bl 37 7471103⟩, ⟨18, true, [], bl 37 7602175⟩, ⟨19, true, [], bl 37 7864319⟩, ⟨20, true, [], bl 37 1048575⟩, ⟨21, true, [], bl 37 2097151⟩, ⟨22, true, [], bl 37 4194303⟩, ⟨23, false, [], []⟩, ⟨24, true, [], bl 37 16777215⟩, ⟨25, true, [], bl 37 33554431⟩, ⟨26, true, [], bl 37 1140850687⟩, ⟨27, true, [], bl 37 1207959551⟩, ⟨28, true, [], bl 37 1342177279⟩, ⟨29, true, [], bl 37 1610612735⟩, ⟨30, true, [], bl 37 1073741823⟩, ⟨31, false, [], []⟩, ⟨32, true, [], bl 37 4294967295⟩, ⟨33, true, [], bl 37 8589934591⟩, ⟨34, false, [], []⟩, ⟨35, true, [], bl 37 34359738367⟩, ⟨36, true, [], bl 37 68719476735⟩] (by kernel_rfl) (by kernel_rfl) rfl (by kernel_rfl) ?_)|(refine k_call ?_;refine al_call rfl rfl rfl rfl hP ?_;rintro _ rfl)|(refine k_call ?_;refine al_call rfl rfl rfl rfl hQ ?_;rintro _ rfl)|(refine k_call ?_;refine al_call rfl rfl rfl rfl hB ?_;rintro _ rfl)|(refine k_call ?_;refine al_call rfl rfl rfl rfl hC ?_;rintro _ rfl)|(refine k_call ?_;refine al_call rfl rfl rfl rfl hA1 ?_;rintro _ rfl)|(refine k_call ?_;refine al_call rfl rfl rfl rfl hA2 ?_;rintro _ rfl)|(refine k_call ?_;refine al_call rfl rfl rfl rfl hS ?_;rintro _ rfl)|(refine k_call ?_;refine al_call rfl rfl rfl rfl hT ?_;rintro _ rfl)|(refine k_call ?_;refine al_call rfl rfl rfl rfl hW ?_;rintro _ rfl)|(refine hw_v (ov_indexAddr (j := 1) rfl rfl (by decide) rfl rfl) rfl ?_)|(refine hw_v (ov_indexAddr rfl rfl (by decide) rfl rfl) rfl ?_))|(refine k_al ?_;first|(refine al_v (ov_move rfl) rfl ?_)|(refine k_g ?_;first|(refine al_gy' rfl rfl (by with_reducible rfl) ?_)|(refine al_gnf rfl rfl (by with_reducible rfl) rfl ?_)|(refine al_gsp rfl rfl (fun hc => ?_) (fun hc => ?_) <;> (try (exfalso;omega))))|(refine al_v (ov_fieldAddr rfl rfl) rfl ?_)|(refine k_load ?_;first|(refine al_v (ov_load_agg rfl rfl rfl) rfl ?_))|(refine k_bin ?_;first|(refine al_v (ov_cmp rfl rfl rfl) rfl ?_)|(refine al_v (ov_cat rfl rfl (by first|omega|(simp only [List.length_append, List.length_cons, List.length_nil];omega)|(simp;omega))) rfl ?_))|(refine k_pick ?_;first|(refine al_v (ov_pick_t' rfl (by with_reducible rfl) rfl) rfl ?_)|(refine al_v (ov_pick_f' rfl (by with_reducible rfl) rfl) rfl ?_))|(refine al_v (ov_assign rfl) rfl ?_)|(refine k_call ?_;first|(refine al_v (ov_len_rs rfl) rfl ?_))|(refine al_v (ov_extract rfl rfl) rfl ?_)|(refine al_nil ?_)|(refine al_box rfl rfl rfl (by first|exact ln0|exact ln1) (by repeat constructor) rfl ?_))|(first|(refine thn_n ?_)|(refine k_awp ?_;first|(refine awp_seq (awp_region ?_))|(refine awp_seq ?_)|(refine awp_region ?_)|(refine k_cond ?_;first|(refine awp_cond_t' rfl (by with_reducible rfl) ?_)|(refine awp_cond_p rfl (fun hc => ?_) (fun hc => ?_) <;> (try (exfalso;omega))))|(refine awp_ret ?_)|(refine awp_skip ?_))|(refine thn_ret ?_))|(first|(refine k_hw ?_;first|(refine hw_s rfl ?_)|(refine hw_v (ov_move rfl) rfl ?_)|(refine hw_v (ov_assign rfl) rfl ?_)|(refine hw_v (ov_fieldAddr rfl rfl) rfl ?_)|(refine hw_v (ov_load_agg rfl rfl rfl) rfl ?_)|(refine hw_v (ov_cmp rfl rfl rfl) rfl ?_)|(refine hw_v (ov_pick_t' rfl (by with_reducible rfl) rfl) rfl ?_)|(refine hw_v (ov_pick_f' rfl (by with_reducible rfl) rfl) rfl ?_)|(refine hw_v (ov_len_rs rfl) rfl ?_)|(refine hw_v (ov_extract rfl rfl) rfl ?_)|(refine hw_v (ov_cat rfl rfl (by first|omega|(simp only [List.length_append, List.length_cons, List.length_nil];omega)|(simp;omega))) rfl ?_))|(refine hl_op rfl ?_)|(refine k_ho ?_;first|(refine ho_n ?_)|(refine ho_gy rfl rfl (by with_reducible rfl) ?_)|(refine ho_gnt rfl rfl (by with_reducible rfl) rfl ?_)|(refine ho_gsp rfl rfl (fun hc => ?_) (fun hc => ?_) <;> (try (exfalso;omega))))|(refine hl_nil ?_)|(refine hq_back ?_)))
    all_goals first
      | (refine ret1 (by first | exact .inr rfl | exact .inl rfl) rfl rfl ?_
         exact ⟨rfl, rfl⟩)
      | (exact absurd rfl (show ¬ _ from ‹¬ _›))
  · by_cases pa : printOk a
    all_goals
      by_cases pb : printOk b
    all_goals
      simp only [pa, pb, if_true, if_false] at hP hQ
      repeat' (first|(first|(refine k_call ?_;refine al_call rfl rfl rfl rfl hP ?_;rintro _ rfl)|(refine k_call ?_;refine al_call rfl rfl rfl rfl hQ ?_;rintro _ rfl)|(refine k_call ?_;refine al_call rfl rfl rfl rfl hB ?_;rintro _ rfl)|(refine k_call ?_;refine al_call rfl rfl rfl rfl hC ?_;rintro _ rfl)|(refine k_call ?_;refine al_call rfl rfl rfl rfl hW ?_;rintro _ rfl))|(refine k_al ?_;first|(refine al_v (ov_move rfl) rfl ?_)|(refine k_g ?_;first|(refine al_gy' rfl rfl (by with_reducible rfl) ?_)|(refine al_gnf rfl rfl (by with_reducible rfl) rfl ?_)|(refine al_gsp rfl rfl (fun hc => ?_) (fun hc => ?_) <;> (try (exfalso;omega))))|(refine al_v (ov_fieldAddr rfl rfl) rfl ?_)|(refine k_load ?_;first|(refine al_v (ov_load_agg rfl rfl rfl) rfl ?_))|(refine k_bin ?_;first|(refine al_v (ov_cmp rfl rfl rfl) rfl ?_)|(refine al_v (ov_cat rfl rfl (by first|omega|(simp only [List.length_append, List.length_cons, List.length_nil];omega)|(simp;omega))) rfl ?_))|(refine k_pick ?_;first|(refine al_v (ov_pick_t' rfl (by with_reducible rfl) rfl) rfl ?_)|(refine al_v (ov_pick_f' rfl (by with_reducible rfl) rfl) rfl ?_))|(refine al_v (ov_assign rfl) rfl ?_)|(refine k_call ?_;first|(refine al_v (ov_len_rs rfl) rfl ?_))|(refine al_v (ov_extract rfl rfl) rfl ?_)|(refine al_nil ?_)|(refine al_box rfl rfl rfl (by first|exact ln0|exact ln1) (by repeat constructor) rfl ?_))|(first|(refine thn_n ?_)|(refine k_awp ?_;first|(refine awp_seq (awp_region ?_))|(refine awp_seq ?_)|(refine awp_region ?_)|(refine k_cond ?_;first|(refine awp_cond_t' rfl (by with_reducible rfl) ?_)|(refine awp_cond_p rfl (fun hc => ?_) (fun hc => ?_) <;> (try (exfalso;omega))))|(refine awp_ret ?_)|(refine awp_skip ?_))|(refine thn_ret ?_)))
    all_goals first
      | (refine ret1 (by first | exact .inr rfl | exact .inl rfl) rfl rfl ?_
         exact ⟨rfl, rfl⟩)
      | (exfalso; apply hok; exact ⟨⟨pa, pb⟩, ⟨by omega, by omega⟩, by omega, by omega⟩)
      | (exfalso; simp_all; done)
end
end Go.Proofs.YtffcgpkbibijpaaGreatDoor.L
