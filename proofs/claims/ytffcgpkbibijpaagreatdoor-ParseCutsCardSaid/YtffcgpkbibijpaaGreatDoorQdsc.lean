/- Layer 8 (parse): the law ParseCuts. -/
import Derived.Test.YtffcgpkbibijpaaGreatDoorQdsa
import Derived.Test.YtffcgpkbibijpaaGreatDoorQdsb
set_option linter.unusedVariables false
set_option linter.unusedSimpArgs false
namespace Go.Proofs.YtffcgpkbibijpaaGreatDoor.L
open Go Go.RowKit Go.Proofs
set_option linter.unusedVariables false
set_option linter.unusedSimpArgs false
set_option maxRecDepth 100000
attribute [local irreducible] AL QL AWp Thn InB RetQ ACalls LoopQ HL HO HW HQ NoG JmpQ MidQ HF

theorem cut_join {w s : List UInt8} {a b : Nat} (h : a ≤ b) : (w ++ (s.take b).drop a) ++ s.drop b = w ++ s.drop a := by
  rw [List.append_assoc]
  congr 1
  have e : s.drop a = (s.take b).drop a ++ s.drop b := by
    have h1 : s = s.take b ++ s.drop b := (List.take_append_drop b s).symm
    rcases Nat.le_total b s.length with hb | hb
    · have hl : (s.take b).length = b := by simp [hb]
      conv => lhs; rw [h1]
      rw [List.drop_append, hl, show a - b = 0 by omega]
      rfl
    · rw [List.take_of_length_le hb, List.drop_eq_nil_of_le hb, List.append_nil]
  exact e.symm
/-- Where the reading of parts stands. -/
structure CU where
  i : Nat
  at' : Nat
  w : List UInt8
  out : List Rq
  ver : Nat
  xs : List (List AV)
  st : Int
structure CUok (s : List UInt8) (cs : List Int) (x : CU) : Prop where
  xs : x.xs = x.out.map rqC
  i : x.i ≤ cs.length + 1
  le : x.at' ≤ s.length
  o : 4 * x.out.length + x.w.length ≤ x.at'
  go : x.st = 0 → nextL x.w = .more ∧ drainS s [] = drainS (x.w ++ s.drop x.at') x.out ∧ (x.i = cs.length + 1 → x.at' = s.length)
  no : x.st ≠ 0 → (drainS s []).1 = x.out ∧ (drainS s []).2.2 = x.st
theorem CUok.fin {s : List UInt8} {cs : List Int} {x : CU} (h : CUok s cs x) (hx : ¬ (x.i ≤ cs.length ∧ x.at' < s.length ∧ x.st = 0)) : (drainS s []).1 = x.out ∧ (drainS s []).2.2 = x.st := by
  by_cases h0 : x.st = 0
  · obtain ⟨h1, h2, h3⟩ := h.go h0
    have h4 := h.i
    have h5 := h.le
    have hl : x.at' = s.length := by
      by_cases hi : x.i ≤ cs.length
      · by_cases ha : x.at' < s.length
        · exact absurd ⟨hi, ha, h0⟩ hx
        · omega
      · exact h3 (by omega)
    rw [hl, List.drop_length, List.append_nil, drainS_more h1] at h2
    rw [h2, h0]
    exact ⟨rfl, rfl⟩
  · exact h.no h0
section
variable {w0 : World} {base : Nat}
set_option maxHeartbeats 8000000 in
theorem s_lawCuts {s : List UInt8} {cs : List Int} (hG : Glob w0 base) (hs : s.length ≤ 140737488351232) (hc : cs.length ≤ 140737488351232) : PCalls (EE w0 base) 5 [.str s, .rs (intAV cs)] fun rv => rv = .bool true := by
  have hW := s_awake8 (w0 := w0) (base := base) hG
  have hcl := intAV_len cs
  refine acalls_of Tryz.func5 rfl rfl rfl (.cons (.cons .nil)) ?_
  by_cases hbig : 4096 < s.length
  · repeat' (first|(first|(refine k_call ?_;refine al_call rfl rfl rfl rfl hW ?_;rintro _ rfl))|(refine k_al ?_;first|(refine al_v (ov_move rfl) rfl ?_)|(refine k_g ?_;first|(refine al_gy' rfl rfl (by with_reducible rfl) ?_)|(refine al_gnt rfl rfl (by with_reducible rfl) rfl ?_)|(refine al_gsp rfl rfl (fun hc => ?_) (fun hc => ?_) <;> (try (exfalso;omega))))|(refine k_load ?_;first|(refine al_v (ov_load rfl rfl) rfl ?_)|(refine al_v (ov_load_agg rfl rfl rfl) rfl ?_))|(refine k_bin ?_;first|(refine al_v (ov_cmp rfl rfl rfl) rfl ?_)|(refine al_v (ov_add rfl rfl (by (first|exact w64 (by omega) (by omega)|rfl))) rfl ?_)|(refine al_v (ov_sub rfl rfl (by (first|exact w64 (by omega) (by omega)|rfl))) rfl ?_)|(refine al_v (ov_rem rfl rfl (by decide) rfl) rfl ?_))|(refine k_pick ?_;first|(refine al_v (ov_pick_t' rfl (by with_reducible rfl) rfl) rfl ?_)|(refine al_v (ov_pick_f' rfl (by with_reducible rfl) rfl) rfl ?_))|(refine al_v (ov_assign rfl) rfl ?_)|(refine k_call ?_;first|(refine al_v (ov_len_rs rfl) rfl ?_)|(refine al_v (ov_len_str rfl) rfl ?_))|(refine al_v (ov_extract rfl rfl) rfl ?_)|(refine al_nil ?_)|(refine al_alloc rfl rfl rfl (by first|exact ln2|exact ln3) (by repeat constructor) rfl ?_)|(refine al_store rfl rfl rfl rfl rfl (by repeat constructor) (by repeat constructor) ?_)|(refine al_buildSlice (by rfl) (by rfl) (by rfl) (by rfl) (by decide) (by decide) (by rfl) (by rfl) (by repeat constructor) (by rfl) (by repeat constructor) (by rfl) (by first|exact ln2|exact ln3) (by repeat constructor) rfl ?_)|(refine al_v (ov_not_t rfl (by with_reducible rfl)) rfl ?_)|(refine al_v (ov_not_f rfl (by with_reducible rfl)) rfl ?_))|(first|(refine thn_n ?_)|(refine k_awp ?_;first|(refine awp_seq (awp_region ?_))|(refine awp_seq ?_)|(refine awp_region ?_)|(refine k_cond ?_;first|(refine awp_cond_t' rfl (by with_reducible rfl) ?_)|(refine awp_cond_f' rfl (by with_reducible rfl) ?_)|(refine awp_cond_p rfl (fun hc => ?_) (fun hc => ?_) <;> (try (exfalso;omega))))|(refine awp_block ?_)|(refine awp_ret ?_)|(refine awp_skip ?_)|(refine awp_exit ?_))|(refine thn_ret ?_)|(refine lq_exit ?_)|(refine thn_exit ?_)|(refine inb_n ?_)|(refine inb_here ?_)|(refine inb_out rfl ?_)))
    refine ret1 (by first | exact .inr rfl | exact .inl rfl) rfl rfl ?_
    exact ⟨rfl, rfl⟩
  have hA := s_allP (w0 := w0) (base := base) (s := s) hG (by omega)
  have hB := allF_B s [] [] (fun x hx => by simp at hx)
  have hL := allF_len s [] []
  change ∀ x ∈ (allS s).1, RqB x at hB
  have hS := s_sameAll (w0 := w0) (base := base) (xs := (allS s).1) hB (by unfold allS; simp at hL; omega)
  rw [allS_drain (by omega)] at hA hS
  clear hB hL
  repeat' (first|(first|(refine k_call ?_;refine al_acall [] rfl rfl a_new ?_ ?_ rfl rfl ?_;(focus ((repeat constructor);done));(focus ((repeat constructor);done));rintro _ _ ⟨rfl, rfl⟩;refine ⟨_, _, by repeat constructor, by repeat constructor, ?_⟩)|(refine k_call ?_;refine al_call rfl rfl rfl rfl hA ?_;rintro _ rfl)|(refine k_bin ?_;refine al_v (ov_peq_pn rfl rfl rfl) rfl ?_))|(refine k_al ?_;first|(refine al_v (ov_move rfl) rfl ?_)|(refine k_g ?_;first|(refine al_gy' rfl rfl (by with_reducible rfl) ?_)|(refine al_gnt rfl rfl (by with_reducible rfl) rfl ?_)|(refine al_gsp rfl rfl (fun hc => ?_) (fun hc => ?_) <;> (try (exfalso;omega))))|(refine k_load ?_;first|(refine al_v (ov_load rfl rfl) rfl ?_)|(refine al_v (ov_load_agg rfl rfl rfl) rfl ?_))|(refine k_bin ?_;first|(refine al_v (ov_cmp rfl rfl rfl) rfl ?_)|(refine al_v (ov_add rfl rfl (by (first|exact w64 (by omega) (by omega)|rfl))) rfl ?_)|(refine al_v (ov_sub rfl rfl (by (first|exact w64 (by omega) (by omega)|rfl))) rfl ?_)|(refine al_v (ov_rem rfl rfl (by decide) rfl) rfl ?_))|(refine k_pick ?_;first|(refine al_v (ov_pick_t' rfl (by with_reducible rfl) rfl) rfl ?_)|(refine al_v (ov_pick_f' rfl (by with_reducible rfl) rfl) rfl ?_))|(refine al_v (ov_assign rfl) rfl ?_)|(refine k_call ?_;first|(refine al_v (ov_len_rs rfl) rfl ?_)|(refine al_v (ov_len_str rfl) rfl ?_))|(refine al_v (ov_extract rfl rfl) rfl ?_)|(refine al_nil ?_)|(refine al_alloc rfl rfl rfl (by first|exact ln2|exact ln3) (by repeat constructor) rfl ?_)|(refine al_store rfl rfl rfl rfl rfl (by repeat constructor) (by repeat constructor) ?_)|(refine al_buildSlice (by rfl) (by rfl) (by rfl) (by rfl) (by decide) (by decide) (by rfl) (by rfl) (by repeat constructor) (by rfl) (by repeat constructor) (by rfl) (by first|exact ln2|exact ln3) (by repeat constructor) rfl ?_)|(refine al_v (ov_not_t rfl (by with_reducible rfl)) rfl ?_)|(refine al_v (ov_not_f rfl (by with_reducible rfl)) rfl ?_))|(first|(refine thn_n ?_)|(refine k_awp ?_;first|(refine awp_seq (awp_region ?_))|(refine awp_seq ?_)|(refine awp_region ?_)|(refine k_cond ?_;first|(refine awp_cond_t' rfl (by with_reducible rfl) ?_)|(refine awp_cond_f' rfl (by with_reducible rfl) ?_)|(refine awp_cond_p rfl (fun hc => ?_) (fun hc => ?_) <;> (try (exfalso;omega))))|(refine awp_block ?_)|(refine awp_ret ?_)|(refine awp_skip ?_)|(refine awp_exit ?_))|(refine thn_ret ?_)|(refine lq_exit ?_)|(refine thn_exit ?_)|(refine inb_n ?_)|(refine inb_here ?_)|(refine inb_out rfl ?_)))
  refine awp_adopt 8 40 8 rfl (by decide) rfl (by repeat constructor) ?_
  refine awp_loopq (fun p : CU => ⟨[(0, .str s), (1, .rs (intAV cs)), (5, .rs ((drainS s []).1.map rqC)), (6, .int .i64 (drainS s []).2.2), (7, .op 0 0), (8, .os 1 p.ver), (9, .int .i64 p.at'), (10, .int .i64 p.st), (11, .int .i64 p.i)], [parO true p.w p.st, .row 40 8 p.ver 0 p.xs]⟩)
    (CUok s cs) (fun p => cs.length + 1 - p.i) ⟨0, 0, [], [], 0, [], 0⟩ (.of (.same (by repeat constructor))) ⟨rfl, Nat.zero_le _, Nat.zero_le _, Nat.le_refl _, fun _ => ⟨rfl, rfl, fun h => by dsimp only at h; omega⟩, fun h => absurd rfl h⟩ ?_
  rintro ⟨i, at', w, out, ver, xs, st⟩ hok
  by_cases hgo : i ≤ cs.length ∧ at' < s.length ∧ st = 0
  · obtain ⟨hi, hat, rfl⟩ := hgo
    obtain ⟨hxs, _, _, ho, hgo, _⟩ := hok
    dsimp only at hxs ho hgo ⊢
    obtain ⟨hmore, hdr, _⟩ := hgo rfl
    clear hgo
    obtain ⟨n, hn, hn2, hcase⟩ : ∃ n : Nat, at' + n ≤ s.length ∧ (i = cs.length → at' + n = s.length) ∧ ((i < cs.length ∧ ∃ c m : Int, cs[i]? = some c ∧ min ((s.length : Int) - at') (c.tmod 50) = m ∧ (m < 0 ∧ n = 0 ∨ m = n)) ∨ (i = cs.length ∧ n = s.length - at')) := by
      by_cases hlt : i < cs.length
      · have hg := List.getElem?_eq_getElem hlt
        generalize cs[i] = c at hg
        obtain ⟨m, hm⟩ : ∃ m, min ((s.length : Int) - at') (c.tmod 50) = m := ⟨_, rfl⟩
        by_cases hm0 : m < 0
        · exact ⟨0, by omega, by omega, .inl ⟨hlt, c, m, hg, hm, .inl ⟨hm0, rfl⟩⟩⟩
        · exact ⟨m.toNat, by omega, by omega, .inl ⟨hlt, c, m, hg, hm, .inr (by omega)⟩⟩
      · exact ⟨s.length - at', by omega, by omega, .inr ⟨by omega, rfl⟩⟩
    have hF := a_feed (w0 := w0) (base := base) (s := w) (t := (s.take (at' + n)).drop at') (st := 0) (by omega) (by simp; omega)
    have hslen : ((s.take (at' + n)).drop at').length = n := by simp; omega
    rw [feedS_ok (by omega)] at hF
    have hjoin := cut_join (w := w) (s := s) (a := at') (b := at' + n) (by omega)
    rw [← hjoin] at hdr
    have hwl : (w ++ (s.take (at' + n)).drop at').length = w.length + n := by rw [List.length_append, hslen]
    obtain ⟨w1, hw1⟩ : ∃ w1, w1 = w ++ (s.take (at' + n)).drop at' := ⟨_, rfl⟩
    rw [← hw1] at hF hdr hwl
    rcases hcase with ⟨hlt, c, m, hcc, hm, ⟨hm0, hn0⟩ | rfl⟩ | ⟨hlt, hnn⟩
    focus
      have hrow := intAV_row hcc
      repeat' (first|(first|(refine k_call ?_;refine al_v (ov_min rfl rfl hm) rfl ?_)|(refine k_call ?_;refine al_acall [0] rfl rfl hF ?_ ?_ rfl rfl ?_;(focus ((repeat constructor);done));(focus ((repeat constructor);done));rintro _ _ ⟨rfl, rfl⟩;refine ⟨_, _, by repeat constructor, by repeat constructor, ?_⟩)|(refine al_v (ov_indexAddr rfl rfl (by omega) hrow rfl) rfl ?_)|(refine al_v (ov_slice_eq (i := at') (j := at' + n) rfl rfl rfl rfl (by omega) (by omega) (by omega) (by omega)) rfl ?_))|(refine k_al ?_;first|(refine al_v (ov_move rfl) rfl ?_)|(refine k_g ?_;first|(refine al_gy' rfl rfl (by with_reducible rfl) ?_)|(refine al_gnt rfl rfl (by with_reducible rfl) rfl ?_)|(refine al_gsp rfl rfl (fun hc => ?_) (fun hc => ?_) <;> (try (exfalso;omega))))|(refine k_load ?_;first|(refine al_v (ov_load rfl rfl) rfl ?_)|(refine al_v (ov_load_agg rfl rfl rfl) rfl ?_))|(refine k_bin ?_;first|(refine al_v (ov_cmp rfl rfl rfl) rfl ?_)|(refine al_v (ov_add rfl rfl (by (first|exact w64 (by omega) (by omega)|rfl))) rfl ?_)|(refine al_v (ov_sub rfl rfl (by (first|exact w64 (by omega) (by omega)|rfl))) rfl ?_)|(refine al_v (ov_rem rfl rfl (by decide) rfl) rfl ?_))|(refine k_pick ?_;first|(refine al_v (ov_pick_t' rfl (by with_reducible rfl) rfl) rfl ?_)|(refine al_v (ov_pick_f' rfl (by with_reducible rfl) rfl) rfl ?_))|(refine al_v (ov_assign rfl) rfl ?_)|(refine k_call ?_;first|(refine al_v (ov_len_rs rfl) rfl ?_)|(refine al_v (ov_len_str rfl) rfl ?_))|(refine al_v (ov_extract rfl rfl) rfl ?_)|(refine al_nil ?_)|(refine al_alloc rfl rfl rfl (by first|exact ln2|exact ln3) (by repeat constructor) rfl ?_)|(refine al_store rfl rfl rfl rfl rfl (by repeat constructor) (by repeat constructor) ?_)|(refine al_buildSlice (by rfl) (by rfl) (by rfl) (by rfl) (by decide) (by decide) (by rfl) (by rfl) (by repeat constructor) (by rfl) (by repeat constructor) (by rfl) (by first|exact ln2|exact ln3) (by repeat constructor) rfl ?_)|(refine al_v (ov_not_t rfl (by with_reducible rfl)) rfl ?_)|(refine al_v (ov_not_f rfl (by with_reducible rfl)) rfl ?_))|(first|(refine thn_n ?_)|(refine k_awp ?_;first|(refine awp_seq (awp_region ?_))|(refine awp_seq ?_)|(refine awp_region ?_)|(refine k_cond ?_;first|(refine awp_cond_t' rfl (by with_reducible rfl) ?_)|(refine awp_cond_f' rfl (by with_reducible rfl) ?_)|(refine awp_cond_p rfl (fun hc => ?_) (fun hc => ?_) <;> (try (exfalso;omega))))|(refine awp_block ?_)|(refine awp_ret ?_)|(refine awp_skip ?_)|(refine awp_exit ?_))|(refine thn_ret ?_)|(refine lq_exit ?_)|(refine thn_exit ?_)|(refine inb_n ?_)|(refine inb_here ?_)|(refine inb_out rfl ?_)))
      refine awp_wkn (.spell 9 (.int .i64 ((at' + n : Nat) : Int)) rfl (congrArg (AV.int .i64) (by omega))) ?_
    rotate_left
    focus
      have hrow := intAV_row hcc
      repeat' (first|(first|(refine k_call ?_;refine al_v (ov_min rfl rfl hm) rfl ?_)|(refine k_call ?_;refine al_acall [0] rfl rfl hF ?_ ?_ rfl rfl ?_;(focus ((repeat constructor);done));(focus ((repeat constructor);done));rintro _ _ ⟨rfl, rfl⟩;refine ⟨_, _, by repeat constructor, by repeat constructor, ?_⟩)|(refine al_v (ov_indexAddr rfl rfl (by omega) hrow rfl) rfl ?_)|(refine al_v (ov_slice_eq (i := at') (j := at' + n) rfl rfl rfl rfl (by omega) (by omega) (by omega) (by omega)) rfl ?_))|(refine k_al ?_;first|(refine al_v (ov_move rfl) rfl ?_)|(refine k_g ?_;first|(refine al_gy' rfl rfl (by with_reducible rfl) ?_)|(refine al_gnt rfl rfl (by with_reducible rfl) rfl ?_)|(refine al_gsp rfl rfl (fun hc => ?_) (fun hc => ?_) <;> (try (exfalso;omega))))|(refine k_load ?_;first|(refine al_v (ov_load rfl rfl) rfl ?_)|(refine al_v (ov_load_agg rfl rfl rfl) rfl ?_))|(refine k_bin ?_;first|(refine al_v (ov_cmp rfl rfl rfl) rfl ?_)|(refine al_v (ov_add rfl rfl (by (first|exact w64 (by omega) (by omega)|rfl))) rfl ?_)|(refine al_v (ov_sub rfl rfl (by (first|exact w64 (by omega) (by omega)|rfl))) rfl ?_)|(refine al_v (ov_rem rfl rfl (by decide) rfl) rfl ?_))|(refine k_pick ?_;first|(refine al_v (ov_pick_t' rfl (by with_reducible rfl) rfl) rfl ?_)|(refine al_v (ov_pick_f' rfl (by with_reducible rfl) rfl) rfl ?_))|(refine al_v (ov_assign rfl) rfl ?_)|(refine k_call ?_;first|(refine al_v (ov_len_rs rfl) rfl ?_)|(refine al_v (ov_len_str rfl) rfl ?_))|(refine al_v (ov_extract rfl rfl) rfl ?_)|(refine al_nil ?_)|(refine al_alloc rfl rfl rfl (by first|exact ln2|exact ln3) (by repeat constructor) rfl ?_)|(refine al_store rfl rfl rfl rfl rfl (by repeat constructor) (by repeat constructor) ?_)|(refine al_buildSlice (by rfl) (by rfl) (by rfl) (by rfl) (by decide) (by decide) (by rfl) (by rfl) (by repeat constructor) (by rfl) (by repeat constructor) (by rfl) (by first|exact ln2|exact ln3) (by repeat constructor) rfl ?_)|(refine al_v (ov_not_t rfl (by with_reducible rfl)) rfl ?_)|(refine al_v (ov_not_f rfl (by with_reducible rfl)) rfl ?_))|(first|(refine thn_n ?_)|(refine k_awp ?_;first|(refine awp_seq (awp_region ?_))|(refine awp_seq ?_)|(refine awp_region ?_)|(refine k_cond ?_;first|(refine awp_cond_t' rfl (by with_reducible rfl) ?_)|(refine awp_cond_f' rfl (by with_reducible rfl) ?_)|(refine awp_cond_p rfl (fun hc => ?_) (fun hc => ?_) <;> (try (exfalso;omega))))|(refine awp_block ?_)|(refine awp_ret ?_)|(refine awp_skip ?_)|(refine awp_exit ?_))|(refine thn_ret ?_)|(refine lq_exit ?_)|(refine thn_exit ?_)|(refine inb_n ?_)|(refine inb_here ?_)|(refine inb_out rfl ?_)))
      refine awp_wkn (.spell 9 (.int .i64 ((at' + n : Nat) : Int)) rfl (congrArg (AV.int .i64) (by omega))) ?_
    rotate_left
    focus
      repeat' (first|(first|(refine k_call ?_;refine al_acall [0] rfl rfl hF ?_ ?_ rfl rfl ?_;(focus ((repeat constructor);done));(focus ((repeat constructor);done));rintro _ _ ⟨rfl, rfl⟩;refine ⟨_, _, by repeat constructor, by repeat constructor, ?_⟩)|(refine al_v (ov_slice_eq (i := at') (j := at' + n) rfl rfl rfl rfl (by omega) (by omega) (by omega) (by omega)) rfl ?_))|(refine k_al ?_;first|(refine al_v (ov_move rfl) rfl ?_)|(refine k_g ?_;first|(refine al_gy' rfl rfl (by with_reducible rfl) ?_)|(refine al_gnt rfl rfl (by with_reducible rfl) rfl ?_)|(refine al_gsp rfl rfl (fun hc => ?_) (fun hc => ?_) <;> (try (exfalso;omega))))|(refine k_load ?_;first|(refine al_v (ov_load rfl rfl) rfl ?_)|(refine al_v (ov_load_agg rfl rfl rfl) rfl ?_))|(refine k_bin ?_;first|(refine al_v (ov_cmp rfl rfl rfl) rfl ?_)|(refine al_v (ov_add rfl rfl (by (first|exact w64 (by omega) (by omega)|rfl))) rfl ?_)|(refine al_v (ov_sub rfl rfl (by (first|exact w64 (by omega) (by omega)|rfl))) rfl ?_)|(refine al_v (ov_rem rfl rfl (by decide) rfl) rfl ?_))|(refine k_pick ?_;first|(refine al_v (ov_pick_t' rfl (by with_reducible rfl) rfl) rfl ?_)|(refine al_v (ov_pick_f' rfl (by with_reducible rfl) rfl) rfl ?_))|(refine al_v (ov_assign rfl) rfl ?_)|(refine k_call ?_;first|(refine al_v (ov_len_rs rfl) rfl ?_)|(refine al_v (ov_len_str rfl) rfl ?_))|(refine al_v (ov_extract rfl rfl) rfl ?_)|(refine al_nil ?_)|(refine al_alloc rfl rfl rfl (by first|exact ln2|exact ln3) (by repeat constructor) rfl ?_)|(refine al_store rfl rfl rfl rfl rfl (by repeat constructor) (by repeat constructor) ?_)|(refine al_buildSlice (by rfl) (by rfl) (by rfl) (by rfl) (by decide) (by decide) (by rfl) (by rfl) (by repeat constructor) (by rfl) (by repeat constructor) (by rfl) (by first|exact ln2|exact ln3) (by repeat constructor) rfl ?_)|(refine al_v (ov_not_t rfl (by with_reducible rfl)) rfl ?_)|(refine al_v (ov_not_f rfl (by with_reducible rfl)) rfl ?_))|(first|(refine thn_n ?_)|(refine k_awp ?_;first|(refine awp_seq (awp_region ?_))|(refine awp_seq ?_)|(refine awp_region ?_)|(refine k_cond ?_;first|(refine awp_cond_t' rfl (by with_reducible rfl) ?_)|(refine awp_cond_f' rfl (by with_reducible rfl) ?_)|(refine awp_cond_p rfl (fun hc => ?_) (fun hc => ?_) <;> (try (exfalso;omega))))|(refine awp_block ?_)|(refine awp_ret ?_)|(refine awp_skip ?_)|(refine awp_exit ?_))|(refine thn_ret ?_)|(refine lq_exit ?_)|(refine thn_exit ?_)|(refine inb_n ?_)|(refine inb_here ?_)|(refine inb_out rfl ?_)))
      refine awp_wkn (.spell 9 (.int .i64 ((at' + n : Nat) : Int)) rfl (congrArg (AV.int .i64) (by omega))) ?_
    rotate_left
    all_goals
      refine awp_loopq (fun p : List UInt8 × List Rq × Nat × List (List AV) => ⟨[(0, .str s), (1, .rs (intAV cs)), (5, .rs ((drainS s []).1.map rqC)), (6, .int .i64 (drainS s []).2.2), (7, .op 0 0), (8, .os 1 p.2.2.1), (9, .int .i64 ((at' + n : Nat) : Int)), (10, .int .i64 0), (11, .int .i64 i)], [parO true p.1 0, .row 40 8 p.2.2.1 0 p.2.2.2]⟩)
        (fun p => p.2.2.2 = p.2.1.map rqC ∧ 4 * p.2.1.length + p.1.length ≤ at' + n ∧ drainS s [] = drainS (p.1 ++ s.drop (at' + n)) p.2.1) (fun p => p.1.length) (w1, out, ver, xs) (.of (.same (by repeat constructor))) ⟨hxs, by dsimp only; omega, hdr⟩ ?_
      rintro ⟨w', out', ver', xs'⟩ ⟨hxs', ho', hd'⟩
      dsimp only at hxs' ho' hd' ⊢
      have hnf := nextL_facts w'
      have hml : xs'.length = out'.length := by rw [hxs', List.length_map]
      cases hz : nextL w' with
      | more =>
        have hN := a_nextM (w0 := w0) (base := base) hG (by omega) hz
        repeat' (first|(first|(refine k_call ?_;refine al_acall [0] rfl rfl hN ?_ ?_ rfl rfl ?_;(focus ((repeat constructor);done));(focus ((repeat constructor);done));rintro _ _ ⟨rfl, rfl⟩;refine ⟨_, _, by repeat constructor, by repeat constructor, ?_⟩))|(refine k_al ?_;first|(refine al_v (ov_move rfl) rfl ?_)|(refine k_g ?_;first|(refine al_gy' rfl rfl (by with_reducible rfl) ?_)|(refine al_gnt rfl rfl (by with_reducible rfl) rfl ?_)|(refine al_gsp rfl rfl (fun hc => ?_) (fun hc => ?_) <;> (try (exfalso;omega))))|(refine k_load ?_;first|(refine al_v (ov_load rfl rfl) rfl ?_)|(refine al_v (ov_load_agg rfl rfl rfl) rfl ?_))|(refine k_bin ?_;first|(refine al_v (ov_cmp rfl rfl rfl) rfl ?_)|(refine al_v (ov_add rfl rfl (by (first|exact w64 (by omega) (by omega)|rfl))) rfl ?_)|(refine al_v (ov_sub rfl rfl (by (first|exact w64 (by omega) (by omega)|rfl))) rfl ?_)|(refine al_v (ov_rem rfl rfl (by decide) rfl) rfl ?_))|(refine k_pick ?_;first|(refine al_v (ov_pick_t' rfl (by with_reducible rfl) rfl) rfl ?_)|(refine al_v (ov_pick_f' rfl (by with_reducible rfl) rfl) rfl ?_))|(refine al_v (ov_assign rfl) rfl ?_)|(refine k_call ?_;first|(refine al_v (ov_len_rs rfl) rfl ?_)|(refine al_v (ov_len_str rfl) rfl ?_))|(refine al_v (ov_extract rfl rfl) rfl ?_)|(refine al_nil ?_)|(refine al_alloc rfl rfl rfl (by first|exact ln2|exact ln3) (by repeat constructor) rfl ?_)|(refine al_store rfl rfl rfl rfl rfl (by repeat constructor) (by repeat constructor) ?_)|(refine al_buildSlice (by rfl) (by rfl) (by rfl) (by rfl) (by decide) (by decide) (by rfl) (by rfl) (by repeat constructor) (by rfl) (by repeat constructor) (by rfl) (by first|exact ln2|exact ln3) (by repeat constructor) rfl ?_)|(refine al_v (ov_not_t rfl (by with_reducible rfl)) rfl ?_)|(refine al_v (ov_not_f rfl (by with_reducible rfl)) rfl ?_))|(first|(refine thn_n ?_)|(refine k_awp ?_;first|(refine awp_seq (awp_region ?_))|(refine awp_seq ?_)|(refine awp_region ?_)|(refine k_cond ?_;first|(refine awp_cond_t' rfl (by with_reducible rfl) ?_)|(refine awp_cond_f' rfl (by with_reducible rfl) ?_)|(refine awp_cond_p rfl (fun hc => ?_) (fun hc => ?_) <;> (try (exfalso;omega))))|(refine awp_block ?_)|(refine awp_ret ?_)|(refine awp_skip ?_)|(refine awp_exit ?_))|(refine thn_ret ?_)|(refine lq_exit ?_)|(refine thn_exit ?_)|(refine inb_n ?_)|(refine inb_here ?_)|(refine inb_out rfl ?_)))
        first|refine lq_back ⟨i + 1, at' + n, w', out', ver', xs', 0⟩ (.of (.same (by repeat constructor))) ?_ ?_|refine lq_back ⟨i + 1, at' + n, w', out', ver', xs', 0⟩ (.of (wk_drop [_] rfl (by repeat constructor) rfl (by repeat constructor) rfl)) ?_ ?_|refine lq_back ⟨i + 1, at' + n, w', out', ver', xs', 0⟩ (.of (wk_drop [_, _] rfl (by repeat constructor) rfl (by repeat constructor) rfl)) ?_ ?_|refine lq_back ⟨i + 1, at' + n, w', out', ver', xs', 0⟩ (.of (wk_drop [_, _, _] rfl (by repeat constructor) rfl (by repeat constructor) rfl)) ?_ ?_
        · exact ⟨hxs', by dsimp only; omega, by dsimp only; omega, ho', fun _ => ⟨hz, hd', fun h => hn2 (by dsimp only at h; omega)⟩, fun h => absurd rfl h⟩
        · dsimp only; omega
      | bad st =>
        rw [hz] at hnf
        have hne : st ≠ 0 := by rcases hnf with rfl | rfl | rfl | rfl <;> decide
        have hN := a_nextB (w0 := w0) (base := base) hG (by omega) hz
        have hmo := nextL_mono (s := w') (.inr (by rw [List.length_append, List.length_drop]; omega)) (t := s.drop (at' + n)) (by rw [hz]; simp)
        rw [hz] at hmo
        rw [drainS_bad hmo] at hd'
        repeat' (first|(first|(refine k_call ?_;refine al_acall [0] rfl rfl hN ?_ ?_ rfl rfl ?_;(focus ((repeat constructor);done));(focus ((repeat constructor);done));rintro _ _ ⟨rfl, rfl⟩;refine ⟨_, _, by repeat constructor, by repeat constructor, ?_⟩))|(refine k_al ?_;first|(refine al_v (ov_move rfl) rfl ?_)|(refine k_g ?_;first|(refine al_gy' rfl rfl (by with_reducible rfl) ?_)|(refine al_gnt rfl rfl (by with_reducible rfl) rfl ?_)|(refine al_gsp rfl rfl (fun hc => ?_) (fun hc => ?_) <;> (try (exfalso;omega))))|(refine k_load ?_;first|(refine al_v (ov_load rfl rfl) rfl ?_)|(refine al_v (ov_load_agg rfl rfl rfl) rfl ?_))|(refine k_bin ?_;first|(refine al_v (ov_cmp rfl rfl rfl) rfl ?_)|(refine al_v (ov_add rfl rfl (by (first|exact w64 (by omega) (by omega)|rfl))) rfl ?_)|(refine al_v (ov_sub rfl rfl (by (first|exact w64 (by omega) (by omega)|rfl))) rfl ?_)|(refine al_v (ov_rem rfl rfl (by decide) rfl) rfl ?_))|(refine k_pick ?_;first|(refine al_v (ov_pick_t' rfl (by with_reducible rfl) rfl) rfl ?_)|(refine al_v (ov_pick_f' rfl (by with_reducible rfl) rfl) rfl ?_))|(refine al_v (ov_assign rfl) rfl ?_)|(refine k_call ?_;first|(refine al_v (ov_len_rs rfl) rfl ?_)|(refine al_v (ov_len_str rfl) rfl ?_))|(refine al_v (ov_extract rfl rfl) rfl ?_)|(refine al_nil ?_)|(refine al_alloc rfl rfl rfl (by first|exact ln2|exact ln3) (by repeat constructor) rfl ?_)|(refine al_store rfl rfl rfl rfl rfl (by repeat constructor) (by repeat constructor) ?_)|(refine al_buildSlice (by rfl) (by rfl) (by rfl) (by rfl) (by decide) (by decide) (by rfl) (by rfl) (by repeat constructor) (by rfl) (by repeat constructor) (by rfl) (by first|exact ln2|exact ln3) (by repeat constructor) rfl ?_)|(refine al_v (ov_not_t rfl (by with_reducible rfl)) rfl ?_)|(refine al_v (ov_not_f rfl (by with_reducible rfl)) rfl ?_))|(first|(refine thn_n ?_)|(refine k_awp ?_;first|(refine awp_seq (awp_region ?_))|(refine awp_seq ?_)|(refine awp_region ?_)|(refine k_cond ?_;first|(refine awp_cond_t' rfl (by with_reducible rfl) ?_)|(refine awp_cond_f' rfl (by with_reducible rfl) ?_)|(refine awp_cond_p rfl (fun hc => ?_) (fun hc => ?_) <;> (try (exfalso;omega))))|(refine awp_block ?_)|(refine awp_ret ?_)|(refine awp_skip ?_)|(refine awp_exit ?_))|(refine thn_ret ?_)|(refine lq_exit ?_)|(refine thn_exit ?_)|(refine inb_n ?_)|(refine inb_here ?_)|(refine inb_out rfl ?_)))
        first|refine lq_back ⟨i + 1, at' + n, [], out', ver', xs', st⟩ (.of (.same (by repeat constructor))) ?_ ?_|refine lq_back ⟨i + 1, at' + n, [], out', ver', xs', st⟩ (.of (wk_drop [_] rfl (by repeat constructor) rfl (by repeat constructor) rfl)) ?_ ?_|refine lq_back ⟨i + 1, at' + n, [], out', ver', xs', st⟩ (.of (wk_drop [_, _] rfl (by repeat constructor) rfl (by repeat constructor) rfl)) ?_ ?_|refine lq_back ⟨i + 1, at' + n, [], out', ver', xs', st⟩ (.of (wk_drop [_, _, _] rfl (by repeat constructor) rfl (by repeat constructor) rfl)) ?_ ?_
        · exact ⟨hxs', by dsimp only; omega, by dsimp only; omega, by dsimp only [List.length_nil]; omega, fun h => absurd h hne, fun _ => ⟨by rw [hd'], by rw [hd']⟩⟩
        · dsimp only; omega
      | got hd b k =>
        rw [hz] at hnf
        obtain ⟨_, hk4, hkl⟩ := hnf
        have hN := a_nextG (w0 := w0) (base := base) hG (by omega) hz
        have hdl : (w'.drop k).length = w'.length - k := List.length_drop
        have hmo := nextL_mono (s := w') (.inr (by rw [List.length_append, List.length_drop]; omega)) (t := s.drop (at' + n)) (by rw [hz]; simp)
        rw [hz] at hmo
        rw [drainS_got hmo, drop_app hkl] at hd'
        repeat' (first|(first|(refine k_call ?_;refine al_acall [0] rfl rfl hN ?_ ?_ rfl rfl ?_;(focus ((repeat constructor);done));(focus ((repeat constructor);done));rintro _ _ ⟨rfl, rfl⟩;refine ⟨_, _, by repeat constructor, by repeat constructor, ?_⟩)|(refine k_call ?_;refine al_append rfl rfl (by repeat constructor) (src_os rfl rfl) rfl (by decide) (by simp only [List.length_cons, List.length_nil];omega) rfl ?_))|(refine k_al ?_;first|(refine al_v (ov_move rfl) rfl ?_)|(refine k_g ?_;first|(refine al_gy' rfl rfl (by with_reducible rfl) ?_)|(refine al_gnt rfl rfl (by with_reducible rfl) rfl ?_)|(refine al_gsp rfl rfl (fun hc => ?_) (fun hc => ?_) <;> (try (exfalso;omega))))|(refine k_load ?_;first|(refine al_v (ov_load rfl rfl) rfl ?_)|(refine al_v (ov_load_agg rfl rfl rfl) rfl ?_))|(refine k_bin ?_;first|(refine al_v (ov_cmp rfl rfl rfl) rfl ?_)|(refine al_v (ov_add rfl rfl (by (first|exact w64 (by omega) (by omega)|rfl))) rfl ?_)|(refine al_v (ov_sub rfl rfl (by (first|exact w64 (by omega) (by omega)|rfl))) rfl ?_)|(refine al_v (ov_rem rfl rfl (by decide) rfl) rfl ?_))|(refine k_pick ?_;first|(refine al_v (ov_pick_t' rfl (by with_reducible rfl) rfl) rfl ?_)|(refine al_v (ov_pick_f' rfl (by with_reducible rfl) rfl) rfl ?_))|(refine al_v (ov_assign rfl) rfl ?_)|(refine k_call ?_;first|(refine al_v (ov_len_rs rfl) rfl ?_)|(refine al_v (ov_len_str rfl) rfl ?_))|(refine al_v (ov_extract rfl rfl) rfl ?_)|(refine al_nil ?_)|(refine al_alloc rfl rfl rfl (by first|exact ln2|exact ln3) (by repeat constructor) rfl ?_)|(refine al_store rfl rfl rfl rfl rfl (by repeat constructor) (by repeat constructor) ?_)|(refine al_buildSlice (by rfl) (by rfl) (by rfl) (by rfl) (by decide) (by decide) (by rfl) (by rfl) (by repeat constructor) (by rfl) (by repeat constructor) (by rfl) (by first|exact ln2|exact ln3) (by repeat constructor) rfl ?_)|(refine al_v (ov_not_t rfl (by with_reducible rfl)) rfl ?_)|(refine al_v (ov_not_f rfl (by with_reducible rfl)) rfl ?_))|(first|(refine thn_n ?_)|(refine k_awp ?_;first|(refine awp_seq (awp_region ?_))|(refine awp_seq ?_)|(refine awp_region ?_)|(refine k_cond ?_;first|(refine awp_cond_t' rfl (by with_reducible rfl) ?_)|(refine awp_cond_f' rfl (by with_reducible rfl) ?_)|(refine awp_cond_p rfl (fun hc => ?_) (fun hc => ?_) <;> (try (exfalso;omega))))|(refine awp_block ?_)|(refine awp_ret ?_)|(refine awp_skip ?_)|(refine awp_exit ?_))|(refine thn_ret ?_)|(refine lq_exit ?_)|(refine thn_exit ?_)|(refine inb_n ?_)|(refine inb_here ?_)|(refine inb_out rfl ?_)))
        first|refine lq_back (w'.drop k, out' ++ [rqOf hd b], ver' + 1, _) (.of (.same (by repeat constructor))) ?_ ?_|refine lq_back (w'.drop k, out' ++ [rqOf hd b], ver' + 1, _) (.of (wk_drop [_] rfl (by repeat constructor) rfl (by repeat constructor) rfl)) ?_ ?_|refine lq_back (w'.drop k, out' ++ [rqOf hd b], ver' + 1, _) (.of (wk_drop [_, _] rfl (by repeat constructor) rfl (by repeat constructor) rfl)) ?_ ?_|refine lq_back (w'.drop k, out' ++ [rqOf hd b], ver' + 1, _) (.of (wk_drop [_, _, _] rfl (by repeat constructor) rfl (by repeat constructor) rfl)) ?_ ?_
        · refine ⟨?_, ?_, hd'⟩
          · dsimp only
            rw [hxs', List.map_append]
            rfl
          · simp only [List.length_append, List.length_cons, List.length_nil]; omega
        · dsimp only; omega
  · obtain ⟨e1, e2⟩ := hok.fin hgo
    have hxs := hok.xs
    dsimp only at e1 e2 hgo hxs ⊢
    rw [e1] at hS
    rw [e1, e2]
    subst hxs
    clear hok
    repeat' (first|(refine k_al ?_;first|(refine al_v (ov_move rfl) rfl ?_)|(refine k_g ?_;first|(refine al_gy' rfl rfl (by with_reducible rfl) ?_)|(refine al_gnt rfl rfl (by with_reducible rfl) rfl ?_)|(refine al_gsp rfl rfl (fun hc => ?_) (fun hc => ?_) <;> (try (exfalso;omega))))|(refine k_load ?_;first|(refine al_v (ov_load rfl rfl) rfl ?_)|(refine al_v (ov_load_agg rfl rfl rfl) rfl ?_))|(refine k_bin ?_;first|(refine al_v (ov_cmp rfl rfl rfl) rfl ?_)|(refine al_v (ov_add rfl rfl (by (first|exact w64 (by omega) (by omega)|rfl))) rfl ?_)|(refine al_v (ov_sub rfl rfl (by (first|exact w64 (by omega) (by omega)|rfl))) rfl ?_)|(refine al_v (ov_rem rfl rfl (by decide) rfl) rfl ?_))|(refine k_pick ?_;first|(refine al_v (ov_pick_t' rfl (by with_reducible rfl) rfl) rfl ?_)|(refine al_v (ov_pick_f' rfl (by with_reducible rfl) rfl) rfl ?_))|(refine al_v (ov_assign rfl) rfl ?_)|(refine k_call ?_;first|(refine al_v (ov_len_rs rfl) rfl ?_)|(refine al_v (ov_len_str rfl) rfl ?_))|(refine al_v (ov_extract rfl rfl) rfl ?_)|(refine al_nil ?_)|(refine al_alloc rfl rfl rfl (by first|exact ln2|exact ln3) (by repeat constructor) rfl ?_)|(refine al_store rfl rfl rfl rfl rfl (by repeat constructor) (by repeat constructor) ?_)|(refine al_buildSlice (by rfl) (by rfl) (by rfl) (by rfl) (by decide) (by decide) (by rfl) (by rfl) (by repeat constructor) (by rfl) (by repeat constructor) (by rfl) (by first|exact ln2|exact ln3) (by repeat constructor) rfl ?_)|(refine al_v (ov_not_t rfl (by with_reducible rfl)) rfl ?_)|(refine al_v (ov_not_f rfl (by with_reducible rfl)) rfl ?_))|(first|(refine thn_n ?_)|(refine k_awp ?_;first|(refine awp_seq (awp_region ?_))|(refine awp_seq ?_)|(refine awp_region ?_)|(refine k_cond ?_;first|(refine awp_cond_t' rfl (by with_reducible rfl) ?_)|(refine awp_cond_f' rfl (by with_reducible rfl) ?_)|(refine awp_cond_p rfl (fun hc => ?_) (fun hc => ?_) <;> (try (exfalso;omega))))|(refine awp_block ?_)|(refine awp_ret ?_)|(refine awp_skip ?_)|(refine awp_exit ?_))|(refine thn_ret ?_)|(refine lq_exit ?_)|(refine thn_exit ?_)|(refine inb_n ?_)|(refine inb_here ?_)|(refine inb_out rfl ?_)))
    all_goals
      refine al_wkn (.freeze 86 rfl (by repeat constructor)) ?_
      repeat' (first|(first|(refine k_call ?_;refine al_call rfl rfl rfl rfl hS ?_;rintro _ rfl)|(refine k_call ?_;refine al_call rfl rfl rfl rfl hW ?_;rintro _ rfl))|(refine k_al ?_;first|(refine al_v (ov_move rfl) rfl ?_)|(refine k_g ?_;first|(refine al_gy' rfl rfl (by with_reducible rfl) ?_)|(refine al_gnt rfl rfl (by with_reducible rfl) rfl ?_)|(refine al_gsp rfl rfl (fun hc => ?_) (fun hc => ?_) <;> (try (exfalso;omega))))|(refine k_load ?_;first|(refine al_v (ov_load rfl rfl) rfl ?_)|(refine al_v (ov_load_agg rfl rfl rfl) rfl ?_))|(refine k_bin ?_;first|(refine al_v (ov_cmp rfl rfl rfl) rfl ?_)|(refine al_v (ov_add rfl rfl (by (first|exact w64 (by omega) (by omega)|rfl))) rfl ?_)|(refine al_v (ov_sub rfl rfl (by (first|exact w64 (by omega) (by omega)|rfl))) rfl ?_)|(refine al_v (ov_rem rfl rfl (by decide) rfl) rfl ?_))|(refine k_pick ?_;first|(refine al_v (ov_pick_t' rfl (by with_reducible rfl) rfl) rfl ?_)|(refine al_v (ov_pick_f' rfl (by with_reducible rfl) rfl) rfl ?_))|(refine al_v (ov_assign rfl) rfl ?_)|(refine k_call ?_;first|(refine al_v (ov_len_rs rfl) rfl ?_)|(refine al_v (ov_len_str rfl) rfl ?_))|(refine al_v (ov_extract rfl rfl) rfl ?_)|(refine al_nil ?_)|(refine al_alloc rfl rfl rfl (by first|exact ln2|exact ln3) (by repeat constructor) rfl ?_)|(refine al_store rfl rfl rfl rfl rfl (by repeat constructor) (by repeat constructor) ?_)|(refine al_buildSlice (by rfl) (by rfl) (by rfl) (by rfl) (by decide) (by decide) (by rfl) (by rfl) (by repeat constructor) (by rfl) (by repeat constructor) (by rfl) (by first|exact ln2|exact ln3) (by repeat constructor) rfl ?_)|(refine al_v (ov_not_t rfl (by with_reducible rfl)) rfl ?_)|(refine al_v (ov_not_f rfl (by with_reducible rfl)) rfl ?_))|(first|(refine thn_n ?_)|(refine k_awp ?_;first|(refine awp_seq (awp_region ?_))|(refine awp_seq ?_)|(refine awp_region ?_)|(refine k_cond ?_;first|(refine awp_cond_t' rfl (by with_reducible rfl) ?_)|(refine awp_cond_f' rfl (by with_reducible rfl) ?_)|(refine awp_cond_p rfl (fun hc => ?_) (fun hc => ?_) <;> (try (exfalso;omega))))|(refine awp_block ?_)|(refine awp_ret ?_)|(refine awp_skip ?_)|(refine awp_exit ?_))|(refine thn_ret ?_)|(refine lq_exit ?_)|(refine thn_exit ?_)|(refine inb_n ?_)|(refine inb_here ?_)|(refine inb_out rfl ?_)))
      all_goals first
        | (refine ret1 (by first | exact .inr rfl | exact .inl rfl) rfl rfl ?_
           exact ⟨rfl, rfl⟩)
        | (exact absurd rfl (show ¬ _ from ‹¬ _›))
end
end Go.Proofs.YtffcgpkbibijpaaGreatDoor.L
