/- Part 6 of the texts behind the theorem of this claim: Layer 8 (parse): the chunks of a body, as the reference reads them;Layer 8 (parse): the chunks of a body, as the reference reads them: all of them;Layer 8 (parse): what the next request is, as a plain function;the small methods of a parser;Layer 8 (parse): where a head ends, and how the reference is fed;Layer 8 (parse): what is known of a head that was read, and of the body that it asks for;The logic, part 32: a held region in which two operations that change something may come up in either order;Layer 8 (parse): the next request, as the reference reads it;Layer 8 (parse): the next request, as the program reads it;Layer 8 (parse): the methods of a parser, with what they make for themselves forgotten;parsers that nobody made;Layer 8 (parse): whether requests are the same;Layer 8 (parse): a list of requests is the same as itself;Layer 8 (parse): all requests of bytes, as a plain function;Layer 8 (parse): what is known of the next request;Layer 8 (parse): all requests of bytes, as the program reads them;Layer 8 (parse): what must come, whatever the arguments are;Layer 8 (parse): all requests of bytes, as the reference reads them;Layer 8 (parse): the requests that are read are of no great texts;Layer 8 (parse): the law ParseAll;The logic, part 33: objects renamed and dropped;string(b) of bytes that never change;an and of bits -/
import Derived.Test.YtffcgpkbibijpaaGreatDoorQd5
set_option linter.unusedVariables false
set_option linter.unusedSimpArgs false
namespace Go.Proofs.YtffcgpkbibijpaaGreatDoor.L
open Go Go.RowKit Go.Proofs
set_option linter.unusedVariables false
set_option linter.unusedSimpArgs false
set_option maxRecDepth 100000
attribute [local irreducible] AL QL AWp Thn InB RetQ ACalls LoopQ HL HO HW HQ NoG JmpQ MidQ

def rsAV : RS → AV
  | .more => .tup [.int .i64 0, .int .i64 (-1)]
  | .wrong => .tup [.int .i64 0, .int .i64 (-2)]
  | .got n k => .tup [.int .i64 (n : Int), .int .i64 (k : Int)]
theorem end_more {n i : Nat} {s : List UInt8} (h : s.length ≤ i) : endL n i (s.drop i) = .more := by
  rw [List.drop_eq_nil_of_le h, endL]
theorem end_cr {n i : Nat} {s : List UInt8} (h : i + 1 = s.length) (hc : byteAt s (i : Int) = 13) : endL n i (s.drop i) = .more := by
  rw [drop_bAt (by omega), List.drop_eq_nil_of_le (by omega), endL, if_pos (show bAt s (i : Int) = 13 from u8_of_int 13 (by decide) (by rw [byteAt_eq] at hc; exact hc))]
theorem end_bad {n i : Nat} {s : List UInt8} (h : i < s.length) (hc : byteAt s (i : Int) ≠ 13) : endL n i (s.drop i) = .wrong := by
  have h13 : bAt s (i : Int) ≠ 13 := by intro k; apply hc; rw [byteAt_eq, k]; rfl
  rw [drop_bAt h]
  cases hl : s.drop (i + 1) with
  | nil => rw [endL, if_neg h13]
  | cons d r => rw [endL, if_neg (fun k => h13 k.1)]
theorem end_bad2 {n i : Nat} {s : List UInt8} (h : i + 1 < s.length) (hc : byteAt s ((i : Int) + 1) ≠ 10) : endL n i (s.drop i) = .wrong := by
  have h10 : bAt s ((i + 1 : Nat) : Int) ≠ 10 := by intro k; apply hc; have := byteAt_eq s ((i + 1 : Nat) : Int); rw [k] at this; exact this
  rw [drop_bAt (by omega), drop_bAt h, endL, if_neg (fun k => h10 k.2)]
theorem end_got {n i : Nat} {s : List UInt8} (h : i + 1 < s.length) (hc : byteAt s (i : Int) = 13) (hd : byteAt s ((i : Int) + 1) = 10) : endL n i (s.drop i) = .got n (i + 2) := by
  have h13 : bAt s (i : Int) = 13 := u8_of_int 13 (by decide) (by rw [byteAt_eq] at hc; exact hc)
  have h10 : bAt s ((i + 1 : Nat) : Int) = 10 := u8_of_int 10 (by decide) (by have := byteAt_eq s ((i + 1 : Nat) : Int); rw [← this]; exact hd)
  rw [drop_bAt (by omega), drop_bAt h, endL, if_pos ⟨h13, h10⟩]
section
variable {w0 : World} {base : Nat}
set_option maxHeartbeats 1000000 in
theorem s_ended {s : List UInt8} {i n : Nat} (h : i ≤ s.length) (hs : s.length ≤ 1099511627776) : PCalls (EE w0 base) 124 [.str s, .int .i64 i, .int .i64 n] fun rv => rv = rsAV (endL n i (s.drop i)) := by
  refine acalls_of Tryz.func124 rfl rfl rfl (.cons (.cons (.cons .nil))) ?_
  by_cases h0 : i < s.length
  · by_cases hc : byteAt s (i : Int) = 13
    · by_cases h1 : i + 1 < s.length
      · by_cases hd : byteAt s ((i : Int) + 1) = 10
        · rw [end_got h1 hc hd]
          repeat' (first|(refine k_al ?_;first|(refine al_v (ov_move rfl) rfl ?_)|(refine k_g ?_;first|(refine al_gy' rfl rfl (by with_reducible rfl) ?_)|(refine al_gnt rfl rfl (by with_reducible rfl) rfl ?_)|(refine al_gsp rfl rfl (fun hc => ?_) (fun hc => ?_) <;> (try (exfalso;omega))))|(refine k_bin ?_;first|(refine al_v (ov_cmp rfl rfl rfl) rfl ?_)|(refine al_v (ov_add rfl rfl (by (first|exact w64 (by omega) (by omega)|rfl))) rfl ?_))|(refine k_pick ?_;first|(refine al_v (ov_pick_t' rfl (by with_reducible rfl) rfl) rfl ?_)|(refine al_v (ov_pick_f' rfl (by with_reducible rfl) rfl) rfl ?_))|(refine al_v (ov_assign rfl) rfl ?_)|(refine k_call ?_;first|(refine al_v (ov_len_str rfl) rfl ?_))|(refine al_nil ?_)|(refine al_v (ov_index rfl rfl (by omega) (by omega)) rfl ?_))|(first|(refine thn_n ?_)|(refine k_awp ?_;first|(refine awp_seq (awp_region ?_))|(refine awp_seq ?_)|(refine awp_region ?_)|(refine k_cond ?_;first|(refine awp_cond_f' rfl (by with_reducible rfl) ?_)|(refine awp_cond_p rfl (fun hc => ?_) (fun hc => ?_) <;> (try (exfalso;omega))))|(refine awp_ret ?_)|(refine awp_skip ?_))|(refine thn_ret ?_)))
          refine ret2 (by first | exact .inr rfl | exact .inl rfl) rfl rfl rfl ?_
          exact ⟨rfl, rfl⟩
        · rw [end_bad2 h1 hd]
          repeat' (first|(refine k_al ?_;first|(refine al_v (ov_move rfl) rfl ?_)|(refine k_g ?_;first|(refine al_gy' rfl rfl (by with_reducible rfl) ?_)|(refine al_gnt rfl rfl (by with_reducible rfl) rfl ?_)|(refine al_gsp rfl rfl (fun hc => ?_) (fun hc => ?_) <;> (try (exfalso;omega))))|(refine k_bin ?_;first|(refine al_v (ov_cmp rfl rfl rfl) rfl ?_)|(refine al_v (ov_add rfl rfl (by (first|exact w64 (by omega) (by omega)|rfl))) rfl ?_))|(refine k_pick ?_;first|(refine al_v (ov_pick_t' rfl (by with_reducible rfl) rfl) rfl ?_)|(refine al_v (ov_pick_f' rfl (by with_reducible rfl) rfl) rfl ?_))|(refine al_v (ov_assign rfl) rfl ?_)|(refine k_call ?_;first|(refine al_v (ov_len_str rfl) rfl ?_))|(refine al_nil ?_)|(refine al_v (ov_index rfl rfl (by omega) (by omega)) rfl ?_))|(first|(refine thn_n ?_)|(refine k_awp ?_;first|(refine awp_seq (awp_region ?_))|(refine awp_seq ?_)|(refine awp_region ?_)|(refine k_cond ?_;first|(refine awp_cond_f' rfl (by with_reducible rfl) ?_)|(refine awp_cond_p rfl (fun hc => ?_) (fun hc => ?_) <;> (try (exfalso;omega))))|(refine awp_ret ?_)|(refine awp_skip ?_))|(refine thn_ret ?_)))
          refine ret2 (by first | exact .inr rfl | exact .inl rfl) rfl rfl rfl ?_
          exact ⟨rfl, rfl⟩
      · rw [end_cr (by omega) hc]
        repeat' (first|(refine k_al ?_;first|(refine al_v (ov_move rfl) rfl ?_)|(refine k_g ?_;first|(refine al_gy' rfl rfl (by with_reducible rfl) ?_)|(refine al_gnt rfl rfl (by with_reducible rfl) rfl ?_)|(refine al_gsp rfl rfl (fun hc => ?_) (fun hc => ?_) <;> (try (exfalso;omega))))|(refine k_bin ?_;first|(refine al_v (ov_cmp rfl rfl rfl) rfl ?_)|(refine al_v (ov_add rfl rfl (by (first|exact w64 (by omega) (by omega)|rfl))) rfl ?_))|(refine k_pick ?_;first|(refine al_v (ov_pick_t' rfl (by with_reducible rfl) rfl) rfl ?_)|(refine al_v (ov_pick_f' rfl (by with_reducible rfl) rfl) rfl ?_))|(refine al_v (ov_assign rfl) rfl ?_)|(refine k_call ?_;first|(refine al_v (ov_len_str rfl) rfl ?_))|(refine al_nil ?_)|(refine al_v (ov_index rfl rfl (by omega) (by omega)) rfl ?_))|(first|(refine thn_n ?_)|(refine k_awp ?_;first|(refine awp_seq (awp_region ?_))|(refine awp_seq ?_)|(refine awp_region ?_)|(refine k_cond ?_;first|(refine awp_cond_f' rfl (by with_reducible rfl) ?_)|(refine awp_cond_p rfl (fun hc => ?_) (fun hc => ?_) <;> (try (exfalso;omega))))|(refine awp_ret ?_)|(refine awp_skip ?_))|(refine thn_ret ?_)))
        refine ret2 (by first | exact .inr rfl | exact .inl rfl) rfl rfl rfl ?_
        exact ⟨rfl, rfl⟩
    · rw [end_bad h0 hc]
      repeat' (first|(refine k_al ?_;first|(refine al_v (ov_move rfl) rfl ?_)|(refine k_g ?_;first|(refine al_gy' rfl rfl (by with_reducible rfl) ?_)|(refine al_gnt rfl rfl (by with_reducible rfl) rfl ?_)|(refine al_gsp rfl rfl (fun hc => ?_) (fun hc => ?_) <;> (try (exfalso;omega))))|(refine k_bin ?_;first|(refine al_v (ov_cmp rfl rfl rfl) rfl ?_)|(refine al_v (ov_add rfl rfl (by (first|exact w64 (by omega) (by omega)|rfl))) rfl ?_))|(refine k_pick ?_;first|(refine al_v (ov_pick_t' rfl (by with_reducible rfl) rfl) rfl ?_)|(refine al_v (ov_pick_f' rfl (by with_reducible rfl) rfl) rfl ?_))|(refine al_v (ov_assign rfl) rfl ?_)|(refine k_call ?_;first|(refine al_v (ov_len_str rfl) rfl ?_))|(refine al_nil ?_)|(refine al_v (ov_index rfl rfl (by omega) (by omega)) rfl ?_))|(first|(refine thn_n ?_)|(refine k_awp ?_;first|(refine awp_seq (awp_region ?_))|(refine awp_seq ?_)|(refine awp_region ?_)|(refine k_cond ?_;first|(refine awp_cond_f' rfl (by with_reducible rfl) ?_)|(refine awp_cond_p rfl (fun hc => ?_) (fun hc => ?_) <;> (try (exfalso;omega))))|(refine awp_ret ?_)|(refine awp_skip ?_))|(refine thn_ret ?_)))
      refine ret2 (by first | exact .inr rfl | exact .inl rfl) rfl rfl rfl ?_
      exact ⟨rfl, rfl⟩
  · rw [end_more (by omega)]
    repeat' (first|(refine k_al ?_;first|(refine al_v (ov_move rfl) rfl ?_)|(refine k_g ?_;first|(refine al_gy' rfl rfl (by with_reducible rfl) ?_)|(refine al_gnt rfl rfl (by with_reducible rfl) rfl ?_)|(refine al_gsp rfl rfl (fun hc => ?_) (fun hc => ?_) <;> (try (exfalso;omega))))|(refine k_bin ?_;first|(refine al_v (ov_cmp rfl rfl rfl) rfl ?_)|(refine al_v (ov_add rfl rfl (by (first|exact w64 (by omega) (by omega)|rfl))) rfl ?_))|(refine k_pick ?_;first|(refine al_v (ov_pick_t' rfl (by with_reducible rfl) rfl) rfl ?_)|(refine al_v (ov_pick_f' rfl (by with_reducible rfl) rfl) rfl ?_))|(refine al_v (ov_assign rfl) rfl ?_)|(refine k_call ?_;first|(refine al_v (ov_len_str rfl) rfl ?_))|(refine al_nil ?_)|(refine al_v (ov_index rfl rfl (by omega) (by omega)) rfl ?_))|(first|(refine thn_n ?_)|(refine k_awp ?_;first|(refine awp_seq (awp_region ?_))|(refine awp_seq ?_)|(refine awp_region ?_)|(refine k_cond ?_;first|(refine awp_cond_f' rfl (by with_reducible rfl) ?_)|(refine awp_cond_p rfl (fun hc => ?_) (fun hc => ?_) <;> (try (exfalso;omega))))|(refine awp_ret ?_)|(refine awp_skip ?_))|(refine thn_ret ?_)))
    refine ret2 (by first | exact .inr rfl | exact .inl rfl) rfl rfl rfl ?_
    exact ⟨rfl, rfl⟩
set_option maxHeartbeats 4000000 in
theorem s_size {s : List UInt8} {at' : Nat} (h : at' ≤ s.length) (hs : s.length ≤ 1099511627776) : PCalls (EE w0 base) 123 [.str s, .int .i64 at'] fun rv => rv = rsAV (sizeL at' 0 0 at' (s.drop at')) := by
  refine acalls_of Tryz.func123 rfl rfl rfl (.cons (.cons .nil)) ?_
  obtain ⟨T, hT⟩ : ∃ T, T = sizeL at' 0 0 at' (s.drop at') := ⟨_, rfl⟩
  rw [← hT]
  repeat' (first|(refine k_al ?_;first|(refine al_v (ov_move rfl) rfl ?_)|(refine k_g ?_;first|(refine al_gy' rfl rfl (by with_reducible rfl) ?_)|(refine al_gnt rfl rfl (by with_reducible rfl) rfl ?_)|(refine al_gnf rfl rfl (by with_reducible rfl) rfl ?_)|(refine al_gu rfl rfl rfl ?_)|(refine al_gsp rfl rfl (fun hc => ?_) (fun hc => ?_) <;> (try (exfalso;omega))))|(refine k_bin ?_;first|(refine al_v (ov_cmp rfl rfl rfl) rfl ?_)|(refine al_v (ov_add rfl rfl (by (first|exact w64 (by omega) (by omega)|rfl))) rfl ?_)|(refine al_v (ov_sub rfl rfl (by (first|exact w64 (by omega) (by omega)|rfl))) rfl ?_)|(refine al_v (ov_mul rfl rfl (by (first|exact w64 (by omega) (by omega)|rfl))) rfl ?_))|(refine k_pick ?_;first|(refine al_v (ov_pick_t' rfl (by with_reducible rfl) rfl) rfl ?_)|(refine al_v (ov_pick_f' rfl (by with_reducible rfl) rfl) rfl ?_))|(refine al_v (ov_assign rfl) rfl ?_)|(refine k_call ?_;first|(refine al_v (ov_len_str rfl) rfl ?_))|(refine al_v (ov_extract rfl rfl) rfl ?_)|(refine al_nil ?_)|(refine al_v (ov_index rfl rfl (by omega) (by omega)) rfl ?_))|(first|(refine thn_n ?_)|(refine k_awp ?_;first|(refine awp_seq (awp_region ?_))|(refine awp_seq ?_)|(refine awp_region ?_)|(refine k_cond ?_;first|(refine awp_cond_t' rfl (by with_reducible rfl) ?_)|(refine awp_cond_f' rfl (by with_reducible rfl) ?_)|(refine awp_cond_p rfl (fun hc => ?_) (fun hc => ?_) <;> (try (exfalso;omega))))|(refine awp_block ?_)|(refine awp_ret ?_)|(refine awp_skip ?_)|(refine awp_exit ?_))|(refine thn_ret ?_)|(refine lq_exit ?_)|(refine lq_ret ?_)|(refine thn_exit ?_)|(refine inb_n ?_)|(refine inb_ret ?_)|(refine inb_here ?_)))
  refine awp_loopq (fun x : Nat × Nat × Nat => ⟨[(0, .str s), (1, .int .i64 at'), (6, .int .i64 x.1), (7, .int .i64 x.2.1), (8, .int .i64 x.2.2)], []⟩) (fun x => at' ≤ x.2.2 ∧ x.2.2 ≤ s.length ∧ x.2.1 ≤ 8 ∧ x.1 < 16 ^ x.2.1 ∧ T = sizeL at' x.2.1 x.1 x.2.2 (s.drop x.2.2)) (fun x => s.length - x.2.2) (0, 0, at') (.of (.same (by repeat constructor))) ⟨Nat.le_refl _, h, Nat.zero_le _, Nat.zero_lt_one, hT⟩ ?_
  rintro ⟨n, d, i⟩ ⟨hai, hil, hd8, hn, hTi⟩
  dsimp only at hai hil hd8 hn hTi ⊢
  have hpw := pow16 hd8
  by_cases hend : i < s.length
  · have hx16 := hexI_lt (s.getD ((i : Nat) : Int).toNat 0)
    have hR := s_hexR (w0 := w0) (base := base) (b := s.getD ((i : Nat) : Int).toNat 0)
    by_cases hdig : 0 ≤ hexI (s.getD ((i : Nat) : Int).toNat 0)
    · have hst := size_step (line := at') (d := d) (n := n) hend hdig
      rw [hst] at hTi
      dsimp only [bAt] at hTi
      obtain ⟨m, hm⟩ : ∃ m : Nat, hexI (s.getD ((i : Nat) : Int).toNat 0) = m := ⟨(hexI (s.getD ((i : Nat) : Int).toNat 0)).toNat, by omega⟩
      rw [hm] at hR hTi hx16 hdig
      rw [Int.toNat_natCast] at hTi
      by_cases hd : d = 8
      · rw [if_pos hd] at hTi
        repeat' (first|((refine k_call ?_;refine al_call rfl rfl rfl rfl hR ?_;rintro _ rfl))|(refine k_al ?_;first|(refine al_v (ov_move rfl) rfl ?_)|(refine k_g ?_;first|(refine al_gy' rfl rfl (by with_reducible rfl) ?_)|(refine al_gnt rfl rfl (by with_reducible rfl) rfl ?_)|(refine al_gnf rfl rfl (by with_reducible rfl) rfl ?_)|(refine al_gu rfl rfl rfl ?_)|(refine al_gsp rfl rfl (fun hc => ?_) (fun hc => ?_) <;> (try (exfalso;omega))))|(refine k_bin ?_;first|(refine al_v (ov_cmp rfl rfl rfl) rfl ?_)|(refine al_v (ov_add rfl rfl (by (first|exact w64 (by omega) (by omega)|rfl))) rfl ?_)|(refine al_v (ov_sub rfl rfl (by (first|exact w64 (by omega) (by omega)|rfl))) rfl ?_)|(refine al_v (ov_mul rfl rfl (by (first|exact w64 (by omega) (by omega)|rfl))) rfl ?_))|(refine k_pick ?_;first|(refine al_v (ov_pick_t' rfl (by with_reducible rfl) rfl) rfl ?_)|(refine al_v (ov_pick_f' rfl (by with_reducible rfl) rfl) rfl ?_))|(refine al_v (ov_assign rfl) rfl ?_)|(refine k_call ?_;first|(refine al_v (ov_len_str rfl) rfl ?_))|(refine al_v (ov_extract rfl rfl) rfl ?_)|(refine al_nil ?_)|(refine al_v (ov_index rfl rfl (by omega) (by omega)) rfl ?_))|(first|(refine thn_n ?_)|(refine k_awp ?_;first|(refine awp_seq (awp_region ?_))|(refine awp_seq ?_)|(refine awp_region ?_)|(refine k_cond ?_;first|(refine awp_cond_t' rfl (by with_reducible rfl) ?_)|(refine awp_cond_f' rfl (by with_reducible rfl) ?_)|(refine awp_cond_p rfl (fun hc => ?_) (fun hc => ?_) <;> (try (exfalso;omega))))|(refine awp_block ?_)|(refine awp_ret ?_)|(refine awp_skip ?_)|(refine awp_exit ?_))|(refine thn_ret ?_)|(refine lq_exit ?_)|(refine lq_ret ?_)|(refine thn_exit ?_)|(refine inb_n ?_)|(refine inb_ret ?_)|(refine inb_here ?_)))
        refine ret2 (by first | exact .inr rfl | exact .inl rfl) rfl rfl rfl ?_
        exact ⟨by rw [hTi]; rfl, rfl⟩
      · rw [if_neg hd] at hTi
        have hp7 := pow16_7 (d := d) (by omega)
        repeat' (first|((refine k_call ?_;refine al_call rfl rfl rfl rfl hR ?_;rintro _ rfl))|(refine k_al ?_;first|(refine al_v (ov_move rfl) rfl ?_)|(refine k_g ?_;first|(refine al_gy' rfl rfl (by with_reducible rfl) ?_)|(refine al_gnt rfl rfl (by with_reducible rfl) rfl ?_)|(refine al_gnf rfl rfl (by with_reducible rfl) rfl ?_)|(refine al_gu rfl rfl rfl ?_)|(refine al_gsp rfl rfl (fun hc => ?_) (fun hc => ?_) <;> (try (exfalso;omega))))|(refine k_bin ?_;first|(refine al_v (ov_cmp rfl rfl rfl) rfl ?_)|(refine al_v (ov_add rfl rfl (by (first|exact w64 (by omega) (by omega)|rfl))) rfl ?_)|(refine al_v (ov_sub rfl rfl (by (first|exact w64 (by omega) (by omega)|rfl))) rfl ?_)|(refine al_v (ov_mul rfl rfl (by (first|exact w64 (by omega) (by omega)|rfl))) rfl ?_))|(refine k_pick ?_;first|(refine al_v (ov_pick_t' rfl (by with_reducible rfl) rfl) rfl ?_)|(refine al_v (ov_pick_f' rfl (by with_reducible rfl) rfl) rfl ?_))|(refine al_v (ov_assign rfl) rfl ?_)|(refine k_call ?_;first|(refine al_v (ov_len_str rfl) rfl ?_))|(refine al_v (ov_extract rfl rfl) rfl ?_)|(refine al_nil ?_)|(refine al_v (ov_index rfl rfl (by omega) (by omega)) rfl ?_))|(first|(refine thn_n ?_)|(refine k_awp ?_;first|(refine awp_seq (awp_region ?_))|(refine awp_seq ?_)|(refine awp_region ?_)|(refine k_cond ?_;first|(refine awp_cond_t' rfl (by with_reducible rfl) ?_)|(refine awp_cond_f' rfl (by with_reducible rfl) ?_)|(refine awp_cond_p rfl (fun hc => ?_) (fun hc => ?_) <;> (try (exfalso;omega))))|(refine awp_block ?_)|(refine awp_ret ?_)|(refine awp_skip ?_)|(refine awp_exit ?_))|(refine thn_ret ?_)|(refine lq_exit ?_)|(refine lq_ret ?_)|(refine thn_exit ?_)|(refine inb_n ?_)|(refine inb_ret ?_)|(refine inb_here ?_)))
        first | refine lq_back (16 * n + m, d + 1, i + 1) (.of (.same (by repeat constructor))) ?_ ?_ | fail
        · refine ⟨by dsimp only; omega, by dsimp only; omega, by dsimp only; omega, ?_, hTi⟩
          dsimp only
          rw [Nat.pow_succ]
          omega
        · dsimp only; omega
    · by_cases hd : d = 0
      · subst hd
        rw [size_none hend hdig] at hTi
        repeat' (first|((refine k_call ?_;refine al_call rfl rfl rfl rfl hR ?_;rintro _ rfl))|(refine k_al ?_;first|(refine al_v (ov_move rfl) rfl ?_)|(refine k_g ?_;first|(refine al_gy' rfl rfl (by with_reducible rfl) ?_)|(refine al_gnt rfl rfl (by with_reducible rfl) rfl ?_)|(refine al_gnf rfl rfl (by with_reducible rfl) rfl ?_)|(refine al_gu rfl rfl rfl ?_)|(refine al_gsp rfl rfl (fun hc => ?_) (fun hc => ?_) <;> (try (exfalso;omega))))|(refine k_bin ?_;first|(refine al_v (ov_cmp rfl rfl rfl) rfl ?_)|(refine al_v (ov_add rfl rfl (by (first|exact w64 (by omega) (by omega)|rfl))) rfl ?_)|(refine al_v (ov_sub rfl rfl (by (first|exact w64 (by omega) (by omega)|rfl))) rfl ?_)|(refine al_v (ov_mul rfl rfl (by (first|exact w64 (by omega) (by omega)|rfl))) rfl ?_))|(refine k_pick ?_;first|(refine al_v (ov_pick_t' rfl (by with_reducible rfl) rfl) rfl ?_)|(refine al_v (ov_pick_f' rfl (by with_reducible rfl) rfl) rfl ?_))|(refine al_v (ov_assign rfl) rfl ?_)|(refine k_call ?_;first|(refine al_v (ov_len_str rfl) rfl ?_))|(refine al_v (ov_extract rfl rfl) rfl ?_)|(refine al_nil ?_)|(refine al_v (ov_index rfl rfl (by omega) (by omega)) rfl ?_))|(first|(refine thn_n ?_)|(refine k_awp ?_;first|(refine awp_seq (awp_region ?_))|(refine awp_seq ?_)|(refine awp_region ?_)|(refine k_cond ?_;first|(refine awp_cond_t' rfl (by with_reducible rfl) ?_)|(refine awp_cond_f' rfl (by with_reducible rfl) ?_)|(refine awp_cond_p rfl (fun hc => ?_) (fun hc => ?_) <;> (try (exfalso;omega))))|(refine awp_block ?_)|(refine awp_ret ?_)|(refine awp_skip ?_)|(refine awp_exit ?_))|(refine thn_ret ?_)|(refine lq_exit ?_)|(refine lq_ret ?_)|(refine thn_exit ?_)|(refine inb_n ?_)|(refine inb_ret ?_)|(refine inb_here ?_)))
        refine ret2 (by first | exact .inr rfl | exact .inl rfl) rfl rfl rfl ?_
        exact ⟨by rw [hTi]; rfl, rfl⟩
      · by_cases hsemi : byteAt s (i : Int) = 59
        · rw [size_semi hend hdig hd hsemi] at hTi
          repeat' (first|((refine k_call ?_;refine al_call rfl rfl rfl rfl hR ?_;rintro _ rfl))|(refine k_al ?_;first|(refine al_v (ov_move rfl) rfl ?_)|(refine k_g ?_;first|(refine al_gy' rfl rfl (by with_reducible rfl) ?_)|(refine al_gnt rfl rfl (by with_reducible rfl) rfl ?_)|(refine al_gnf rfl rfl (by with_reducible rfl) rfl ?_)|(refine al_gu rfl rfl rfl ?_)|(refine al_gsp rfl rfl (fun hc => ?_) (fun hc => ?_) <;> (try (exfalso;omega))))|(refine k_bin ?_;first|(refine al_v (ov_cmp rfl rfl rfl) rfl ?_)|(refine al_v (ov_add rfl rfl (by (first|exact w64 (by omega) (by omega)|rfl))) rfl ?_)|(refine al_v (ov_sub rfl rfl (by (first|exact w64 (by omega) (by omega)|rfl))) rfl ?_)|(refine al_v (ov_mul rfl rfl (by (first|exact w64 (by omega) (by omega)|rfl))) rfl ?_))|(refine k_pick ?_;first|(refine al_v (ov_pick_t' rfl (by with_reducible rfl) rfl) rfl ?_)|(refine al_v (ov_pick_f' rfl (by with_reducible rfl) rfl) rfl ?_))|(refine al_v (ov_assign rfl) rfl ?_)|(refine k_call ?_;first|(refine al_v (ov_len_str rfl) rfl ?_))|(refine al_v (ov_extract rfl rfl) rfl ?_)|(refine al_nil ?_)|(refine al_v (ov_index rfl rfl (by omega) (by omega)) rfl ?_))|(first|(refine thn_n ?_)|(refine k_awp ?_;first|(refine awp_seq (awp_region ?_))|(refine awp_seq ?_)|(refine awp_region ?_)|(refine k_cond ?_;first|(refine awp_cond_t' rfl (by with_reducible rfl) ?_)|(refine awp_cond_f' rfl (by with_reducible rfl) ?_)|(refine awp_cond_p rfl (fun hc => ?_) (fun hc => ?_) <;> (try (exfalso;omega))))|(refine awp_block ?_)|(refine awp_ret ?_)|(refine awp_skip ?_)|(refine awp_exit ?_))|(refine thn_ret ?_)|(refine lq_exit ?_)|(refine lq_ret ?_)|(refine thn_exit ?_)|(refine inb_n ?_)|(refine inb_ret ?_)|(refine inb_here ?_)))
          refine awp_loopq (fun j : Nat => ⟨[(0, .str s), (1, .int .i64 at'), (6, .int .i64 n), (8, .int .i64 j)], []⟩) (fun j => i + 1 ≤ j ∧ j ≤ s.length ∧ T = restL n at' j (s.drop j)) (fun j => s.length - j) (i + 1) (.of (.same (by repeat constructor))) ⟨Nat.le_refl _, hend, hTi⟩ ?_
          rintro j ⟨hij, hjl, hTj⟩
          by_cases hje : j < s.length
          · have htb := textB_int (s := s) (i := (j : Int))
            by_cases htx : textB (bAt s (j : Int)) = true
            · rw [rest_text hje htx] at hTj
              have htx2 := htb.1 htx
              by_cases hbig : at' + 1024 ≤ j
              · rw [if_pos hbig] at hTj
                repeat' (first|(refine k_al ?_;first|(refine al_v (ov_move rfl) rfl ?_)|(refine k_g ?_;first|(refine al_gy' rfl rfl (by with_reducible rfl) ?_)|(refine al_gnt rfl rfl (by with_reducible rfl) rfl ?_)|(refine al_gnf rfl rfl (by with_reducible rfl) rfl ?_)|(refine al_gu rfl rfl rfl ?_)|(refine al_gsp rfl rfl (fun hc => ?_) (fun hc => ?_) <;> (try (exfalso;omega))))|(refine k_bin ?_;first|(refine al_v (ov_cmp rfl rfl rfl) rfl ?_)|(refine al_v (ov_add rfl rfl (by (first|exact w64 (by omega) (by omega)|rfl))) rfl ?_)|(refine al_v (ov_sub rfl rfl (by (first|exact w64 (by omega) (by omega)|rfl))) rfl ?_)|(refine al_v (ov_mul rfl rfl (by (first|exact w64 (by omega) (by omega)|rfl))) rfl ?_))|(refine k_pick ?_;first|(refine al_v (ov_pick_t' rfl (by with_reducible rfl) rfl) rfl ?_)|(refine al_v (ov_pick_f' rfl (by with_reducible rfl) rfl) rfl ?_))|(refine al_v (ov_assign rfl) rfl ?_)|(refine k_call ?_;first|(refine al_v (ov_len_str rfl) rfl ?_))|(refine al_v (ov_extract rfl rfl) rfl ?_)|(refine al_nil ?_)|(refine al_v (ov_index rfl rfl (by omega) (by omega)) rfl ?_))|(first|(refine thn_n ?_)|(refine k_awp ?_;first|(refine awp_seq (awp_region ?_))|(refine awp_seq ?_)|(refine awp_region ?_)|(refine k_cond ?_;first|(refine awp_cond_t' rfl (by with_reducible rfl) ?_)|(refine awp_cond_f' rfl (by with_reducible rfl) ?_)|(refine awp_cond_p rfl (fun hc => ?_) (fun hc => ?_) <;> (try (exfalso;omega))))|(refine awp_block ?_)|(refine awp_ret ?_)|(refine awp_skip ?_)|(refine awp_exit ?_))|(refine thn_ret ?_)|(refine lq_exit ?_)|(refine lq_ret ?_)|(refine thn_exit ?_)|(refine inb_n ?_)|(refine inb_ret ?_)|(refine inb_here ?_)))
                all_goals
                  refine ret2 (by first | exact .inr rfl | exact .inl rfl) rfl rfl rfl ?_
                  exact ⟨by rw [hTj]; rfl, rfl⟩
              · rw [if_neg hbig] at hTj
                repeat' (first|(refine k_al ?_;first|(refine al_v (ov_move rfl) rfl ?_)|(refine k_g ?_;first|(refine al_gy' rfl rfl (by with_reducible rfl) ?_)|(refine al_gnt rfl rfl (by with_reducible rfl) rfl ?_)|(refine al_gnf rfl rfl (by with_reducible rfl) rfl ?_)|(refine al_gu rfl rfl rfl ?_)|(refine al_gsp rfl rfl (fun hc => ?_) (fun hc => ?_) <;> (try (exfalso;omega))))|(refine k_bin ?_;first|(refine al_v (ov_cmp rfl rfl rfl) rfl ?_)|(refine al_v (ov_add rfl rfl (by (first|exact w64 (by omega) (by omega)|rfl))) rfl ?_)|(refine al_v (ov_sub rfl rfl (by (first|exact w64 (by omega) (by omega)|rfl))) rfl ?_)|(refine al_v (ov_mul rfl rfl (by (first|exact w64 (by omega) (by omega)|rfl))) rfl ?_))|(refine k_pick ?_;first|(refine al_v (ov_pick_t' rfl (by with_reducible rfl) rfl) rfl ?_)|(refine al_v (ov_pick_f' rfl (by with_reducible rfl) rfl) rfl ?_))|(refine al_v (ov_assign rfl) rfl ?_)|(refine k_call ?_;first|(refine al_v (ov_len_str rfl) rfl ?_))|(refine al_v (ov_extract rfl rfl) rfl ?_)|(refine al_nil ?_)|(refine al_v (ov_index rfl rfl (by omega) (by omega)) rfl ?_))|(first|(refine thn_n ?_)|(refine k_awp ?_;first|(refine awp_seq (awp_region ?_))|(refine awp_seq ?_)|(refine awp_region ?_)|(refine k_cond ?_;first|(refine awp_cond_t' rfl (by with_reducible rfl) ?_)|(refine awp_cond_f' rfl (by with_reducible rfl) ?_)|(refine awp_cond_p rfl (fun hc => ?_) (fun hc => ?_) <;> (try (exfalso;omega))))|(refine awp_block ?_)|(refine awp_ret ?_)|(refine awp_skip ?_)|(refine awp_exit ?_))|(refine thn_ret ?_)|(refine lq_exit ?_)|(refine lq_ret ?_)|(refine thn_exit ?_)|(refine inb_n ?_)|(refine inb_ret ?_)|(refine inb_here ?_)))
                all_goals
                  first | refine lq_back (j + 1) (.of (.same (by repeat constructor))) ?_ ?_ | fail
                  · exact ⟨by omega, by omega, hTj⟩
                  · omega
            · rw [rest_stop hje htx] at hTj
              have htx2 : ¬ ((32 ≤ byteAt s (j : Int) ∧ byteAt s (j : Int) ≤ 126) ∨ byteAt s (j : Int) = 9) := fun k => htx (htb.2 k)
              have hE := s_ended (w0 := w0) (base := base) (n := n) hjl hs
              rw [← hTj] at hE
              cases T
              all_goals
                repeat' (first|((refine k_call ?_;refine al_call rfl rfl rfl rfl hE ?_;rintro _ rfl))|(refine k_al ?_;first|(refine al_v (ov_move rfl) rfl ?_)|(refine k_g ?_;first|(refine al_gy' rfl rfl (by with_reducible rfl) ?_)|(refine al_gnt rfl rfl (by with_reducible rfl) rfl ?_)|(refine al_gnf rfl rfl (by with_reducible rfl) rfl ?_)|(refine al_gu rfl rfl rfl ?_)|(refine al_gsp rfl rfl (fun hc => ?_) (fun hc => ?_) <;> (try (exfalso;omega))))|(refine k_bin ?_;first|(refine al_v (ov_cmp rfl rfl rfl) rfl ?_)|(refine al_v (ov_add rfl rfl (by (first|exact w64 (by omega) (by omega)|rfl))) rfl ?_)|(refine al_v (ov_sub rfl rfl (by (first|exact w64 (by omega) (by omega)|rfl))) rfl ?_)|(refine al_v (ov_mul rfl rfl (by (first|exact w64 (by omega) (by omega)|rfl))) rfl ?_))|(refine k_pick ?_;first|(refine al_v (ov_pick_t' rfl (by with_reducible rfl) rfl) rfl ?_)|(refine al_v (ov_pick_f' rfl (by with_reducible rfl) rfl) rfl ?_))|(refine al_v (ov_assign rfl) rfl ?_)|(refine k_call ?_;first|(refine al_v (ov_len_str rfl) rfl ?_))|(refine al_v (ov_extract rfl rfl) rfl ?_)|(refine al_nil ?_)|(refine al_v (ov_index rfl rfl (by omega) (by omega)) rfl ?_))|(first|(refine thn_n ?_)|(refine k_awp ?_;first|(refine awp_seq (awp_region ?_))|(refine awp_seq ?_)|(refine awp_region ?_)|(refine k_cond ?_;first|(refine awp_cond_t' rfl (by with_reducible rfl) ?_)|(refine awp_cond_f' rfl (by with_reducible rfl) ?_)|(refine awp_cond_p rfl (fun hc => ?_) (fun hc => ?_) <;> (try (exfalso;omega))))|(refine awp_block ?_)|(refine awp_ret ?_)|(refine awp_skip ?_)|(refine awp_exit ?_))|(refine thn_ret ?_)|(refine lq_exit ?_)|(refine lq_ret ?_)|(refine thn_exit ?_)|(refine inb_n ?_)|(refine inb_ret ?_)|(refine inb_here ?_)))
                all_goals
                  refine ret2 (by first | exact .inr rfl | exact .inl rfl) rfl rfl rfl ?_
                  exact ⟨rfl, rfl⟩
          · rw [rest_end (by omega)] at hTj
            repeat' (first|(refine k_al ?_;first|(refine al_v (ov_move rfl) rfl ?_)|(refine k_g ?_;first|(refine al_gy' rfl rfl (by with_reducible rfl) ?_)|(refine al_gnt rfl rfl (by with_reducible rfl) rfl ?_)|(refine al_gnf rfl rfl (by with_reducible rfl) rfl ?_)|(refine al_gu rfl rfl rfl ?_)|(refine al_gsp rfl rfl (fun hc => ?_) (fun hc => ?_) <;> (try (exfalso;omega))))|(refine k_bin ?_;first|(refine al_v (ov_cmp rfl rfl rfl) rfl ?_)|(refine al_v (ov_add rfl rfl (by (first|exact w64 (by omega) (by omega)|rfl))) rfl ?_)|(refine al_v (ov_sub rfl rfl (by (first|exact w64 (by omega) (by omega)|rfl))) rfl ?_)|(refine al_v (ov_mul rfl rfl (by (first|exact w64 (by omega) (by omega)|rfl))) rfl ?_))|(refine k_pick ?_;first|(refine al_v (ov_pick_t' rfl (by with_reducible rfl) rfl) rfl ?_)|(refine al_v (ov_pick_f' rfl (by with_reducible rfl) rfl) rfl ?_))|(refine al_v (ov_assign rfl) rfl ?_)|(refine k_call ?_;first|(refine al_v (ov_len_str rfl) rfl ?_))|(refine al_v (ov_extract rfl rfl) rfl ?_)|(refine al_nil ?_)|(refine al_v (ov_index rfl rfl (by omega) (by omega)) rfl ?_))|(first|(refine thn_n ?_)|(refine k_awp ?_;first|(refine awp_seq (awp_region ?_))|(refine awp_seq ?_)|(refine awp_region ?_)|(refine k_cond ?_;first|(refine awp_cond_t' rfl (by with_reducible rfl) ?_)|(refine awp_cond_f' rfl (by with_reducible rfl) ?_)|(refine awp_cond_p rfl (fun hc => ?_) (fun hc => ?_) <;> (try (exfalso;omega))))|(refine awp_block ?_)|(refine awp_ret ?_)|(refine awp_skip ?_)|(refine awp_exit ?_))|(refine thn_ret ?_)|(refine lq_exit ?_)|(refine lq_ret ?_)|(refine thn_exit ?_)|(refine inb_n ?_)|(refine inb_ret ?_)|(refine inb_here ?_)))
            refine ret2 (by first | exact .inr rfl | exact .inl rfl) rfl rfl rfl ?_
            exact ⟨by rw [hTj]; rfl, rfl⟩
        · rw [size_plain hend hdig hd hsemi] at hTi
          have hE := s_ended (w0 := w0) (base := base) (n := n) hil hs
          rw [← hTi] at hE
          cases T
          all_goals
            repeat' (first|(first|(refine k_call ?_;refine al_call rfl rfl rfl rfl hR ?_;rintro _ rfl)|(refine k_call ?_;refine al_call rfl rfl rfl rfl hE ?_;rintro _ rfl))|(refine k_al ?_;first|(refine al_v (ov_move rfl) rfl ?_)|(refine k_g ?_;first|(refine al_gy' rfl rfl (by with_reducible rfl) ?_)|(refine al_gnt rfl rfl (by with_reducible rfl) rfl ?_)|(refine al_gnf rfl rfl (by with_reducible rfl) rfl ?_)|(refine al_gu rfl rfl rfl ?_)|(refine al_gsp rfl rfl (fun hc => ?_) (fun hc => ?_) <;> (try (exfalso;omega))))|(refine k_bin ?_;first|(refine al_v (ov_cmp rfl rfl rfl) rfl ?_)|(refine al_v (ov_add rfl rfl (by (first|exact w64 (by omega) (by omega)|rfl))) rfl ?_)|(refine al_v (ov_sub rfl rfl (by (first|exact w64 (by omega) (by omega)|rfl))) rfl ?_)|(refine al_v (ov_mul rfl rfl (by (first|exact w64 (by omega) (by omega)|rfl))) rfl ?_))|(refine k_pick ?_;first|(refine al_v (ov_pick_t' rfl (by with_reducible rfl) rfl) rfl ?_)|(refine al_v (ov_pick_f' rfl (by with_reducible rfl) rfl) rfl ?_))|(refine al_v (ov_assign rfl) rfl ?_)|(refine k_call ?_;first|(refine al_v (ov_len_str rfl) rfl ?_))|(refine al_v (ov_extract rfl rfl) rfl ?_)|(refine al_nil ?_)|(refine al_v (ov_index rfl rfl (by omega) (by omega)) rfl ?_))|(first|(refine thn_n ?_)|(refine k_awp ?_;first|(refine awp_seq (awp_region ?_))|(refine awp_seq ?_)|(refine awp_region ?_)|(refine k_cond ?_;first|(refine awp_cond_t' rfl (by with_reducible rfl) ?_)|(refine awp_cond_f' rfl (by with_reducible rfl) ?_)|(refine awp_cond_p rfl (fun hc => ?_) (fun hc => ?_) <;> (try (exfalso;omega))))|(refine awp_block ?_)|(refine awp_ret ?_)|(refine awp_skip ?_)|(refine awp_exit ?_))|(refine thn_ret ?_)|(refine lq_exit ?_)|(refine lq_ret ?_)|(refine thn_exit ?_)|(refine inb_n ?_)|(refine inb_ret ?_)|(refine inb_here ?_)))
            refine ret2 (by first | exact .inr rfl | exact .inl rfl) rfl rfl rfl ?_
            exact ⟨rfl, rfl⟩
  · rw [size_end (by omega)] at hTi
    repeat' (first|(refine k_al ?_;first|(refine al_v (ov_move rfl) rfl ?_)|(refine k_g ?_;first|(refine al_gy' rfl rfl (by with_reducible rfl) ?_)|(refine al_gnt rfl rfl (by with_reducible rfl) rfl ?_)|(refine al_gnf rfl rfl (by with_reducible rfl) rfl ?_)|(refine al_gu rfl rfl rfl ?_)|(refine al_gsp rfl rfl (fun hc => ?_) (fun hc => ?_) <;> (try (exfalso;omega))))|(refine k_bin ?_;first|(refine al_v (ov_cmp rfl rfl rfl) rfl ?_)|(refine al_v (ov_add rfl rfl (by (first|exact w64 (by omega) (by omega)|rfl))) rfl ?_)|(refine al_v (ov_sub rfl rfl (by (first|exact w64 (by omega) (by omega)|rfl))) rfl ?_)|(refine al_v (ov_mul rfl rfl (by (first|exact w64 (by omega) (by omega)|rfl))) rfl ?_))|(refine k_pick ?_;first|(refine al_v (ov_pick_t' rfl (by with_reducible rfl) rfl) rfl ?_)|(refine al_v (ov_pick_f' rfl (by with_reducible rfl) rfl) rfl ?_))|(refine al_v (ov_assign rfl) rfl ?_)|(refine k_call ?_;first|(refine al_v (ov_len_str rfl) rfl ?_))|(refine al_v (ov_extract rfl rfl) rfl ?_)|(refine al_nil ?_)|(refine al_v (ov_index rfl rfl (by omega) (by omega)) rfl ?_))|(first|(refine thn_n ?_)|(refine k_awp ?_;first|(refine awp_seq (awp_region ?_))|(refine awp_seq ?_)|(refine awp_region ?_)|(refine k_cond ?_;first|(refine awp_cond_t' rfl (by with_reducible rfl) ?_)|(refine awp_cond_f' rfl (by with_reducible rfl) ?_)|(refine awp_cond_p rfl (fun hc => ?_) (fun hc => ?_) <;> (try (exfalso;omega))))|(refine awp_block ?_)|(refine awp_ret ?_)|(refine awp_skip ?_)|(refine awp_exit ?_))|(refine thn_ret ?_)|(refine lq_exit ?_)|(refine lq_ret ?_)|(refine thn_exit ?_)|(refine inb_n ?_)|(refine inb_ret ?_)|(refine inb_here ?_)))
    refine ret2 (by first | exact .inr rfl | exact .inl rfl) rfl rfl rfl ?_
    exact ⟨by rw [hTi]; rfl, rfl⟩
end
end Go.Proofs.YtffcgpkbibijpaaGreatDoor.L

namespace Go.Proofs.YtffcgpkbibijpaaGreatDoor.L
open Go Go.RowKit Go.Proofs
set_option linter.unusedVariables false
set_option linter.unusedSimpArgs false
set_option maxRecDepth 100000
attribute [local irreducible] AL QL AWp Thn InB RetQ ACalls LoopQ HL HO HW HQ NoG JmpQ MidQ

theorem endL_le {n i m k : Nat} {s : List UInt8} (hi : i ≤ s.length) (h : endL n i (s.drop i) = .got m k) : m = n ∧ k = i + 2 ∧ k ≤ s.length := by
  obtain ⟨h1, h2, h3⟩ := endL_got h
  rw [List.length_drop] at h3
  exact ⟨h1, h2, by omega⟩
theorem restL_le {n line m k : Nat} {s : List UInt8} : ∀ {i : Nat}, i ≤ s.length → restL n line i (s.drop i) = .got m k → m = n ∧ i + 2 ≤ k ∧ k ≤ s.length := by
  intro i
  generalize hd : s.length - i = q
  induction q generalizing i with
  | zero =>
    intro hi h
    rw [rest_end (by omega)] at h
    cases h
  | succ q ih =>
    intro hi h
    by_cases htx : textB (bAt s (i : Int)) = true
    · rw [rest_text (by omega) htx] at h
      split at h
      · cases h
      · have := ih (i := i + 1) (by omega) (by omega) h
        omega
    · rw [rest_stop (by omega) htx] at h
      have := endL_le hi h
      omega
theorem sizeL_le {line m k : Nat} {s : List UInt8} : ∀ {i d n : Nat}, i ≤ s.length → d ≤ 8 → n < 16 ^ d → sizeL line d n i (s.drop i) = .got m k → m < 4294967296 ∧ i + 2 ≤ k ∧ k ≤ s.length := by
  intro i
  generalize hd : s.length - i = q
  induction q generalizing i with
  | zero =>
    intro d n hi h8 hn h
    rw [size_end (by omega)] at h
    cases h
  | succ q ih =>
    intro d n hi h8 hn h
    have hpw := pow16 h8
    by_cases hdig : 0 ≤ hexI (bAt s (i : Int))
    · rw [size_step (by omega) hdig] at h
      have hx := hexI_lt (bAt s (i : Int))
      split at h
      · cases h
      · have := ih (i := i + 1) (by omega) (d := d + 1) (n := 16 * n + (hexI (bAt s (i : Int))).toNat) (by omega) (by omega) (by rw [Nat.pow_succ]; omega) h
        omega
    · by_cases h0 : d = 0
      · subst h0
        rw [size_none (by omega) hdig] at h
        cases h
      · by_cases hc : byteAt s (i : Int) = 59
        · rw [size_semi (by omega) hdig h0 hc] at h
          have := restL_le (i := i + 1) (by omega) h
          omega
        · rw [size_plain (by omega) hdig h0 hc] at h
          have := endL_le hi h
          omega
section
variable {w0 : World} {base : Nat}
set_option maxHeartbeats 4000000 in
theorem s_chunksR {s : List UInt8} {at' : Nat} (h : at' ≤ s.length) (hs : s.length ≤ 1099511627776) : PCalls (EE w0 base) 90 [.str s, .int .i64 at'] (CrR (chunksS s at')) := by
  refine acalls_of Tryz.func90 rfl rfl rfl (.cons (.cons .nil)) ?_
  obtain ⟨T, hT⟩ : ∃ T, T = chunksS s at' := ⟨_, rfl⟩
  rw [← hT]
  repeat' (first|(refine k_al ?_;first|(refine al_v (ov_move rfl) rfl ?_)|(refine k_g ?_;first|(refine al_gy' rfl rfl (by with_reducible rfl) ?_)|(refine al_gsp rfl rfl (fun hc => ?_) (fun hc => ?_) <;> (try (exfalso;omega))))|(refine k_bin ?_;first|(refine al_v (ov_cmp rfl rfl rfl) rfl ?_)|(refine al_v (ov_cat rfl rfl (by first|omega|(simp only [List.length_append, List.length_cons, List.length_nil];omega)|(simp;omega))) rfl ?_)|(refine al_v (ov_add rfl rfl (by (first|exact w64 (by omega) (by omega)|rfl))) rfl ?_)|(refine al_v (ov_sub rfl rfl (by (first|exact w64 (by omega) (by omega)|rfl))) rfl ?_))|(refine k_pick ?_;first|(refine al_v (ov_pick_f' rfl (by with_reducible rfl) rfl) rfl ?_))|(refine al_v (ov_assign rfl) rfl ?_)|(refine k_call ?_;first|(refine al_v (ov_len_str rfl) rfl ?_))|(refine al_v (ov_extract rfl rfl) rfl ?_)|(refine al_nil ?_))|(first|(refine thn_n ?_)|(refine k_awp ?_;first|(refine awp_seq (awp_region ?_))|(refine awp_seq ?_)|(refine awp_region ?_)|(refine k_cond ?_;first|(refine awp_cond_p rfl (fun hc => ?_) (fun hc => ?_) <;> (try (exfalso;omega))))|(refine awp_block ?_)|(refine awp_ret ?_)|(refine awp_skip ?_))|(refine thn_ret ?_)|(refine lq_ret ?_)|(refine inb_n ?_)|(refine inb_ret ?_)))
  refine awp_loopq (fun x : Nat × List UInt8 => ⟨[(0, .str s), (1, .int .i64 x.1), (8, .str x.2)], []⟩) (fun x => x.1 ≤ s.length ∧ x.2.length ≤ 16384 ∧ ∃ f, s.length < f + x.1 ∧ T = chunksF f s x.2 x.1) (fun x => s.length - x.1) (at', []) (.of (.same (by repeat constructor))) ⟨h, Nat.zero_le _, s.length + 1, by dsimp only; omega, hT⟩ ?_
  rintro ⟨i, acc⟩ ⟨hil, hacc, f, hf, hTi⟩
  dsimp only at hil hacc hf hTi ⊢
  obtain ⟨f, rfl⟩ : ∃ g, f = g + 1 := ⟨f - 1, by omega⟩
  rw [chunksF] at hTi
  have hS := s_size (w0 := w0) (base := base) hil hs
  have hle : ∀ m k, sizeL i 0 0 i (s.drop i) = .got m k → m < 4294967296 ∧ i + 2 ≤ k ∧ k ≤ s.length := fun m k => sizeL_le hil (Nat.zero_le _) Nat.zero_lt_one
  revert hS hTi hle
  generalize sizeL i 0 0 i (s.drop i) = z
  intro hTi hS hle
  cases z with
  | more =>
    rw [afterL] at hTi
    repeat' (first|((refine k_call ?_;refine al_call rfl rfl rfl rfl hS ?_;rintro _ rfl))|(refine k_al ?_;first|(refine al_v (ov_move rfl) rfl ?_)|(refine k_g ?_;first|(refine al_gy' rfl rfl (by with_reducible rfl) ?_)|(refine al_gsp rfl rfl (fun hc => ?_) (fun hc => ?_) <;> (try (exfalso;omega))))|(refine k_bin ?_;first|(refine al_v (ov_cmp rfl rfl rfl) rfl ?_)|(refine al_v (ov_cat rfl rfl (by first|omega|(simp only [List.length_append, List.length_cons, List.length_nil];omega)|(simp;omega))) rfl ?_)|(refine al_v (ov_add rfl rfl (by (first|exact w64 (by omega) (by omega)|rfl))) rfl ?_)|(refine al_v (ov_sub rfl rfl (by (first|exact w64 (by omega) (by omega)|rfl))) rfl ?_))|(refine k_pick ?_;first|(refine al_v (ov_pick_f' rfl (by with_reducible rfl) rfl) rfl ?_))|(refine al_v (ov_assign rfl) rfl ?_)|(refine k_call ?_;first|(refine al_v (ov_len_str rfl) rfl ?_))|(refine al_v (ov_extract rfl rfl) rfl ?_)|(refine al_nil ?_))|(first|(refine thn_n ?_)|(refine k_awp ?_;first|(refine awp_seq (awp_region ?_))|(refine awp_seq ?_)|(refine awp_region ?_)|(refine k_cond ?_;first|(refine awp_cond_p rfl (fun hc => ?_) (fun hc => ?_) <;> (try (exfalso;omega))))|(refine awp_block ?_)|(refine awp_ret ?_)|(refine awp_skip ?_))|(refine thn_ret ?_)|(refine lq_ret ?_)|(refine inb_n ?_)|(refine inb_ret ?_)))
    refine ret4 (by first | exact .inr rfl | exact .inl rfl) rfl rfl rfl rfl rfl ?_
    exact ⟨by rw [hTi], rfl⟩
  | wrong =>
    rw [afterL] at hTi
    repeat' (first|((refine k_call ?_;refine al_call rfl rfl rfl rfl hS ?_;rintro _ rfl))|(refine k_al ?_;first|(refine al_v (ov_move rfl) rfl ?_)|(refine k_g ?_;first|(refine al_gy' rfl rfl (by with_reducible rfl) ?_)|(refine al_gsp rfl rfl (fun hc => ?_) (fun hc => ?_) <;> (try (exfalso;omega))))|(refine k_bin ?_;first|(refine al_v (ov_cmp rfl rfl rfl) rfl ?_)|(refine al_v (ov_cat rfl rfl (by first|omega|(simp only [List.length_append, List.length_cons, List.length_nil];omega)|(simp;omega))) rfl ?_)|(refine al_v (ov_add rfl rfl (by (first|exact w64 (by omega) (by omega)|rfl))) rfl ?_)|(refine al_v (ov_sub rfl rfl (by (first|exact w64 (by omega) (by omega)|rfl))) rfl ?_))|(refine k_pick ?_;first|(refine al_v (ov_pick_f' rfl (by with_reducible rfl) rfl) rfl ?_))|(refine al_v (ov_assign rfl) rfl ?_)|(refine k_call ?_;first|(refine al_v (ov_len_str rfl) rfl ?_))|(refine al_v (ov_extract rfl rfl) rfl ?_)|(refine al_nil ?_))|(first|(refine thn_n ?_)|(refine k_awp ?_;first|(refine awp_seq (awp_region ?_))|(refine awp_seq ?_)|(refine awp_region ?_)|(refine k_cond ?_;first|(refine awp_cond_p rfl (fun hc => ?_) (fun hc => ?_) <;> (try (exfalso;omega))))|(refine awp_block ?_)|(refine awp_ret ?_)|(refine awp_skip ?_))|(refine thn_ret ?_)|(refine lq_ret ?_)|(refine inb_n ?_)|(refine inb_ret ?_)))
    refine ret4 (by first | exact .inr rfl | exact .inl rfl) rfl rfl rfl rfl rfl ?_
    exact ⟨by rw [hTi], rfl⟩
  | got n k =>
    rw [afterL] at hTi
    obtain ⟨hn, hik, hkl⟩ := hle n k rfl
    by_cases hbig : 16384 < acc.length + n
    · rw [if_pos hbig] at hTi
      repeat' (first|((refine k_call ?_;refine al_call rfl rfl rfl rfl hS ?_;rintro _ rfl))|(refine k_al ?_;first|(refine al_v (ov_move rfl) rfl ?_)|(refine k_g ?_;first|(refine al_gy' rfl rfl (by with_reducible rfl) ?_)|(refine al_gsp rfl rfl (fun hc => ?_) (fun hc => ?_) <;> (try (exfalso;omega))))|(refine k_bin ?_;first|(refine al_v (ov_cmp rfl rfl rfl) rfl ?_)|(refine al_v (ov_cat rfl rfl (by first|omega|(simp only [List.length_append, List.length_cons, List.length_nil];omega)|(simp;omega))) rfl ?_)|(refine al_v (ov_add rfl rfl (by (first|exact w64 (by omega) (by omega)|rfl))) rfl ?_)|(refine al_v (ov_sub rfl rfl (by (first|exact w64 (by omega) (by omega)|rfl))) rfl ?_))|(refine k_pick ?_;first|(refine al_v (ov_pick_f' rfl (by with_reducible rfl) rfl) rfl ?_))|(refine al_v (ov_assign rfl) rfl ?_)|(refine k_call ?_;first|(refine al_v (ov_len_str rfl) rfl ?_))|(refine al_v (ov_extract rfl rfl) rfl ?_)|(refine al_nil ?_))|(first|(refine thn_n ?_)|(refine k_awp ?_;first|(refine awp_seq (awp_region ?_))|(refine awp_seq ?_)|(refine awp_region ?_)|(refine k_cond ?_;first|(refine awp_cond_p rfl (fun hc => ?_) (fun hc => ?_) <;> (try (exfalso;omega))))|(refine awp_block ?_)|(refine awp_ret ?_)|(refine awp_skip ?_))|(refine thn_ret ?_)|(refine lq_ret ?_)|(refine inb_n ?_)|(refine inb_ret ?_)))
      refine ret4 (by first | exact .inr rfl | exact .inl rfl) rfl rfl rfl rfl rfl ?_
      exact ⟨by rw [hTi], rfl⟩
    · rw [if_neg hbig] at hTi
      by_cases hlong : s.length < k + n
      · rw [if_pos hlong] at hTi
        repeat' (first|((refine k_call ?_;refine al_call rfl rfl rfl rfl hS ?_;rintro _ rfl))|(refine k_al ?_;first|(refine al_v (ov_move rfl) rfl ?_)|(refine k_g ?_;first|(refine al_gy' rfl rfl (by with_reducible rfl) ?_)|(refine al_gsp rfl rfl (fun hc => ?_) (fun hc => ?_) <;> (try (exfalso;omega))))|(refine k_bin ?_;first|(refine al_v (ov_cmp rfl rfl rfl) rfl ?_)|(refine al_v (ov_cat rfl rfl (by first|omega|(simp only [List.length_append, List.length_cons, List.length_nil];omega)|(simp;omega))) rfl ?_)|(refine al_v (ov_add rfl rfl (by (first|exact w64 (by omega) (by omega)|rfl))) rfl ?_)|(refine al_v (ov_sub rfl rfl (by (first|exact w64 (by omega) (by omega)|rfl))) rfl ?_))|(refine k_pick ?_;first|(refine al_v (ov_pick_f' rfl (by with_reducible rfl) rfl) rfl ?_))|(refine al_v (ov_assign rfl) rfl ?_)|(refine k_call ?_;first|(refine al_v (ov_len_str rfl) rfl ?_))|(refine al_v (ov_extract rfl rfl) rfl ?_)|(refine al_nil ?_))|(first|(refine thn_n ?_)|(refine k_awp ?_;first|(refine awp_seq (awp_region ?_))|(refine awp_seq ?_)|(refine awp_region ?_)|(refine k_cond ?_;first|(refine awp_cond_p rfl (fun hc => ?_) (fun hc => ?_) <;> (try (exfalso;omega))))|(refine awp_block ?_)|(refine awp_ret ?_)|(refine awp_skip ?_))|(refine thn_ret ?_)|(refine lq_ret ?_)|(refine inb_n ?_)|(refine inb_ret ?_)))
        refine ret4 (by first | exact .inr rfl | exact .inl rfl) rfl rfl rfl rfl rfl ?_
        exact ⟨by rw [hTi], rfl⟩
      · rw [if_neg hlong] at hTi
        have hE := s_ended (w0 := w0) (base := base) (s := s) (i := k + n) (n := 0) (by omega) hs
        have hel : ∀ m e, endL 0 (k + n) (s.drop (k + n)) = .got m e → m = 0 ∧ e = k + n + 2 ∧ e ≤ s.length := fun m e => endL_le (by omega)
        have hal : (acc ++ (s.take (k + n)).drop k).length = acc.length + n := by simp; omega
        revert hE hTi hel
        generalize endL 0 (k + n) (s.drop (k + n)) = z
        intro hTi hE hel
        cases z with
        | more =>
          dsimp only at hTi
          repeat' (first|(first|(refine k_call ?_;refine al_call rfl rfl rfl rfl hS ?_;rintro _ rfl)|(refine al_v (ov_slice_eq (i := k) (j := k + n) rfl rfl rfl rfl (by omega) (by omega) (by omega) (by omega)) rfl ?_)|(refine al_v (ov_cat rfl rfl (by rw [hal];omega)) rfl ?_)|(refine k_call ?_;refine al_call rfl rfl rfl rfl hE ?_;rintro _ rfl))|(refine k_al ?_;first|(refine al_v (ov_move rfl) rfl ?_)|(refine k_g ?_;first|(refine al_gy' rfl rfl (by with_reducible rfl) ?_)|(refine al_gsp rfl rfl (fun hc => ?_) (fun hc => ?_) <;> (try (exfalso;omega))))|(refine k_bin ?_;first|(refine al_v (ov_cmp rfl rfl rfl) rfl ?_)|(refine al_v (ov_cat rfl rfl (by first|omega|(simp only [List.length_append, List.length_cons, List.length_nil];omega)|(simp;omega))) rfl ?_)|(refine al_v (ov_add rfl rfl (by (first|exact w64 (by omega) (by omega)|rfl))) rfl ?_)|(refine al_v (ov_sub rfl rfl (by (first|exact w64 (by omega) (by omega)|rfl))) rfl ?_))|(refine k_pick ?_;first|(refine al_v (ov_pick_f' rfl (by with_reducible rfl) rfl) rfl ?_))|(refine al_v (ov_assign rfl) rfl ?_)|(refine k_call ?_;first|(refine al_v (ov_len_str rfl) rfl ?_))|(refine al_v (ov_extract rfl rfl) rfl ?_)|(refine al_nil ?_))|(first|(refine thn_n ?_)|(refine k_awp ?_;first|(refine awp_seq (awp_region ?_))|(refine awp_seq ?_)|(refine awp_region ?_)|(refine k_cond ?_;first|(refine awp_cond_p rfl (fun hc => ?_) (fun hc => ?_) <;> (try (exfalso;omega))))|(refine awp_block ?_)|(refine awp_ret ?_)|(refine awp_skip ?_))|(refine thn_ret ?_)|(refine lq_ret ?_)|(refine inb_n ?_)|(refine inb_ret ?_)))
          refine ret4 (by first | exact .inr rfl | exact .inl rfl) rfl rfl rfl rfl rfl ?_
          exact ⟨by rw [hTi], rfl⟩
        | wrong =>
          dsimp only at hTi
          repeat' (first|(first|(refine k_call ?_;refine al_call rfl rfl rfl rfl hS ?_;rintro _ rfl)|(refine al_v (ov_slice_eq (i := k) (j := k + n) rfl rfl rfl rfl (by omega) (by omega) (by omega) (by omega)) rfl ?_)|(refine al_v (ov_cat rfl rfl (by rw [hal];omega)) rfl ?_)|(refine k_call ?_;refine al_call rfl rfl rfl rfl hE ?_;rintro _ rfl))|(refine k_al ?_;first|(refine al_v (ov_move rfl) rfl ?_)|(refine k_g ?_;first|(refine al_gy' rfl rfl (by with_reducible rfl) ?_)|(refine al_gsp rfl rfl (fun hc => ?_) (fun hc => ?_) <;> (try (exfalso;omega))))|(refine k_bin ?_;first|(refine al_v (ov_cmp rfl rfl rfl) rfl ?_)|(refine al_v (ov_cat rfl rfl (by first|omega|(simp only [List.length_append, List.length_cons, List.length_nil];omega)|(simp;omega))) rfl ?_)|(refine al_v (ov_add rfl rfl (by (first|exact w64 (by omega) (by omega)|rfl))) rfl ?_)|(refine al_v (ov_sub rfl rfl (by (first|exact w64 (by omega) (by omega)|rfl))) rfl ?_))|(refine k_pick ?_;first|(refine al_v (ov_pick_f' rfl (by with_reducible rfl) rfl) rfl ?_))|(refine al_v (ov_assign rfl) rfl ?_)|(refine k_call ?_;first|(refine al_v (ov_len_str rfl) rfl ?_))|(refine al_v (ov_extract rfl rfl) rfl ?_)|(refine al_nil ?_))|(first|(refine thn_n ?_)|(refine k_awp ?_;first|(refine awp_seq (awp_region ?_))|(refine awp_seq ?_)|(refine awp_region ?_)|(refine k_cond ?_;first|(refine awp_cond_p rfl (fun hc => ?_) (fun hc => ?_) <;> (try (exfalso;omega))))|(refine awp_block ?_)|(refine awp_ret ?_)|(refine awp_skip ?_))|(refine thn_ret ?_)|(refine lq_ret ?_)|(refine inb_n ?_)|(refine inb_ret ?_)))
          refine ret4 (by first | exact .inr rfl | exact .inl rfl) rfl rfl rfl rfl rfl ?_
          exact ⟨by rw [hTi], rfl⟩
        | got m e =>
          obtain ⟨rfl, rfl, hel⟩ := hel m e rfl
          dsimp only at hTi
          by_cases hn0 : n = 0
          · rw [if_pos hn0] at hTi
            repeat' (first|(first|(refine k_call ?_;refine al_call rfl rfl rfl rfl hS ?_;rintro _ rfl)|(refine al_v (ov_slice_eq (i := k) (j := k + n) rfl rfl rfl rfl (by omega) (by omega) (by omega) (by omega)) rfl ?_)|(refine al_v (ov_cat rfl rfl (by rw [hal];omega)) rfl ?_)|(refine k_call ?_;refine al_call rfl rfl rfl rfl hE ?_;rintro _ rfl))|(refine k_al ?_;first|(refine al_v (ov_move rfl) rfl ?_)|(refine k_g ?_;first|(refine al_gy' rfl rfl (by with_reducible rfl) ?_)|(refine al_gsp rfl rfl (fun hc => ?_) (fun hc => ?_) <;> (try (exfalso;omega))))|(refine k_bin ?_;first|(refine al_v (ov_cmp rfl rfl rfl) rfl ?_)|(refine al_v (ov_cat rfl rfl (by first|omega|(simp only [List.length_append, List.length_cons, List.length_nil];omega)|(simp;omega))) rfl ?_)|(refine al_v (ov_add rfl rfl (by (first|exact w64 (by omega) (by omega)|rfl))) rfl ?_)|(refine al_v (ov_sub rfl rfl (by (first|exact w64 (by omega) (by omega)|rfl))) rfl ?_))|(refine k_pick ?_;first|(refine al_v (ov_pick_f' rfl (by with_reducible rfl) rfl) rfl ?_))|(refine al_v (ov_assign rfl) rfl ?_)|(refine k_call ?_;first|(refine al_v (ov_len_str rfl) rfl ?_))|(refine al_v (ov_extract rfl rfl) rfl ?_)|(refine al_nil ?_))|(first|(refine thn_n ?_)|(refine k_awp ?_;first|(refine awp_seq (awp_region ?_))|(refine awp_seq ?_)|(refine awp_region ?_)|(refine k_cond ?_;first|(refine awp_cond_p rfl (fun hc => ?_) (fun hc => ?_) <;> (try (exfalso;omega))))|(refine awp_block ?_)|(refine awp_ret ?_)|(refine awp_skip ?_))|(refine thn_ret ?_)|(refine lq_ret ?_)|(refine inb_n ?_)|(refine inb_ret ?_)))
            refine ret4 (by first | exact .inr rfl | exact .inl rfl) rfl rfl rfl rfl rfl ?_
            exact ⟨by rw [hTi], rfl⟩
          · rw [if_neg hn0] at hTi
            repeat' (first|(first|(refine k_call ?_;refine al_call rfl rfl rfl rfl hS ?_;rintro _ rfl)|(refine al_v (ov_slice_eq (i := k) (j := k + n) rfl rfl rfl rfl (by omega) (by omega) (by omega) (by omega)) rfl ?_)|(refine al_v (ov_cat rfl rfl (by rw [hal];omega)) rfl ?_)|(refine k_call ?_;refine al_call rfl rfl rfl rfl hE ?_;rintro _ rfl))|(refine k_al ?_;first|(refine al_v (ov_move rfl) rfl ?_)|(refine k_g ?_;first|(refine al_gy' rfl rfl (by with_reducible rfl) ?_)|(refine al_gsp rfl rfl (fun hc => ?_) (fun hc => ?_) <;> (try (exfalso;omega))))|(refine k_bin ?_;first|(refine al_v (ov_cmp rfl rfl rfl) rfl ?_)|(refine al_v (ov_cat rfl rfl (by first|omega|(simp only [List.length_append, List.length_cons, List.length_nil];omega)|(simp;omega))) rfl ?_)|(refine al_v (ov_add rfl rfl (by (first|exact w64 (by omega) (by omega)|rfl))) rfl ?_)|(refine al_v (ov_sub rfl rfl (by (first|exact w64 (by omega) (by omega)|rfl))) rfl ?_))|(refine k_pick ?_;first|(refine al_v (ov_pick_f' rfl (by with_reducible rfl) rfl) rfl ?_))|(refine al_v (ov_assign rfl) rfl ?_)|(refine k_call ?_;first|(refine al_v (ov_len_str rfl) rfl ?_))|(refine al_v (ov_extract rfl rfl) rfl ?_)|(refine al_nil ?_))|(first|(refine thn_n ?_)|(refine k_awp ?_;first|(refine awp_seq (awp_region ?_))|(refine awp_seq ?_)|(refine awp_region ?_)|(refine k_cond ?_;first|(refine awp_cond_p rfl (fun hc => ?_) (fun hc => ?_) <;> (try (exfalso;omega))))|(refine awp_block ?_)|(refine awp_ret ?_)|(refine awp_skip ?_))|(refine thn_ret ?_)|(refine lq_ret ?_)|(refine inb_n ?_)|(refine inb_ret ?_)))
            first | refine lq_back (k + n + 2, acc ++ (s.take (k + n)).drop k) (.of (.same (by repeat constructor))) ?_ ?_ | fail
            · exact ⟨hel, by dsimp only; omega, f, by dsimp only; omega, hTi⟩
            · dsimp only; omega
end
end Go.Proofs.YtffcgpkbibijpaaGreatDoor.L

namespace Go.Proofs.YtffcgpkbibijpaaGreatDoor.L
open Go Go.RowKit Go.Proofs
set_option linter.unusedVariables false
set_option linter.unusedSimpArgs false
set_option maxRecDepth 100000
attribute [local irreducible] AL QL AWp Thn InB RetQ ACalls LoopQ HL HO HW HQ NoG JmpQ MidQ

def crlf2 : List UInt8 := [13, 10, 13, 10]
def bodyAt (s : List UInt8) (at' : Nat) (h : Hd) : CR :=
  if (bodyS h).2.2 ≠ 0 then .bad (bodyS h).2.2
  else if (bodyS h).1 = 1 then (if s.length < at' + (bodyS h).2.1.toNat then .more else .got ((s.take (at' + (bodyS h).2.1.toNat)).drop at') (at' + (bodyS h).2.1.toNat))
  else if (bodyS h).1 = 2 then chunksS s at' else .got [] at'
/-- What the next request is: more is wanted; a status; a head, a body and where it ends. -/
inductive NX where
  | more
  | bad (st : Int)
  | got (h : Hd) (body : List UInt8) (k : Nat)
def nextL (s : List UInt8) : NX :=
  if Lib.index s crlf2 < 0 then (if 4096 < s.length then .bad 431 else .more)
  else if (headParse (s.take ((Lib.index s crlf2).toNat + 4))).2.1 ≠ 0 then .bad (headParse (s.take ((Lib.index s crlf2).toNat + 4))).2.1
  else match bodyAt s ((Lib.index s crlf2).toNat + 4) (headParse (s.take ((Lib.index s crlf2).toNat + 4))).1 with
    | .more => .more
    | .bad st => .bad st
    | .got b k => .got (headParse (s.take ((Lib.index s crlf2).toNat + 4))).1 b k
abbrev bodAV : CR → AV
  | .more => .tup [.str [], .int .i64 (-1), .int .i64 0]
  | .bad st => .tup [.str [], .int .i64 0, .int .i64 st]
  | .got b k => .tup [.str b, .int .i64 (k : Int), .int .i64 0]
abbrev parO (is : Bool) (s : List UInt8) (st : Int) : AO := .box [.bool is, .str s, .int .i64 st]
def feedS (s : List UInt8) (st : Int) (t : List UInt8) : Int × List UInt8 := if st ≠ 0 then (80, s) else if 65536 < s.length + t.length then (2, s) else (0, s ++ t)
section
variable {w0 : World} {base : Nat}
theorem s_index {s p : List UInt8} (hG : Glob w0 base) (hs : s.length < 4294967281) : PCalls (EE w0 base) 49 [.str s, .str p] fun rv => rv = .int .i64 (Lib.index s p) := by
  refine pcalls_plain rfl fun I ν w vs hh hl hv => ?_
  match vs, hl with
  | [v1, v2], _ =>
  have e1 := (hv 0 _ v1 rfl rfl).str_inv
  have e2 := (hv 1 _ v2 rfl rfl).str_inv
  subst e1; subst e2
  obtain ⟨m, hm⟩ := glob_at hG hh
  exact ⟨_, fun w I => .pure (.int _ _), (Tryz.strings_Index ⟨s.toArray⟩ ⟨p.toArray⟩ m w hs hm).mono fun e w' ⟨he, hw⟩ => ⟨he, by subst hw; exact Below.refl _ _⟩⟩
theorem a_given {is : Bool} {s : List UInt8} {st : Int} : ACalls (EE w0 base) 48 [.op 0 0] [parO is s st] fun rv os => rv = .bool is ∧ os = [parO is s st] := by
  refine acalls_of Tryz.func48 rfl rfl rfl (.cons .nil) ?_
  cases is
  all_goals
    repeat' (first|(first|(refine al_v (ov_nilCheck (n := 0) rfl rfl) rfl ?_)|(refine al_v (ov_pne_pn rfl rfl rfl) rfl ?_))|(refine k_al ?_;first|(refine al_v (ov_move rfl) rfl ?_)|(refine k_g ?_;first|(refine al_gy' rfl rfl (by with_reducible rfl) ?_))|(refine al_v (ov_fieldAddr rfl rfl) rfl ?_)|(refine k_load ?_;first|(refine al_v (ov_load rfl rfl) rfl ?_))|(refine k_pick ?_;first|(refine al_v (ov_pick_t' rfl (by with_reducible rfl) rfl) rfl ?_))|(refine al_v (ov_assign rfl) rfl ?_)|(refine al_nil ?_))|(first|(refine thn_n ?_)|(refine k_awp ?_;first|(refine awp_seq (awp_region ?_))|(refine awp_seq ?_)|(refine awp_region ?_)|(refine awp_ret ?_))))
    refine ret1 (by first | exact .inr rfl | exact .inl rfl) rfl rfl ?_
    exact ⟨rfl, rfl⟩
theorem a_feed {s t : List UInt8} {st : Int} (hs : s.length ≤ 65536) (ht : t.length ≤ 140737488351232) : ACalls (EE w0 base) 22 [.op 0 0, .str t] [parO true s st] fun rv os => rv = .int .i64 (feedS s st t).1 ∧ os = [parO true (feedS s st t).2 st] := by
  refine acalls_of Tryz.func22 rfl rfl rfl (.cons (.cons .nil)) ?_
  unfold feedS
  by_cases h1 : st = 0
  · rw [if_neg (fun k => k h1)]
    by_cases h2 : 65536 < s.length + t.length
    · rw [if_pos h2]
      repeat' (first|(first|(refine k_call ?_;refine al_acall [0] rfl rfl (a_given (is := true) (s := s) (st := st)) (by repeat constructor) (by repeat constructor) rfl rfl ?_;rintro _ _ ⟨rfl, rfl⟩;refine ⟨_, _, by repeat constructor, by repeat constructor, ?_⟩)|(refine al_v (ov_nilCheck (n := 0) rfl rfl) rfl ?_))|(refine k_al ?_;first|(refine al_v (ov_move rfl) rfl ?_)|(refine al_v (ov_fieldAddr rfl rfl) rfl ?_)|(refine k_load ?_;first|(refine al_v (ov_load rfl rfl) rfl ?_))|(refine k_bin ?_;first|(refine al_v (ov_cmp rfl rfl rfl) rfl ?_)|(refine al_v (ov_cat rfl rfl (by first|omega|(simp only [List.length_append, List.length_cons, List.length_nil];omega)|(simp;omega))) rfl ?_)|(refine al_v (ov_add rfl rfl (by (first|exact w64 (by omega) (by omega)|rfl))) rfl ?_))|(refine al_v (ov_assign rfl) rfl ?_)|(refine k_call ?_;first|(refine al_v (ov_len_str rfl) rfl ?_))|(refine al_nil ?_)|(refine al_store rfl rfl rfl rfl rfl (by repeat constructor) (by repeat constructor) ?_)|(refine al_v (ov_not_t rfl (by with_reducible rfl)) rfl ?_))|(first|(refine thn_n ?_)|(refine k_awp ?_;first|(refine awp_seq (awp_region ?_))|(refine awp_seq ?_)|(refine awp_region ?_)|(refine k_cond ?_;first|(refine awp_cond_f' rfl (by with_reducible rfl) ?_)|(refine awp_cond_p rfl (fun hc => ?_) (fun hc => ?_) <;> (try (exfalso;omega))))|(refine awp_block ?_)|(refine awp_ret ?_)|(refine awp_skip ?_))|(refine thn_ret ?_)|(refine inb_n ?_)|(refine inb_ret ?_)))
      refine ret1 (by first | exact .inr rfl | exact .inl rfl) rfl rfl ?_
      exact ⟨rfl, rfl⟩
    · rw [if_neg h2]
      repeat' (first|(first|(refine k_call ?_;refine al_acall [0] rfl rfl (a_given (is := true) (s := s) (st := st)) (by repeat constructor) (by repeat constructor) rfl rfl ?_;rintro _ _ ⟨rfl, rfl⟩;refine ⟨_, _, by repeat constructor, by repeat constructor, ?_⟩)|(refine al_v (ov_nilCheck (n := 0) rfl rfl) rfl ?_))|(refine k_al ?_;first|(refine al_v (ov_move rfl) rfl ?_)|(refine al_v (ov_fieldAddr rfl rfl) rfl ?_)|(refine k_load ?_;first|(refine al_v (ov_load rfl rfl) rfl ?_))|(refine k_bin ?_;first|(refine al_v (ov_cmp rfl rfl rfl) rfl ?_)|(refine al_v (ov_cat rfl rfl (by first|omega|(simp only [List.length_append, List.length_cons, List.length_nil];omega)|(simp;omega))) rfl ?_)|(refine al_v (ov_add rfl rfl (by (first|exact w64 (by omega) (by omega)|rfl))) rfl ?_))|(refine al_v (ov_assign rfl) rfl ?_)|(refine k_call ?_;first|(refine al_v (ov_len_str rfl) rfl ?_))|(refine al_nil ?_)|(refine al_store rfl rfl rfl rfl rfl (by repeat constructor) (by repeat constructor) ?_)|(refine al_v (ov_not_t rfl (by with_reducible rfl)) rfl ?_))|(first|(refine thn_n ?_)|(refine k_awp ?_;first|(refine awp_seq (awp_region ?_))|(refine awp_seq ?_)|(refine awp_region ?_)|(refine k_cond ?_;first|(refine awp_cond_f' rfl (by with_reducible rfl) ?_)|(refine awp_cond_p rfl (fun hc => ?_) (fun hc => ?_) <;> (try (exfalso;omega))))|(refine awp_block ?_)|(refine awp_ret ?_)|(refine awp_skip ?_))|(refine thn_ret ?_)|(refine inb_n ?_)|(refine inb_ret ?_)))
      refine ret1 (by first | exact .inr rfl | exact .inl rfl) rfl rfl ?_
      exact ⟨rfl, rfl⟩
  · rw [if_pos h1]
    repeat' (first|(first|(refine k_call ?_;refine al_acall [0] rfl rfl (a_given (is := true) (s := s) (st := st)) (by repeat constructor) (by repeat constructor) rfl rfl ?_;rintro _ _ ⟨rfl, rfl⟩;refine ⟨_, _, by repeat constructor, by repeat constructor, ?_⟩)|(refine al_v (ov_nilCheck (n := 0) rfl rfl) rfl ?_))|(refine k_al ?_;first|(refine al_v (ov_move rfl) rfl ?_)|(refine al_v (ov_fieldAddr rfl rfl) rfl ?_)|(refine k_load ?_;first|(refine al_v (ov_load rfl rfl) rfl ?_))|(refine k_bin ?_;first|(refine al_v (ov_cmp rfl rfl rfl) rfl ?_)|(refine al_v (ov_cat rfl rfl (by first|omega|(simp only [List.length_append, List.length_cons, List.length_nil];omega)|(simp;omega))) rfl ?_)|(refine al_v (ov_add rfl rfl (by (first|exact w64 (by omega) (by omega)|rfl))) rfl ?_))|(refine al_v (ov_assign rfl) rfl ?_)|(refine k_call ?_;first|(refine al_v (ov_len_str rfl) rfl ?_))|(refine al_nil ?_)|(refine al_store rfl rfl rfl rfl rfl (by repeat constructor) (by repeat constructor) ?_)|(refine al_v (ov_not_t rfl (by with_reducible rfl)) rfl ?_))|(first|(refine thn_n ?_)|(refine k_awp ?_;first|(refine awp_seq (awp_region ?_))|(refine awp_seq ?_)|(refine awp_region ?_)|(refine k_cond ?_;first|(refine awp_cond_f' rfl (by with_reducible rfl) ?_)|(refine awp_cond_p rfl (fun hc => ?_) (fun hc => ?_) <;> (try (exfalso;omega))))|(refine awp_block ?_)|(refine awp_ret ?_)|(refine awp_skip ?_))|(refine thn_ret ?_)|(refine inb_n ?_)|(refine inb_ret ?_)))
    refine ret1 (by first | exact .inr rfl | exact .inl rfl) rfl rfl ?_
    exact ⟨rfl, rfl⟩
theorem a_left {s : List UInt8} {st : Int} : ACalls (EE w0 base) 29 [.op 0 0] [parO true s st] fun rv os => rv = .int .i64 (s.length : Int) ∧ os = [parO true s st] := by
  refine acalls_of Tryz.func29 rfl rfl rfl (.cons .nil) ?_
  repeat' (first|(first|(refine k_call ?_;refine al_acall [0] rfl rfl (a_given (is := true) (s := s) (st := st)) (by repeat constructor) (by repeat constructor) rfl rfl ?_;rintro _ _ ⟨rfl, rfl⟩;refine ⟨_, _, by repeat constructor, by repeat constructor, ?_⟩)|(refine al_v (ov_nilCheck (n := 0) rfl rfl) rfl ?_))|(refine k_al ?_;first|(refine al_v (ov_move rfl) rfl ?_)|(refine al_v (ov_fieldAddr rfl rfl) rfl ?_)|(refine k_load ?_;first|(refine al_v (ov_load rfl rfl) rfl ?_))|(refine al_v (ov_assign rfl) rfl ?_)|(refine k_call ?_;first|(refine al_v (ov_len_str rfl) rfl ?_))|(refine al_nil ?_)|(refine al_v (ov_not_t rfl (by with_reducible rfl)) rfl ?_))|(first|(refine thn_n ?_)|(refine k_awp ?_;first|(refine awp_seq (awp_region ?_))|(refine awp_seq ?_)|(refine awp_region ?_)|(refine k_cond ?_;first|(refine awp_cond_f' rfl (by with_reducible rfl) ?_))|(refine awp_ret ?_)|(refine awp_skip ?_))))
  refine ret1 (by first | exact .inr rfl | exact .inl rfl) rfl rfl ?_
  exact ⟨rfl, rfl⟩
theorem a_brokenP {s : List UInt8} {st : Int} : ACalls (EE w0 base) 30 [.op 0 0] [parO true s st] fun rv os => rv = .int .i64 st ∧ os = [parO true s st] := by
  refine acalls_of Tryz.func30 rfl rfl rfl (.cons .nil) ?_
  repeat' (first|(first|(refine k_call ?_;refine al_acall [0] rfl rfl (a_given (is := true) (s := s) (st := st)) (by repeat constructor) (by repeat constructor) rfl rfl ?_;rintro _ _ ⟨rfl, rfl⟩;refine ⟨_, _, by repeat constructor, by repeat constructor, ?_⟩)|(refine al_v (ov_nilCheck (n := 0) rfl rfl) rfl ?_))|(refine k_al ?_;first|(refine al_v (ov_move rfl) rfl ?_)|(refine al_v (ov_fieldAddr rfl rfl) rfl ?_)|(refine k_load ?_;first|(refine al_v (ov_load rfl rfl) rfl ?_))|(refine al_v (ov_assign rfl) rfl ?_)|(refine al_nil ?_)|(refine al_v (ov_not_t rfl (by with_reducible rfl)) rfl ?_))|(first|(refine thn_n ?_)|(refine k_awp ?_;first|(refine awp_seq (awp_region ?_))|(refine awp_seq ?_)|(refine awp_region ?_)|(refine k_cond ?_;first|(refine awp_cond_f' rfl (by with_reducible rfl) ?_))|(refine awp_ret ?_)|(refine awp_skip ?_))))
  refine ret1 (by first | exact .inr rfl | exact .inl rfl) rfl rfl ?_
  exact ⟨rfl, rfl⟩
abbrev req0 : AV := .agg [.str [], .str [], .int .i64 0, .rs [], .str [], .rs [], .str [], .bool false]
theorem a_breaks {s : List UInt8} {st st' : Int} : ACalls (EE w0 base) 50 [.op 0 0, .int .i64 st'] [parO true s st] fun rv os => rv = .tup [req0, .bool false, .int .i64 st'] ∧ os = [parO true [] st', .box [.str [], .str [], .int .i64 0, .rs [], .str [], .rs [], .str [], .bool false]] := by
  refine acalls_of Tryz.func50 rfl rfl rfl (.cons (.cons .nil)) ?_
  repeat' (first|(first|(refine al_v (ov_nilCheck (n := 0) rfl rfl) rfl ?_))|(refine k_al ?_;first|(refine al_v (ov_move rfl) rfl ?_)|(refine al_v (ov_fieldAddr rfl rfl) rfl ?_)|(refine al_v (ov_assign rfl) rfl ?_)|(refine al_nil ?_)|(refine al_alloc rfl rfl rfl (by first|exact ln1) (by repeat constructor) rfl ?_)|(refine al_store rfl rfl rfl rfl rfl (by repeat constructor) (by repeat constructor) ?_)|(refine al_v (ov_build rfl rfl rfl (by repeat constructor)) rfl ?_))|(first|(refine thn_n ?_)|(refine k_awp ?_;first|(refine awp_seq (awp_region ?_))|(refine awp_seq ?_)|(refine awp_region ?_)|(refine awp_ret ?_))))
  refine retq_wkn (.boxLe (id := 1) [.str [], .str [], .int .i64 0, .rs [], .str [], .rs [], .str [], .bool false] rfl (.cons (.refl _) (.cons (.refl _) (.cons (.refl _) (.cons .nil (.cons (.refl _) (.cons .nil (.cons (.refl _) (.cons (.refl _) .nil)))))))) rfl) ?_
  refine retc2 (by first | exact .inr rfl | exact .inl rfl) rfl rfl rfl rfl rfl rfl ?_
  exact ⟨rfl, rfl⟩
theorem s_bodyP {s : List UInt8} {at' : Nat} {h : Hd} (hat : at' ≤ s.length) (hs : s.length ≤ 1099511627776) (ht : Tiny h) (hn : 0 ≤ (bodyS h).2.1 ∧ (bodyS h).2.1 ≤ 16384) (hk : (bodyS h).1 ≤ 2) : PCalls (EE w0 base) 60 [.str s, .int .i64 at', hdAV h.m h.t h.v h.fs] fun rv => rv = bodAV (bodyAt s at' h) := by
  have hB := s_bodyR (w0 := w0) (base := base) ht
  have hC := s_chunksR (w0 := w0) (base := base) hat hs
  refine acalls_of Tryz.func60 rfl rfl rfl (.cons (.cons (.cons .nil))) ?_
  unfold bodyAt
  unfold bodR at hB
  revert hB hn hk
  obtain ⟨k, n, st⟩ := bodyS h
  dsimp only
  intro hn hk hB
  obtain ⟨n, rfl⟩ : ∃ m : Nat, n = m := ⟨n.toNat, by omega⟩
  rw [Int.toNat_natCast]
  by_cases h1 : st = 0
  · rw [if_neg (fun k => k h1)]
    by_cases h2 : k = 1
    · rw [if_pos h2]
      by_cases h3 : s.length < at' + n
      · rw [if_pos h3]
        repeat' (first|((refine k_call ?_;refine al_call rfl rfl rfl rfl hB ?_;rintro _ rfl))|(refine k_al ?_;first|(refine al_v (ov_move rfl) rfl ?_)|(refine k_load ?_;first|(refine al_v (ov_load_agg rfl rfl rfl) rfl ?_))|(refine k_bin ?_;first|(refine al_v (ov_cmp rfl rfl rfl) rfl ?_)|(refine al_v (ov_add rfl rfl (by (first|exact w64 (by omega) (by omega)|rfl))) rfl ?_)|(refine al_v (ov_sub rfl rfl (by (first|exact w64 (by omega) (by omega)|rfl))) rfl ?_))|(refine al_v (ov_assign rfl) rfl ?_)|(refine k_call ?_;first|(refine al_v (ov_len_str rfl) rfl ?_))|(refine al_v (ov_extract rfl rfl) rfl ?_)|(refine al_nil ?_)|(refine al_box rfl rfl rfl (by first|exact ln0) (by repeat constructor) rfl ?_))|(first|(refine thn_n ?_)|(refine k_awp ?_;first|(refine awp_seq (awp_region ?_))|(refine awp_seq ?_)|(refine awp_region ?_)|(refine k_cond ?_;first|(refine awp_cond_t' rfl (by with_reducible rfl) ?_)|(refine awp_cond_f' rfl (by with_reducible rfl) ?_)|(refine awp_cond_p rfl (fun hc => ?_) (fun hc => ?_) <;> (try (exfalso;omega))))|(refine awp_block ?_)|(refine awp_ret ?_)|(refine awp_skip ?_))|(refine thn_ret ?_)|(refine inb_n ?_)|(refine inb_ret ?_)))
        refine ret3 (by first | exact .inr rfl | exact .inl rfl) rfl rfl rfl rfl ?_
        exact ⟨rfl, rfl⟩
      · rw [if_neg h3]
        repeat' (first|(first|(refine k_call ?_;refine al_call rfl rfl rfl rfl hB ?_;rintro _ rfl)|(refine al_v (ov_slice_eq (i := at') (j := at' + n) rfl rfl rfl rfl (by omega) (by omega) (by omega) (by omega)) rfl ?_))|(refine k_al ?_;first|(refine al_v (ov_move rfl) rfl ?_)|(refine k_load ?_;first|(refine al_v (ov_load_agg rfl rfl rfl) rfl ?_))|(refine k_bin ?_;first|(refine al_v (ov_cmp rfl rfl rfl) rfl ?_)|(refine al_v (ov_add rfl rfl (by (first|exact w64 (by omega) (by omega)|rfl))) rfl ?_)|(refine al_v (ov_sub rfl rfl (by (first|exact w64 (by omega) (by omega)|rfl))) rfl ?_))|(refine al_v (ov_assign rfl) rfl ?_)|(refine k_call ?_;first|(refine al_v (ov_len_str rfl) rfl ?_))|(refine al_v (ov_extract rfl rfl) rfl ?_)|(refine al_nil ?_)|(refine al_box rfl rfl rfl (by first|exact ln0) (by repeat constructor) rfl ?_))|(first|(refine thn_n ?_)|(refine k_awp ?_;first|(refine awp_seq (awp_region ?_))|(refine awp_seq ?_)|(refine awp_region ?_)|(refine k_cond ?_;first|(refine awp_cond_t' rfl (by with_reducible rfl) ?_)|(refine awp_cond_f' rfl (by with_reducible rfl) ?_)|(refine awp_cond_p rfl (fun hc => ?_) (fun hc => ?_) <;> (try (exfalso;omega))))|(refine awp_block ?_)|(refine awp_ret ?_)|(refine awp_skip ?_))|(refine thn_ret ?_)|(refine inb_n ?_)|(refine inb_ret ?_)))
        refine ret3 (by first | exact .inr rfl | exact .inl rfl) rfl rfl rfl rfl ?_
        exact ⟨rfl, rfl⟩
    · rw [if_neg h2]
      by_cases h3 : k = 2
      · rw [if_pos h3]
        revert hC
        generalize chunksS s at' = z
        intro hC
        cases z
        all_goals
          repeat' (first|(first|(refine k_call ?_;refine al_call rfl rfl rfl rfl hB ?_;rintro _ rfl)|(refine k_call ?_;refine al_call rfl rfl rfl rfl hC ?_;rintro _ rfl))|(refine k_al ?_;first|(refine al_v (ov_move rfl) rfl ?_)|(refine k_load ?_;first|(refine al_v (ov_load_agg rfl rfl rfl) rfl ?_))|(refine k_bin ?_;first|(refine al_v (ov_cmp rfl rfl rfl) rfl ?_)|(refine al_v (ov_add rfl rfl (by (first|exact w64 (by omega) (by omega)|rfl))) rfl ?_)|(refine al_v (ov_sub rfl rfl (by (first|exact w64 (by omega) (by omega)|rfl))) rfl ?_))|(refine al_v (ov_assign rfl) rfl ?_)|(refine k_call ?_;first|(refine al_v (ov_len_str rfl) rfl ?_))|(refine al_v (ov_extract rfl rfl) rfl ?_)|(refine al_nil ?_)|(refine al_box rfl rfl rfl (by first|exact ln0) (by repeat constructor) rfl ?_))|(first|(refine thn_n ?_)|(refine k_awp ?_;first|(refine awp_seq (awp_region ?_))|(refine awp_seq ?_)|(refine awp_region ?_)|(refine k_cond ?_;first|(refine awp_cond_t' rfl (by with_reducible rfl) ?_)|(refine awp_cond_f' rfl (by with_reducible rfl) ?_)|(refine awp_cond_p rfl (fun hc => ?_) (fun hc => ?_) <;> (try (exfalso;omega))))|(refine awp_block ?_)|(refine awp_ret ?_)|(refine awp_skip ?_))|(refine thn_ret ?_)|(refine inb_n ?_)|(refine inb_ret ?_)))
          refine ret3 (by first | exact .inr rfl | exact .inl rfl) rfl rfl rfl rfl ?_
          exact ⟨rfl, rfl⟩
      · rw [if_neg h3]
        repeat' (first|((refine k_call ?_;refine al_call rfl rfl rfl rfl hB ?_;rintro _ rfl))|(refine k_al ?_;first|(refine al_v (ov_move rfl) rfl ?_)|(refine k_load ?_;first|(refine al_v (ov_load_agg rfl rfl rfl) rfl ?_))|(refine k_bin ?_;first|(refine al_v (ov_cmp rfl rfl rfl) rfl ?_)|(refine al_v (ov_add rfl rfl (by (first|exact w64 (by omega) (by omega)|rfl))) rfl ?_)|(refine al_v (ov_sub rfl rfl (by (first|exact w64 (by omega) (by omega)|rfl))) rfl ?_))|(refine al_v (ov_assign rfl) rfl ?_)|(refine k_call ?_;first|(refine al_v (ov_len_str rfl) rfl ?_))|(refine al_v (ov_extract rfl rfl) rfl ?_)|(refine al_nil ?_)|(refine al_box rfl rfl rfl (by first|exact ln0) (by repeat constructor) rfl ?_))|(first|(refine thn_n ?_)|(refine k_awp ?_;first|(refine awp_seq (awp_region ?_))|(refine awp_seq ?_)|(refine awp_region ?_)|(refine k_cond ?_;first|(refine awp_cond_t' rfl (by with_reducible rfl) ?_)|(refine awp_cond_f' rfl (by with_reducible rfl) ?_)|(refine awp_cond_p rfl (fun hc => ?_) (fun hc => ?_) <;> (try (exfalso;omega))))|(refine awp_block ?_)|(refine awp_ret ?_)|(refine awp_skip ?_))|(refine thn_ret ?_)|(refine inb_n ?_)|(refine inb_ret ?_)))
        refine ret3 (by first | exact .inr rfl | exact .inl rfl) rfl rfl rfl rfl ?_
        exact ⟨rfl, rfl⟩
  · rw [if_pos h1]
    repeat' (first|((refine k_call ?_;refine al_call rfl rfl rfl rfl hB ?_;rintro _ rfl))|(refine k_al ?_;first|(refine al_v (ov_move rfl) rfl ?_)|(refine k_load ?_;first|(refine al_v (ov_load_agg rfl rfl rfl) rfl ?_))|(refine k_bin ?_;first|(refine al_v (ov_cmp rfl rfl rfl) rfl ?_)|(refine al_v (ov_add rfl rfl (by (first|exact w64 (by omega) (by omega)|rfl))) rfl ?_)|(refine al_v (ov_sub rfl rfl (by (first|exact w64 (by omega) (by omega)|rfl))) rfl ?_))|(refine al_v (ov_assign rfl) rfl ?_)|(refine k_call ?_;first|(refine al_v (ov_len_str rfl) rfl ?_))|(refine al_v (ov_extract rfl rfl) rfl ?_)|(refine al_nil ?_)|(refine al_box rfl rfl rfl (by first|exact ln0) (by repeat constructor) rfl ?_))|(first|(refine thn_n ?_)|(refine k_awp ?_;first|(refine awp_seq (awp_region ?_))|(refine awp_seq ?_)|(refine awp_region ?_)|(refine k_cond ?_;first|(refine awp_cond_t' rfl (by with_reducible rfl) ?_)|(refine awp_cond_f' rfl (by with_reducible rfl) ?_)|(refine awp_cond_p rfl (fun hc => ?_) (fun hc => ?_) <;> (try (exfalso;omega))))|(refine awp_block ?_)|(refine awp_ret ?_)|(refine awp_skip ?_))|(refine thn_ret ?_)|(refine inb_n ?_)|(refine inb_ret ?_)))
    refine ret3 (by first | exact .inr rfl | exact .inl rfl) rfl rfl rfl rfl ?_
    exact ⟨rfl, rfl⟩
end
end Go.Proofs.YtffcgpkbibijpaaGreatDoor.L

namespace Go.Proofs.YtffcgpkbibijpaaGreatDoor.L
open Go Go.RowKit Go.Proofs
set_option linter.unusedVariables false
set_option linter.unusedSimpArgs false
set_option maxRecDepth 100000
attribute [local irreducible] AL QL AWp Thn InB RetQ ACalls LoopQ HL HO HW HQ NoG JmpQ MidQ

def hdI (s : List UInt8) : Int := if Lib.index s crlf2 < 0 then -1 else Lib.index s crlf2 + 4
theorem occ_slice {s : List UInt8} {i : Nat} : (s.take (i + 4)).drop i = crlf2 ↔ Lib.occAt s crlf2 i = true := by
  unfold Lib.occAt
  rw [List.drop_take, List.isPrefixOf_iff_prefix, List.prefix_iff_eq_take]
  have : i + 4 - i = crlf2.length := by simp [crlf2]
  rw [this]
  exact ⟨fun h => h.symm, fun h => h.symm⟩
theorem occ_short {s : List UInt8} {j : Nat} (h : s.length < j + 4) : Lib.occAt s crlf2 j = false := by
  cases hc : Lib.occAt s crlf2 j with
  | false => rfl
  | true =>
    have := occ_slice.2 hc
    have hl := congrArg List.length this
    simp [crlf2] at hl
    omega
section
variable {w0 : World} {base : Nat}
set_option maxHeartbeats 1000000 in
theorem s_headP {s : List UInt8} (hs : s.length ≤ 1099511627776) : PCalls (EE w0 base) 59 [.str s] fun rv => rv = .int .i64 (hdI s) := by
  refine acalls_of Tryz.func59 rfl rfl rfl (.cons .nil) ?_
  unfold hdI
  repeat' (first|(refine k_al ?_;first|(refine al_v (ov_move rfl) rfl ?_)|(refine k_bin ?_;first|(refine al_v (ov_cmp rfl rfl rfl) rfl ?_)|(refine al_v (ov_add rfl rfl (by (first|exact w64 (by omega) (by omega)|rfl))) rfl ?_)|(refine al_v (ov_seq rfl rfl) rfl ?_))|(refine al_v (ov_assign rfl) rfl ?_)|(refine k_call ?_;first|(refine al_v (ov_len_str rfl) rfl ?_))|(refine al_nil ?_))|(first|(refine thn_n ?_)|(refine k_awp ?_;first|(refine awp_seq (awp_region ?_))|(refine awp_seq ?_)|(refine awp_region ?_)|(refine k_cond ?_;first|(refine awp_cond_p rfl (fun hc => ?_) (fun hc => ?_) <;> (try (exfalso;omega))))|(refine awp_block ?_)|(refine awp_ret ?_)|(refine awp_skip ?_)|(refine awp_exit ?_))|(refine thn_ret ?_)|(refine lq_exit ?_)|(refine lq_ret ?_)|(refine thn_exit ?_)|(refine inb_n ?_)|(refine inb_ret ?_)|(refine inb_here ?_)))
  refine awp_loopq (fun k : Nat => ⟨[(0, .str s), (3, .int .i64 k)], []⟩) (fun k => k ≤ s.length + 1 ∧ ∀ j, j < k → Lib.occAt s crlf2 j = false) (fun k => s.length + 1 - k) 0 (.of (.same (by repeat constructor))) ⟨Nat.zero_le _, fun j h => absurd h (Nat.not_lt_zero _)⟩ ?_
  rintro i ⟨hi, hno⟩
  try dsimp only
  by_cases hlt : i + 4 ≤ s.length
  · by_cases ho : (s.take (i + 4)).drop i = crlf2
    · have hx := Lib.index_first (s := s) (sub := crlf2) (i := i) (by omega) (occ_slice.1 ho) hno
      unfold crlf2 at ho
      rw [hx, if_neg (by omega)]
      repeat' (first|(first|(refine al_v (ov_slice_eq (i := i) (j := i + 4) ho rfl rfl rfl rfl (by omega) (by omega) (by omega)) rfl ?_))|(refine k_al ?_;first|(refine al_v (ov_move rfl) rfl ?_)|(refine k_bin ?_;first|(refine al_v (ov_cmp rfl rfl rfl) rfl ?_)|(refine al_v (ov_add rfl rfl (by (first|exact w64 (by omega) (by omega)|rfl))) rfl ?_)|(refine al_v (ov_seq rfl rfl) rfl ?_))|(refine al_v (ov_assign rfl) rfl ?_)|(refine k_call ?_;first|(refine al_v (ov_len_str rfl) rfl ?_))|(refine al_nil ?_))|(first|(refine thn_n ?_)|(refine k_awp ?_;first|(refine awp_seq (awp_region ?_))|(refine awp_seq ?_)|(refine awp_region ?_)|(refine k_cond ?_;first|(refine awp_cond_p rfl (fun hc => ?_) (fun hc => ?_) <;> (try (exfalso;omega))))|(refine awp_block ?_)|(refine awp_ret ?_)|(refine awp_skip ?_)|(refine awp_exit ?_))|(refine thn_ret ?_)|(refine lq_exit ?_)|(refine lq_ret ?_)|(refine thn_exit ?_)|(refine inb_n ?_)|(refine inb_ret ?_)|(refine inb_here ?_)))
      all_goals first
        | (refine ret1 (by first | exact .inr rfl | exact .inl rfl) rfl rfl ?_
           exact ⟨rfl, rfl⟩)
        | exact absurd rfl ‹_›
    · have ho' : ¬ (s.take (i + 4)).drop i = [13, 10, 13, 10] := ho
      repeat' (first|(first|(refine al_v (ov_slice_eq (i := i) (j := i + 4) rfl rfl rfl rfl rfl (by omega) (by omega) (by omega)) rfl ?_))|(refine k_al ?_;first|(refine al_v (ov_move rfl) rfl ?_)|(refine k_bin ?_;first|(refine al_v (ov_cmp rfl rfl rfl) rfl ?_)|(refine al_v (ov_add rfl rfl (by (first|exact w64 (by omega) (by omega)|rfl))) rfl ?_)|(refine al_v (ov_seq rfl rfl) rfl ?_))|(refine al_v (ov_assign rfl) rfl ?_)|(refine k_call ?_;first|(refine al_v (ov_len_str rfl) rfl ?_))|(refine al_nil ?_))|(first|(refine thn_n ?_)|(refine k_awp ?_;first|(refine awp_seq (awp_region ?_))|(refine awp_seq ?_)|(refine awp_region ?_)|(refine k_cond ?_;first|(refine awp_cond_p rfl (fun hc => ?_) (fun hc => ?_) <;> (try (exfalso;omega))))|(refine awp_block ?_)|(refine awp_ret ?_)|(refine awp_skip ?_)|(refine awp_exit ?_))|(refine thn_ret ?_)|(refine lq_exit ?_)|(refine lq_ret ?_)|(refine thn_exit ?_)|(refine inb_n ?_)|(refine inb_ret ?_)|(refine inb_here ?_)))
      all_goals first
        | (exact absurd ‹_› ho')
        | (first | refine lq_back (i + 1) (.of (.same (by repeat constructor))) ?_ ?_ | fail
           · refine ⟨by omega, fun j hj => ?_⟩
             rcases Nat.lt_or_ge j i with h | h
             · exact hno j h
             · obtain rfl : j = i := by omega
               cases hc : Lib.occAt s crlf2 j with
               | false => rfl
               | true => exact absurd (occ_slice.2 hc) ho
           · omega)
  · have hx : Lib.index s crlf2 = -1 := Lib.index_none fun j _ => by
      rcases Nat.lt_or_ge j i with h | h
      · exact hno j h
      · exact occ_short (by omega)
    rw [hx, if_pos (by decide)]
    repeat' (first|(refine k_al ?_;first|(refine al_v (ov_move rfl) rfl ?_)|(refine k_bin ?_;first|(refine al_v (ov_cmp rfl rfl rfl) rfl ?_)|(refine al_v (ov_add rfl rfl (by (first|exact w64 (by omega) (by omega)|rfl))) rfl ?_)|(refine al_v (ov_seq rfl rfl) rfl ?_))|(refine al_v (ov_assign rfl) rfl ?_)|(refine k_call ?_;first|(refine al_v (ov_len_str rfl) rfl ?_))|(refine al_nil ?_))|(first|(refine thn_n ?_)|(refine k_awp ?_;first|(refine awp_seq (awp_region ?_))|(refine awp_seq ?_)|(refine awp_region ?_)|(refine k_cond ?_;first|(refine awp_cond_p rfl (fun hc => ?_) (fun hc => ?_) <;> (try (exfalso;omega))))|(refine awp_block ?_)|(refine awp_ret ?_)|(refine awp_skip ?_)|(refine awp_exit ?_))|(refine thn_ret ?_)|(refine lq_exit ?_)|(refine lq_ret ?_)|(refine thn_exit ?_)|(refine inb_n ?_)|(refine inb_ret ?_)|(refine inb_here ?_)))
    refine ret1 (by first | exact .inr rfl | exact .inl rfl) rfl rfl ?_
    exact ⟨rfl, rfl⟩
theorem s_feedR {s t : List UInt8} {st : Int} (hs : s.length ≤ 65536) (ht : t.length ≤ 140737488351232) : PCalls (EE w0 base) 31 [.agg [.str s, .int .i64 st], .str t] fun rv => rv = .tup [.agg [.str (feedS s st t).2, .int .i64 st], .int .i64 (feedS s st t).1] := by
  refine acalls_of Tryz.func31 rfl rfl rfl (.cons (.cons .nil)) ?_
  unfold feedS
  by_cases h1 : st = 0
  · rw [if_neg (fun k => k h1)]
    by_cases h2 : 65536 < s.length + t.length
    · rw [if_pos h2]
      repeat' (first|(refine k_al ?_;first|(refine al_v (ov_move rfl) rfl ?_)|(refine al_v (ov_fieldAddr rfl rfl) rfl ?_)|(refine k_load ?_;first|(refine al_v (ov_load rfl rfl) rfl ?_)|(refine al_v (ov_load_agg rfl rfl rfl) rfl ?_))|(refine k_bin ?_;first|(refine al_v (ov_cmp rfl rfl rfl) rfl ?_)|(refine al_v (ov_cat rfl rfl (by first|omega|(simp only [List.length_append, List.length_cons, List.length_nil];omega)|(simp;omega))) rfl ?_)|(refine al_v (ov_sub rfl rfl (by (first|exact w64 (by omega) (by omega)|rfl))) rfl ?_))|(refine al_v (ov_assign rfl) rfl ?_)|(refine k_call ?_;first|(refine al_v (ov_len_str rfl) rfl ?_))|(refine al_nil ?_)|(refine al_box rfl rfl rfl (by first|exact ln0|exact ln1) (by repeat constructor) rfl ?_)|(refine al_alloc rfl rfl rfl (by first|exact ln0|exact ln1) (by repeat constructor) rfl ?_)|(refine al_store rfl rfl rfl rfl rfl (by repeat constructor) (by repeat constructor) ?_))|(first|(refine thn_n ?_)|(refine k_awp ?_;first|(refine awp_seq (awp_region ?_))|(refine awp_seq ?_)|(refine awp_region ?_)|(refine k_cond ?_;first|(refine awp_cond_p rfl (fun hc => ?_) (fun hc => ?_) <;> (try (exfalso;omega))))|(refine awp_ret ?_)|(refine awp_skip ?_))|(refine thn_ret ?_)))
      refine retc1 (by first | exact .inr rfl | exact .inl rfl) rfl rfl rfl rfl rfl ?_
      exact ⟨rfl, rfl⟩
    · rw [if_neg h2]
      repeat' (first|(refine k_al ?_;first|(refine al_v (ov_move rfl) rfl ?_)|(refine al_v (ov_fieldAddr rfl rfl) rfl ?_)|(refine k_load ?_;first|(refine al_v (ov_load rfl rfl) rfl ?_)|(refine al_v (ov_load_agg rfl rfl rfl) rfl ?_))|(refine k_bin ?_;first|(refine al_v (ov_cmp rfl rfl rfl) rfl ?_)|(refine al_v (ov_cat rfl rfl (by first|omega|(simp only [List.length_append, List.length_cons, List.length_nil];omega)|(simp;omega))) rfl ?_)|(refine al_v (ov_sub rfl rfl (by (first|exact w64 (by omega) (by omega)|rfl))) rfl ?_))|(refine al_v (ov_assign rfl) rfl ?_)|(refine k_call ?_;first|(refine al_v (ov_len_str rfl) rfl ?_))|(refine al_nil ?_)|(refine al_box rfl rfl rfl (by first|exact ln0|exact ln1) (by repeat constructor) rfl ?_)|(refine al_alloc rfl rfl rfl (by first|exact ln0|exact ln1) (by repeat constructor) rfl ?_)|(refine al_store rfl rfl rfl rfl rfl (by repeat constructor) (by repeat constructor) ?_))|(first|(refine thn_n ?_)|(refine k_awp ?_;first|(refine awp_seq (awp_region ?_))|(refine awp_seq ?_)|(refine awp_region ?_)|(refine k_cond ?_;first|(refine awp_cond_p rfl (fun hc => ?_) (fun hc => ?_) <;> (try (exfalso;omega))))|(refine awp_ret ?_)|(refine awp_skip ?_))|(refine thn_ret ?_)))
      refine retc1 (by first | exact .inr rfl | exact .inl rfl) rfl rfl rfl rfl rfl ?_
      exact ⟨rfl, rfl⟩
  · rw [if_pos h1]
    repeat' (first|(refine k_al ?_;first|(refine al_v (ov_move rfl) rfl ?_)|(refine al_v (ov_fieldAddr rfl rfl) rfl ?_)|(refine k_load ?_;first|(refine al_v (ov_load rfl rfl) rfl ?_)|(refine al_v (ov_load_agg rfl rfl rfl) rfl ?_))|(refine k_bin ?_;first|(refine al_v (ov_cmp rfl rfl rfl) rfl ?_)|(refine al_v (ov_cat rfl rfl (by first|omega|(simp only [List.length_append, List.length_cons, List.length_nil];omega)|(simp;omega))) rfl ?_)|(refine al_v (ov_sub rfl rfl (by (first|exact w64 (by omega) (by omega)|rfl))) rfl ?_))|(refine al_v (ov_assign rfl) rfl ?_)|(refine k_call ?_;first|(refine al_v (ov_len_str rfl) rfl ?_))|(refine al_nil ?_)|(refine al_box rfl rfl rfl (by first|exact ln0|exact ln1) (by repeat constructor) rfl ?_)|(refine al_alloc rfl rfl rfl (by first|exact ln0|exact ln1) (by repeat constructor) rfl ?_)|(refine al_store rfl rfl rfl rfl rfl (by repeat constructor) (by repeat constructor) ?_))|(first|(refine thn_n ?_)|(refine k_awp ?_;first|(refine awp_seq (awp_region ?_))|(refine awp_seq ?_)|(refine awp_region ?_)|(refine k_cond ?_;first|(refine awp_cond_p rfl (fun hc => ?_) (fun hc => ?_) <;> (try (exfalso;omega))))|(refine awp_ret ?_)|(refine awp_skip ?_))|(refine thn_ret ?_)))
    refine retc1 (by first | exact .inr rfl | exact .inl rfl) rfl rfl rfl rfl rfl ?_
    exact ⟨rfl, rfl⟩
end
end Go.Proofs.YtffcgpkbibijpaaGreatDoor.L

namespace Go.Proofs.YtffcgpkbibijpaaGreatDoor.L
open Go Go.RowKit Go.Proofs
set_option linter.unusedVariables false
set_option linter.unusedSimpArgs false
set_option maxRecDepth 100000

/-- A head that can be read. -/
structure GoodH (h : Hd) : Prop where
  f : h.fs.length ≤ 32
  v : ∀ p ∈ h.fs, p.2.length ≤ 1024
  t : tgtOk h.t = true
theorem GoodH.tiny {h : Hd} (g : GoodH h) : Tiny h := ⟨Nat.le_trans g.f (by decide), fun p hp => Nat.le_trans (g.v p hp) (by decide)⟩
theorem GoodH.tlen {h : Hd} (g : GoodH h) : h.t.length ≤ 1024 := by
  have := g.t
  unfold tgtOk at this
  rw [Bool.and_eq_true] at this
  exact of_decide_eq_true this.1
theorem req_tgt {l : List UInt8} (h : reqSt l = 0) : tgtOk (rT l) = true := by
  unfold reqSt stR at h
  split at h
  · split at h
    · cases h
    · split at h
      · assumption
      · cases h
  · cases h
theorem fieldOf_len (l : List UInt8) : (fieldOf l).2.length ≤ l.length := by
  unfold fieldOf fV
  have h1 := trim_len (Lib.cut l [58]).2.1
  have h2 := (cut1_len l 58).2.1
  dsimp only
  omega
theorem pGo_good (s : List UInt8) : ∀ (f at' : Nat) (o : Option Hd), at' ≤ s.length → s.length + 1 - at' ≤ f → (∀ h, o = some h → GoodH h) → (pGo s f at' o).2.1 = 0 → GoodH (pGo s f at' o).1 := by
  intro f
  induction f with
  | zero => intro at' o h1 h2 _ _; omega
  | succ f ih =>
    intro at' o ha hf ho
    obtain ⟨line, rest, ended, hline⟩ : ∃ line rest ended, lineAt s at' = (line, rest, ended) := ⟨_, _, _, rfl⟩
    obtain ⟨hl1, hl2⟩ := line_facts hline ha
    rw [pGo_succ, hline]
    dsimp only
    split
    · intro h; cases h
    split
    · intro h; cases h
    rename_i hlen hend
    have hen : ended = true := by
      cases ended with
      | true => rfl
      | false => exact absurd (.inl rfl) hend
    have hl3 := hl2 hen
    cases o with
    | none =>
      dsimp only
      split
      · rename_i hr
        exact ih _ _ (by omega) (by omega) fun h e => by
          injection e with e
          subst e
          exact ⟨by simp, by simp, req_tgt hr⟩
      · rename_i hr
        intro h
        exact absurd h hr
    | some h =>
      have hg := ho h rfl
      dsimp only
      split
      · split
        · intro h; cases h
        · split
          · intro _; exact hg
          · intro h; cases h
      · split
        · intro h; cases h
        · split
          · rename_i h32 hok
            have hff := hg.f
            exact ih _ _ (by omega) (by omega) fun h' e => by
              injection e with e
              subst e
              refine ⟨by simp; omega, fun p hp => ?_, hg.t⟩
              rcases List.mem_append.1 hp with hp | hp
              · exact hg.v p hp
              · obtain rfl : p = fieldOf line := by simpa using hp
                have := fieldOf_len line
                omega
          · intro h; cases h
theorem headParse_good {s : List UInt8} (h : (headParse s).2.1 = 0) : GoodH (headParse s).1 := by
  unfold headParse at h ⊢
  split at h
  · cases h
  · rename_i hs
    rw [if_neg hs]
    exact pGo_good s _ 0 none (Nat.zero_le _) (by omega) (fun h e => by cases e) h
theorem bodyS_range (h : Hd) : 0 ≤ (bodyS h).2.1 ∧ (bodyS h).2.1 ≤ 16384 ∧ 0 ≤ (bodyS h).1 ∧ (bodyS h).1 ≤ 2 := by
  unfold bodyS
  generalize valsOf h.fs cleS = L
  generalize valsOf h.fs teS = C
  cases L with
  | nil =>
    cases C with
    | nil =>
      rw [bodyL]
      exact ⟨by decide, by decide, by decide, by decide⟩
    | cons c C =>
      rw [bodyL]
      split <;> exact ⟨by decide, by decide, by decide, by decide⟩
  | cons l L =>
    cases C with
    | cons c C =>
      rw [bodyL]
      exact ⟨by decide, by decide, by decide, by decide⟩
    | nil =>
      rw [bodyL]
      split
      · exact ⟨by decide, by decide, by decide, by decide⟩
      · rename_i hc
        split
        · exact ⟨by decide, by decide, by decide, by decide⟩
        · have hd : l.all pDigit = true := by
            cases he : l.all pDigit with
            | true => rfl
            | false => exact absurd (.inr (.inr (.inl he))) hc
          have := (decFrom_fold l 0 hd).2
          exact ⟨this, by dsimp only; omega, by dsimp only; decide, by dsimp only; decide⟩
/-- What is known of chunks that were read. -/
def CFacts (s : List UInt8) (at' : Nat) : CR → Prop
  | .more => True
  | .bad st => st = 400 ∨ st = 413
  | .got b k => at' ≤ k ∧ k ≤ s.length ∧ b.length ≤ 16384
theorem chunksF_facts (s : List UInt8) : ∀ (f : Nat) (acc : List UInt8) (at' : Nat), at' ≤ s.length → CFacts s at' (chunksF f s acc at') := by
  intro f
  induction f with
  | zero => intro acc at' _; exact trivial
  | succ f ih =>
    intro acc at' ha
    rw [chunksF]
    have hle : ∀ m k, sizeL at' 0 0 at' (s.drop at') = .got m k → m < 4294967296 ∧ at' + 2 ≤ k ∧ k ≤ s.length := fun m k => sizeL_le ha (Nat.zero_le _) Nat.zero_lt_one
    revert hle
    generalize sizeL at' 0 0 at' (s.drop at') = z
    intro hle
    cases z with
    | more => exact trivial
    | wrong => exact .inl rfl
    | got n k =>
      obtain ⟨_, h1, h2⟩ := hle n k rfl
      rw [afterL]
      split
      · exact .inr rfl
      rename_i hbig
      split
      · exact trivial
      rename_i hlong
      have hel : ∀ m e, endL 0 (k + n) (s.drop (k + n)) = .got m e → m = 0 ∧ e = k + n + 2 ∧ e ≤ s.length := fun m e => endL_le (by omega)
      have hal : (acc ++ (s.take (k + n)).drop k).length = acc.length + n := by simp; omega
      revert hel
      generalize endL 0 (k + n) (s.drop (k + n)) = z
      intro hel
      cases z with
      | more => exact trivial
      | wrong => exact .inl rfl
      | got m e =>
        obtain ⟨_, h3, h4⟩ := hel m e rfl
        dsimp only
        split
        · exact ⟨by omega, h4, by omega⟩
        · have := ih (acc ++ (s.take (k + n)).drop k) e h4
          revert this
          generalize chunksF f s (acc ++ (s.take (k + n)).drop k) e = q
          intro this
          cases q with
          | more => exact trivial
          | bad st => exact this
          | got b k' => exact ⟨by have := this.1; omega, this.2⟩
def BFacts (s : List UInt8) (at' : Nat) : CR → Prop
  | .more => True
  | .bad st => st = 400 ∨ st = 413
  | .got b k => at' ≤ k ∧ k ≤ s.length
theorem bodyL_st (v : Int) (L C : List (List UInt8)) : (bodyL v L C).2.2 = 0 ∨ (bodyL v L C).2.2 = 400 ∨ (bodyL v L C).2.2 = 413 := by
  cases L with
  | nil =>
    cases C with
    | nil => rw [bodyL]; exact .inl rfl
    | cons c C => rw [bodyL]; split <;> simp
  | cons l L =>
    cases C with
    | cons c C => rw [bodyL]; simp
    | nil =>
      rw [bodyL]
      split
      · simp
      · split <;> simp
theorem bodyAt_facts {s : List UInt8} {at' : Nat} {h : Hd} (ha : at' ≤ s.length) : BFacts s at' (bodyAt s at' h) := by
  unfold bodyAt
  have hst := bodyL_st h.v (valsOf h.fs cleS) (valsOf h.fs teS)
  split
  · rename_i h0
    rcases hst with hst | hst
    · exact absurd hst h0
    · exact hst
  split
  · split
    · exact trivial
    · exact ⟨by omega, by omega⟩
  split
  · have := chunksF_facts s (s.length + 1) [] at' ha
    unfold chunksS
    revert this
    generalize chunksF (s.length + 1) s [] at' = q
    intro this
    cases q with
    | more => exact trivial
    | bad st => exact this
    | got b k => exact ⟨this.1, this.2.1⟩
  · exact ⟨Nat.le_refl _, ha⟩
theorem idx_room : ∀ (s : List UInt8), Lib.index s crlf2 = -1 ∨ ∃ i : Nat, Lib.index s crlf2 = i ∧ i + 4 ≤ s.length := by
  intro s
  induction s with
  | nil => exact .inl rfl
  | cons b l ih =>
    rw [Lib.index]
    split
    · rename_i hp
      right
      refine ⟨0, rfl, ?_⟩
      have := (List.isPrefixOf_iff_prefix.1 hp).length_le
      simpa [crlf2] using this
    · split
      · exact .inl rfl
      · rename_i hne
        rcases ih with ih | ⟨i, ih, hi⟩
        · rw [ih] at hne; exact absurd rfl hne
        · exact .inr ⟨i + 1, by rw [ih]; rfl, by simp only [List.length_cons]; omega⟩
end Go.Proofs.YtffcgpkbibijpaaGreatDoor.L

namespace Go.Proofs.YtffcgpkbibijpaaGreatDoor.L
open Go Go.RowKit
set_option linter.unusedVariables false
set_option linter.unusedSimpArgs false

def preOK (ops : Array Oper) (τ : List (Nat × List Nat)) (i j : Nat) (A B : List PS) : List Bool → List PS → Bool
  | L, [] => (Region.ready .any ops L.toArray == [i, j]) && (planOK ops τ (L.set i true) A && (planOK ops τ (L.set j true) B && Nat.beq A.length B.length))
  | L, p :: r => (p.q && qOK ops τ L p.R p.i p.G) && preOK ops τ i j A B (L.set p.i true) r
/-- A plan of what only looks, then either of two operations. -/
def HF (E : Env) (N : Nat) (ops : Array Oper) (τ : List (Nat × List Nat)) (Q : Exit → St → Prop) (i j : Nat) (A B pl : List PS) (σ : St) : Prop :=
  Region.noSelect ops = true → ∀ L : List Bool, L.length = ops.size → preOK ops τ i j A B L pl = true → ∀ I ν a w, SR E N I ν σ a w → ∀ w0 I0 ν0 o0, FR E.k w0 I0 ν0 o0 w I ν σ.objs →
    wpAnyP E.P .any ops (LN E N w0 I0 ν0 o0 Q) (SS τ L.toArray I ν σ.objs w) (pl.length + (A.length + 1)) L.toArray a w
theorem awp_heldF {E : Env} {N : Nat} {Q : Exit → St → Prop} {id : Nat} {l : List Oper} {σ : St} (τ : List (Nat × List Nat)) (i j : Nat) (A B pl : List PS) (hm : E.P.follows .mixedOrders = true) (hn : Region.noSelect l.toArray = true) (hl : Nat.beq (pl.length + (A.length + 1)) l.length = true)
    (hp : preOK l.toArray τ i j A B (List.replicate l.length false) pl = true) (h : HF E N l.toArray τ Q i j A B pl σ) : AWp E N (.region id l.toArray true) Q σ := by
  intro I ν a w hs
  obtain ⟨h1, h2, h3⟩ := hs.hr.later (w' := { w with drawn := w.drawn + 1 }) ((Below.refl _ _).drew)
  have := h hn (List.replicate l.length false) (by simp) hp I ν a _ ⟨h1, hs.sl.mono h3 (Nu.le.refl ν), hs.df, hs.nt⟩ w I ν σ.objs h2
  have h4 := wpAny_of_P _ _ _ _ this
  rw [Nat.eq_of_beq_eq_true hl] at h4
  have h5 := wp_region_any (P := E.P) (ops := l.toArray) (id := id) (a := a) (w := w) (Q := LN E N w I ν σ.objs Q) hm (by simpa using h4)
  exact Code.wp_mono (fun e a' w' ⟨he, k⟩ => by subst he; exact k) h5
section
variable {E : Env} {N : Nat} {ops : Array Oper} {τ : List (Nat × List Nat)} {Q : Exit → St → Prop} {i j : Nat} {A B : List PS} {p : PS} {pl : List PS} {sl : Slots} {H : List AO}
theorem hf_first {L : List Bool} (hL : L.length = ops.size) (hns : Region.noSelect ops = true) (hp : preOK ops τ i j A B L (p :: pl) = true) {o : Oper} (hi : ops[p.i]? = some o) {v : Value} {σ σ' : St} {I : Imm} {ν : Nu} {a : Act} {w w0 : World} {I0 : Imm} {ν0 : Nu} {o0 : List AO}
    (hH : σ'.objs = σ.objs) (hs : SR E N I ν σ a w) (hf : FR E.k w0 I0 ν0 o0 w I ν σ.objs)
    (hy : (Region.wanted o (yielded ops a.tmps) = true ∧ ∀ w', Still ν (gnl p.G 0 σ.objs) I w w' → (execOp a.eval o).run E.P w' = .ok (.value v) w') ∨ (Region.wanted o (yielded ops a.tmps) = false ∧ v = undef))
    (hs' : SR E N I ν σ' (a.put o.dst v) w) (h : HF E N ops τ Q i j A B pl σ') : wpAnyP E.P .any ops (LN E N w0 I0 ν0 o0 Q) (SS τ L.toArray I ν σ.objs w) ((p :: pl).length + (A.length + 1)) L.toArray a w := by
  simp only [preOK, Bool.and_eq_true] at hp
  obtain ⟨⟨_, hq1⟩, hp'⟩ := hp
  simp only [qOK, Bool.and_eq_true, List.all_eq_true, List.mem_range] at hq1
  obtain ⟨⟨⟨⟨⟨g1, g2⟩, g3⟩, g4⟩, g5⟩, g6⟩ := hq1
  have hRs : p.R.length = ops.size := Nat.eq_of_beq_eq_true g3
  have hti : tau τ p.i = [] := by simpa [List.isEmpty_iff] using g5
  have hLR : LLe L.toArray p.R.toArray := fun k hk => by
    rcases Nat.lt_or_ge k ops.size with h1 | h1
    · have := (g6 k h1).1
      simpa [hk] using this
    · have : p.R.length ≤ k := by omega
      simp [this]
  have hh := h hns (L.set p.i true) (by simpa using hL) hp' I ν _ w hs' w0 I0 ν0 o0 (by rw [hH]; exact hf)
  rw [hH] at hh
  have hset : (L.set p.i true).toArray = L.toArray.setIfInBounds p.i true := by simp
  rw [hset] at hh
  have hlen : (p :: pl).length + (A.length + 1) = (pl.length + (A.length + 1)) + 1 := by simp only [List.length_cons]; omega
  rw [hlen]
  refine wpAnyP_first (R := p.R.toArray) hi (Region.noSelect_spec hns) (fun c a w hh => LN.panic (by simp) hh) (by simpa using hRs) (fun j hj => ?_) (fun L' w' => ?_) _ _ _ _ (by simpa using hL) hLR (Region.free_spec hi g1) (by simpa using g2) ?_ ?_ (wpAnyP_mono _ _ _ _ (fun L' w' hl hs => ?_) hh)
  · exact Nat.eq_of_beq_eq_true (g4 j hj)
  · refine ⟨fun ⟨a1, a2, a3⟩ => ⟨a1, a2, fun id o b h1 h2 h3 => a3 id o b h1 h2 fun j hj hl => h3 j hj ?_⟩, fun ⟨a1, a2, a3⟩ => ⟨a1, a2, fun id o b h1 h2 h3 => a3 id o b h1 h2 fun j hj hl => h3 j hj (LLe.set L' p.i j hl)⟩⟩
    by_cases e : p.i = j
    · subst e; rw [hti] at hj; simp [inl] at hj
    · rw [getD_set_ne true e] at hl; exact hl
  · rcases hy with ⟨y1, y2⟩ | hy
    · refine .inl ⟨y1, fun w' ⟨L', l1, l2, a1, a2, a3⟩ => y2 w' ⟨a1, a2, fun id o b h1 h2 => ?_⟩⟩
      rcases gnl_get p.G σ.objs 0 id o h1 with rfl | ⟨h3, h4⟩
      · simp [OB] at h2
      · refine a3 id o b h4 h2 fun j hj hl => ?_
        cases hLj : L.toArray.getD j true with
        | true => rfl
        | false =>
          have hjs : j < ops.size := by
            rcases Nat.lt_or_ge j ops.size with h5 | h5
            · exact h5
            · have : L.length ≤ j := by omega
              simp [this] at hLj
          have := (g6 j hjs).2
          rw [l2 j hl, hLj] at this
          have := allIn_get (by simpa using this) id hj
          rw [Nat.zero_add, this] at h3
          cases h3
    · exact .inr hy
  · exact ⟨Nat.le_refl _, fun _ _ _ => rfl, fun _ _ _ _ _ _ => rfl⟩
  · obtain ⟨a1, a2, a3⟩ := hs
    exact ⟨a1, a2, fun id o b h1 h2 h3 => a3 id o b h1 h2 fun j hj hl => LLe.set _ _ _ (h3 j hj hl)⟩
theorem hf_v {op : Op} {ty : TypeId} {pos : String} {after : Array Edge} {d : Nat} {x : AV} (hi : ops[p.i]? = some ⟨some d, op, ty, pos, after, none⟩) (hv : OV E sl (gnl p.G 0 H) op x) (hd : Nat.blt d N = true) (h : HF E N ops τ Q i j A B pl ⟨(d, x) :: sl, H⟩) :
    HF E N ops τ Q i j A B (p :: pl) ⟨sl, H⟩ := by
  intro hns L hL hp I ν a w hs w0 I0 ν0 o0 hf
  obtain ⟨v, hx, hr⟩ := hv I ν a w (hs.hr.less (gnl_len _ _ _) fun id o h => (gnl_get p.G H 0 id o h).imp (fun e => e) (fun e => e.2)) hs.sl
  exact hf_first (σ := ⟨sl, H⟩) (σ' := ⟨(d, x) :: sl, H⟩) hL hns hp hi rfl hs hf (.inl ⟨by simp [Region.wanted], fun w' hw => hr _ w' rfl hw⟩) (put_dst hs hd hx) h
/-- One of the operations that may come up, and the plan of the rest. -/
theorem step_any {q : Nat} {C : List PS} {L : List Bool} (hL : L.length = ops.size) (hns : Region.noSelect ops = true) (hp' : planOK ops τ (L.set q true) C = true) (hrd : q ∈ Region.ready .any ops L.toArray) {op : Op} {ty : TypeId} {pos : String} {after : Array Edge} {d : Option Nat}
    (hi : ops[q]? = some ⟨d, op, ty, pos, after, none⟩) {I : Imm} {ν : Nu} {a : Act} {w w0 : World} {I0 : Imm} {ν0 : Nu} {o0 : List AO} (hs : SR E N I ν ⟨sl, H⟩ a w) (hf : FR E.k w0 I0 ν0 o0 w I ν H)
    (h : AL (E.at H.length) N ops (HQ E N ops τ Q (tau τ q) H C) [⟨d, op, ty, pos, after, none⟩] ⟨sl, mkl (tau τ q) 0 H⟩) :
    wpOp E.P ops (LN E N w0 I0 ν0 o0 Q) q (fun a' w' => SS τ L.toArray I ν H w (L.toArray.setIfInBounds q true) w' ∧ wpAnyP E.P .any ops (LN E N w0 I0 ν0 o0 Q) (SS τ L.toArray I ν H w) C.length (L.toArray.setIfInBounds q true) a' w') a w := by
  have h1 : wpOp E.P ops (LN E N w0 I0 ν0 o0 Q) q (fun a' w' => ∃ σ' I' ν', HL E N ops τ Q C σ' ∧ SR E N I' ν' σ' a' w' ∧ FR E.k w I ν H w' I' ν' σ'.objs ∧
      ∀ (id : Nat) o b, H[id]? = some o → inl id (tau τ q) = false → OB ν id o = some b → w'.heap[b]? = w.heap[b]? ∧ σ'.objs[id]? = some o ∧ OB ν' id o = some b) a w := by
    have hm : HR E I ν (mkl (tau τ q) 0 H) w := hs.hr.less (mkl_len _ _ _) fun id o h => (mkl_get _ H 0 id o h).imp (fun e => e) (fun e => e.2)
    have := h I ν a w ⟨HR.env (E := E) (F := E.at H.length) rfl rfl hm, hs.sl, hs.df, hs.nt⟩ w I ν _ (FR.refl _ _ _ _)
    unfold wpList at this
    rw [if_pos (by simp [Region.wanted])] at this
    refine wpOp_do hi (by simp [Region.wanted]) ?_
    rcases this with this | ⟨_, a', w', σ', _, _, ⟨e, _⟩, _⟩
    · refine wp_monoQ (fun e a' w' he ⟨σ', I', ν', ⟨h1, _⟩, _⟩ => absurd h1 he) (Oper.wp_mono (fun a' w' hk => ?_) this)
      obtain ⟨σ', I', ν', ⟨_, h2⟩, hs2, hf2⟩ := hk
      obtain ⟨u1, u2, u3, u4⟩ := unmask (E := E) (tau τ q) hs.hr hs2.hr hf2
      exact ⟨⟨σ'.sl, rsl (tau τ q) 0 H σ'.objs⟩, I', ν', h2, ⟨u1, hs2.sl, hs2.df, hs2.nt⟩, u2, u4⟩
    · cases e
  refine wpOp_mono (fun a' w' ⟨σ', I', ν', k1, k2, k3, k4⟩ => ?_) h1
  have hun : L.toArray.getD q true = false := (mem_ready.1 hrd).1
  have hset : (L.set q true).toArray = L.toArray.setIfInBounds q true := by simp
  have hnt : ∀ (L' : Array Bool) (id : Nat), L'.getD q true = true → (∀ j, inl id (tau τ j) = true → L'.getD j true = true → L.toArray.getD j true = true) → inl id (tau τ q) = false := fun L' id h1 h2 => by
    cases e : inl id (tau τ q) with
    | false => rfl
    | true => have := h2 q e h1; rw [hun] at this; cases this
  refine ⟨⟨k3.size, k3.imm.2, fun id o b h1 h2 h3 => (k4 id o b h1 (hnt _ id (set_self _ _) h3) h2).1⟩, ?_⟩
  have hh := k1 hns (L.set q true) (by simpa using hL) hp' I' ν' a' w' k2 w0 I0 ν0 o0 (hf.trans k3)
  rw [hset] at hh
  refine wpAnyP_mono _ _ _ _ (fun L' w2 hl hs2 => ?_) hh
  obtain ⟨a1, a2, a3⟩ := hs2
  refine ⟨Nat.le_trans k3.size a1, fun b o hb => (a2 b o (k3.imm.1 b o hb)).trans (k3.imm.2 b o hb), fun id o b h1 h2 h3 => ?_⟩
  obtain ⟨m1, m2, m3⟩ := k4 id o b h1 (hnt L' id (hl _ (set_self _ _)) h3) h2
  exact (a3 id o b m2 m3 fun j hj hl' => LLe.set _ _ _ (h3 j hj hl')).trans m1
theorem hf_fork {oi oj : Op} {ti tj : TypeId} {pi pj : String} {ai aj : Array Edge} {di dj : Option Nat} (hi : ops[i]? = some ⟨di, oi, ti, pi, ai, none⟩) (hj : ops[j]? = some ⟨dj, oj, tj, pj, aj, none⟩)
    (hA : AL (E.at H.length) N ops (HQ E N ops τ Q (tau τ i) H A) [⟨di, oi, ti, pi, ai, none⟩] ⟨sl, mkl (tau τ i) 0 H⟩)
    (hB : AL (E.at H.length) N ops (HQ E N ops τ Q (tau τ j) H B) [⟨dj, oj, tj, pj, aj, none⟩] ⟨sl, mkl (tau τ j) 0 H⟩) : HF E N ops τ Q i j A B [] ⟨sl, H⟩ := by
  intro hns L hL hp I ν a w hs w0 I0 ν0 o0 hf
  simp only [preOK, Bool.and_eq_true, beq_iff_eq] at hp
  obtain ⟨hr, hpA, hpB, hlen⟩ := hp
  have hlen := Nat.eq_of_beq_eq_true hlen
  rw [List.length_nil, Nat.zero_add]
  refine ⟨fun h0 => (by rw [hr] at h0; cases h0), fun q hq => ?_⟩
  have hq' := hq
  rw [hr] at hq'
  rcases List.mem_cons.1 hq' with rfl | hq'
  · exact step_any hL hns hpA hq hi hs hf hA
  · obtain rfl : q = j := by simpa using hq'
    rw [hlen]
    exact step_any hL hns hpB hq hj hs hf hB
end
/-- What a callee made for itself is forgotten behind the call. -/
theorem acalls_drop {E : Env} {f : Nat} {args : List AV} {objs : List AO} {R R' : AV → List AO → Prop} (h : ACalls E f args objs R') (hd : ∀ rv os, R' rv os → ∃ os1 ex, os = os1 ++ ex ∧ R rv os1 ∧ clB os1.length rv = true ∧ ClOs os1.length os1 ∧ objs.length ≤ os1.length) : ACalls E f args objs R := by
  intro I ν w vs hh hl hv
  refine (h I ν w vs hh hl hv).mono ?_
  rintro e w' ⟨rv, os, I', ν', v, hr, he, hvr, hhr, hfr⟩
  obtain ⟨os1, ex, rfl, hR, hc, ho, hk⟩ := hd rv os hr
  obtain ⟨k1, k2⟩ := HR.cut (E := E.at objs.length) (HR.env (E := E) (F := E.at objs.length) rfl rfl hhr) ho hk
  exact ⟨rv, os1, I', _, v, hR, he, VR.cut (k := os1.length) (ν := ν') (ν' := { ν' with n := os1.length }) ⟨Nat.le_refl _, fun _ _ => Nat.le_refl _, fun _ _ _ _ => rfl⟩ hvr hc, HR.env (E := E.at objs.length) (F := E) rfl rfl k1, hfr.trans k2⟩
end Go.Proofs.YtffcgpkbibijpaaGreatDoor.L

namespace Go.Proofs.YtffcgpkbibijpaaGreatDoor.L
open Go Go.RowKit Go.Proofs
set_option linter.unusedVariables false
set_option linter.unusedSimpArgs false
set_option maxRecDepth 100000
attribute [local irreducible] AL QL AWp Thn InB RetQ ACalls LoopQ HL HO HW HQ NoG JmpQ MidQ HF

theorem retcc2 {E : Env} {N : Nat} {fn : Func} {R : AV → List AO → Prop} {e : Exit} {σ : St} {p ty p' ty' t u n b n' b' : Nat} {z z' : Value} {pv pv' x y : AV} {cs cs' : List AV} [ti : TZ E.P ty true n b z] [ti' : TZ E.P ty' true n' b' z'] (he : e = .normal ∨ e = .ret) (h2 : fn.results = #[.cell p ty, .cell p' ty', .tmp t, .tmp u])
    (hp : lk σ.sl p = some pv) (hc : cellsAt σ.objs pv = some cs) (hn : Nat.ble n cs.length = true) (hp' : lk σ.sl p' = some pv') (hc' : cellsAt σ.objs pv' = some cs') (hn' : Nat.ble n' cs'.length = true) (k : lk σ.sl t = some x) (l : lk σ.sl u = some y) (hR : R (.tup [.agg (cs.take n), .agg (cs'.take n'), x, y]) σ.objs) : RetQ E N fn R e σ :=
  retQ_mk he σ [.cell p ty, .cell p' ty', .tmp t, .tmp u] [.agg (cs.take n), .agg (cs'.take n'), x, y] (.refl σ) h2 (.agg hp hc hn (.agg hp' hc' hn' (.tmp k (.tmp l .nil)))) hR
abbrev reqAV (h : Hd) (b : List UInt8) : AV := .agg [.str h.m, .str h.t, .int .i64 h.v, .rs (h.fs.map prAV), .str (tgtP h.t), .rs ((tgtQ h.t).map prAV), .str b, .bool (closesS h)]
def nextR (s : List UInt8) (st : Int) : AV := if st ≠ 0 then .tup [.agg [.str s, .int .i64 st], req0, .bool false, .int .i64 st] else match nextL s with
  | .more => .tup [.agg [.str s, .int .i64 0], req0, .bool false, .int .i64 0]
  | .bad st => .tup [.agg [.str [], .int .i64 st], req0, .bool false, .int .i64 st]
  | .got h b k => .tup [.agg [.str (s.drop k), .int .i64 0], reqAV h b, .bool true, .int .i64 0]
section
variable {w0 : World} {base : Nat}
set_option maxHeartbeats 4000000 in
theorem s_nextR {s : List UInt8} {st : Int} (hs : s.length ≤ 1099511627776) : PCalls (EE w0 base) 32 [.agg [.str s, .int .i64 st]] fun rv => rv = nextR s st := by
  refine acalls_of Tryz.func32 rfl rfl rfl (.cons .nil) ?_
  unfold nextR
  by_cases hst : st = 0
  · rw [if_neg (fun k => k hst)]
    subst hst
    have hI := s_headP (w0 := w0) (base := base) hs
    unfold nextL
    unfold hdI at hI
    rcases idx_room s with hx | ⟨i, hx, hi4⟩
    · rw [hx, if_pos (by decide)] at hI
      rw [hx, if_pos (by decide)]
      by_cases hbig : 4096 < s.length
      · rw [if_pos hbig]
        repeat' (first|(first|(refine awp_held (id := 7) [(2, [1]), (3, [2])] [⟨0, true, [], bl 6 2⟩, ⟨1, true, [1], bl 6 5⟩, ⟨2, false, [], []⟩, ⟨3, false, [], []⟩, ⟨4, true, [], bl 6 15⟩, ⟨5, true, [], bl 6 31⟩] (by kernel_rfl) (by kernel_rfl) rfl (by kernel_rfl) ?_)|(refine k_call ?_;refine al_call rfl rfl rfl rfl hI ?_;rintro _ rfl))|(refine k_al ?_;first|(refine al_v (ov_move rfl) rfl ?_)|(refine al_v (ov_fieldAddr rfl rfl) rfl ?_)|(refine k_load ?_;first|(refine al_v (ov_load rfl rfl) rfl ?_)|(refine al_v (ov_load_agg rfl rfl rfl) rfl ?_))|(refine k_bin ?_;first|(refine al_v (ov_cmp rfl rfl rfl) rfl ?_))|(refine al_v (ov_assign rfl) rfl ?_)|(refine k_call ?_;first|(refine al_v (ov_len_str rfl) rfl ?_))|(refine al_v (ov_extract rfl rfl) rfl ?_)|(refine al_nil ?_)|(refine al_box rfl rfl rfl (by first|exact ln0|exact ln1|exact ln2|exact ln3|exact ln4|exact ln5) (by repeat constructor) rfl ?_)|(refine al_alloc rfl rfl rfl (by first|exact ln0|exact ln1|exact ln2|exact ln3|exact ln4|exact ln5) (by repeat constructor) rfl ?_)|(refine al_store rfl rfl rfl rfl rfl (by repeat constructor) (by repeat constructor) ?_)|(refine al_v (ov_build rfl rfl rfl (by repeat constructor)) rfl ?_))|(first|(refine thn_n ?_)|(refine k_awp ?_;first|(refine awp_seq (awp_region ?_))|(refine awp_seq ?_)|(refine awp_region ?_)|(refine k_cond ?_;first|(refine awp_cond_p rfl (fun hc => ?_) (fun hc => ?_) <;> (try (exfalso;omega))))|(refine awp_ret ?_)|(refine awp_skip ?_))|(refine thn_ret ?_))|(first|(refine k_hw ?_;first|(refine hw_s rfl ?_)|(refine hw_v (ov_move rfl) rfl ?_)|(refine hw_v (ov_assign rfl) rfl ?_)|(refine hw_v (ov_fieldAddr rfl rfl) rfl ?_)|(refine hw_v (ov_load rfl rfl) rfl ?_)|(refine hw_v (ov_load_agg rfl rfl rfl) rfl ?_)|(refine hw_v (ov_cmp rfl rfl rfl) rfl ?_)|(refine hw_v (ov_len_str rfl) rfl ?_)|(refine hw_v (ov_extract rfl rfl) rfl ?_)|(refine hw_v (ov_build rfl rfl rfl (by repeat constructor)) rfl ?_))|(refine hl_op rfl ?_)|(refine k_ho ?_;first|(refine ho_n ?_))|(refine hl_nil ?_)|(refine hq_back ?_)))
        refine retq_wkn (.boxLe (id := 2) [.str [], .str [], .int .i64 0, .rs [], .str [], .rs [], .str [], .bool false] rfl (.cons (.refl _) (.cons (.refl _) (.cons (.refl _) (.cons .nil (.cons (.refl _) (.cons .nil (.cons (.refl _) (.cons (.refl _) .nil)))))))) rfl) ?_
        refine retcc2 (.inr rfl) rfl rfl rfl rfl rfl rfl rfl rfl rfl ?_
        exact ⟨rfl, rfl⟩
      · rw [if_neg hbig]
        repeat' (first|(first|(refine awp_held (id := 8) [(2, [1]), (3, [2])] [⟨0, true, [], bl 6 2⟩, ⟨1, true, [1], bl 6 5⟩, ⟨2, false, [], []⟩, ⟨3, false, [], []⟩, ⟨4, true, [], bl 6 15⟩, ⟨5, true, [], bl 6 31⟩] (by kernel_rfl) (by kernel_rfl) rfl (by kernel_rfl) ?_)|(refine k_call ?_;refine al_call rfl rfl rfl rfl hI ?_;rintro _ rfl))|(refine k_al ?_;first|(refine al_v (ov_move rfl) rfl ?_)|(refine al_v (ov_fieldAddr rfl rfl) rfl ?_)|(refine k_load ?_;first|(refine al_v (ov_load rfl rfl) rfl ?_)|(refine al_v (ov_load_agg rfl rfl rfl) rfl ?_))|(refine k_bin ?_;first|(refine al_v (ov_cmp rfl rfl rfl) rfl ?_))|(refine al_v (ov_assign rfl) rfl ?_)|(refine k_call ?_;first|(refine al_v (ov_len_str rfl) rfl ?_))|(refine al_v (ov_extract rfl rfl) rfl ?_)|(refine al_nil ?_)|(refine al_box rfl rfl rfl (by first|exact ln0|exact ln1|exact ln2|exact ln3|exact ln4|exact ln5) (by repeat constructor) rfl ?_)|(refine al_alloc rfl rfl rfl (by first|exact ln0|exact ln1|exact ln2|exact ln3|exact ln4|exact ln5) (by repeat constructor) rfl ?_)|(refine al_store rfl rfl rfl rfl rfl (by repeat constructor) (by repeat constructor) ?_)|(refine al_v (ov_build rfl rfl rfl (by repeat constructor)) rfl ?_))|(first|(refine thn_n ?_)|(refine k_awp ?_;first|(refine awp_seq (awp_region ?_))|(refine awp_seq ?_)|(refine awp_region ?_)|(refine k_cond ?_;first|(refine awp_cond_p rfl (fun hc => ?_) (fun hc => ?_) <;> (try (exfalso;omega))))|(refine awp_ret ?_)|(refine awp_skip ?_))|(refine thn_ret ?_))|(first|(refine k_hw ?_;first|(refine hw_s rfl ?_)|(refine hw_v (ov_move rfl) rfl ?_)|(refine hw_v (ov_assign rfl) rfl ?_)|(refine hw_v (ov_fieldAddr rfl rfl) rfl ?_)|(refine hw_v (ov_load rfl rfl) rfl ?_)|(refine hw_v (ov_load_agg rfl rfl rfl) rfl ?_)|(refine hw_v (ov_cmp rfl rfl rfl) rfl ?_)|(refine hw_v (ov_len_str rfl) rfl ?_)|(refine hw_v (ov_extract rfl rfl) rfl ?_)|(refine hw_v (ov_build rfl rfl rfl (by repeat constructor)) rfl ?_))|(refine hl_op rfl ?_)|(refine k_ho ?_;first|(refine ho_n ?_))|(refine hl_nil ?_)|(refine hq_back ?_)))
        refine retq_wkn (.boxLe (id := 2) [.str [], .str [], .int .i64 0, .rs [], .str [], .rs [], .str [], .bool false] rfl (.cons (.refl _) (.cons (.refl _) (.cons (.refl _) (.cons .nil (.cons (.refl _) (.cons .nil (.cons (.refl _) (.cons (.refl _) .nil)))))))) rfl) ?_
        refine retcc2 (.inr rfl) rfl rfl rfl rfl rfl rfl rfl rfl rfl ?_
        exact ⟨rfl, rfl⟩
    · rw [hx, if_neg (by omega)] at hI
      rw [hx, if_neg (by omega), Int.toNat_natCast]
      have hP := s_parseR (w0 := w0) (base := base) (s := s.take (i + 4))
      have hg : (headParse (s.take (i + 4))).2.1 = 0 → GoodH (headParse (s.take (i + 4))).1 := headParse_good
      unfold prR at hP
      revert hP hg
      generalize headParse (s.take (i + 4)) = r
      intro hP hg
      obtain ⟨h, st, fl⟩ := r
      dsimp only at hP hg ⊢
      by_cases hst : st = 0
      · rw [if_neg (fun k => k hst)]
        subst hst
        have hg := hg rfl
        have hrg := bodyS_range h
        have hB := s_bodyP (w0 := w0) (base := base) (s := s) (at' := i + 4) (h := h) hi4 hs hg.tiny ⟨hrg.1, hrg.2.1⟩ hrg.2.2.2
        have hbf := bodyAt_facts (s := s) (at' := i + 4) (h := h) hi4
        have hT := s_targetR (w0 := w0) (base := base) (s := h.t) (by have := hg.tlen; omega)
        have hCl := s_closesR (w0 := w0) (base := base) hg.tiny
        revert hB hbf
        generalize bodyAt s (i + 4) h = z
        intro hB hbf
        cases z with
        | more =>
          repeat' (first|(first|(refine awp_held (id := 16) [(2, [1]), (3, [2])] [⟨0, true, [], bl 6 2⟩, ⟨1, true, [1], bl 6 5⟩, ⟨2, false, [], []⟩, ⟨3, false, [], []⟩, ⟨4, true, [], bl 6 15⟩, ⟨5, true, [], bl 6 31⟩] (by kernel_rfl) (by kernel_rfl) rfl (by kernel_rfl) ?_)|(refine k_call ?_;refine al_call rfl rfl rfl rfl hI ?_;rintro _ rfl)|(refine al_v (ov_slice_hi rfl rfl (by omega) (by omega)) rfl ?_)|(refine k_call ?_;refine al_call rfl rfl rfl rfl hP ?_;rintro _ rfl)|(refine k_call ?_;refine al_call rfl rfl rfl rfl hB ?_;rintro _ rfl))|(refine k_al ?_;first|(refine al_v (ov_move rfl) rfl ?_)|(refine al_v (ov_fieldAddr rfl rfl) rfl ?_)|(refine k_load ?_;first|(refine al_v (ov_load rfl rfl) rfl ?_)|(refine al_v (ov_load_agg rfl rfl rfl) rfl ?_))|(refine k_bin ?_;first|(refine al_v (ov_cmp rfl rfl rfl) rfl ?_))|(refine al_v (ov_assign rfl) rfl ?_)|(refine k_call ?_;first|(refine al_v (ov_len_str rfl) rfl ?_))|(refine al_v (ov_extract rfl rfl) rfl ?_)|(refine al_nil ?_)|(refine al_box rfl rfl rfl (by first|exact ln0|exact ln1|exact ln2|exact ln3|exact ln4|exact ln5) (by repeat constructor) rfl ?_)|(refine al_alloc rfl rfl rfl (by first|exact ln0|exact ln1|exact ln2|exact ln3|exact ln4|exact ln5) (by repeat constructor) rfl ?_)|(refine al_store rfl rfl rfl rfl rfl (by repeat constructor) (by repeat constructor) ?_)|(refine al_v (ov_build rfl rfl rfl (by repeat constructor)) rfl ?_))|(first|(refine thn_n ?_)|(refine k_awp ?_;first|(refine awp_seq (awp_region ?_))|(refine awp_seq ?_)|(refine awp_region ?_)|(refine k_cond ?_;first|(refine awp_cond_p rfl (fun hc => ?_) (fun hc => ?_) <;> (try (exfalso;omega))))|(refine awp_ret ?_)|(refine awp_skip ?_))|(refine thn_ret ?_))|(first|(refine k_hw ?_;first|(refine hw_s rfl ?_)|(refine hw_v (ov_move rfl) rfl ?_)|(refine hw_v (ov_assign rfl) rfl ?_)|(refine hw_v (ov_fieldAddr rfl rfl) rfl ?_)|(refine hw_v (ov_load rfl rfl) rfl ?_)|(refine hw_v (ov_load_agg rfl rfl rfl) rfl ?_)|(refine hw_v (ov_cmp rfl rfl rfl) rfl ?_)|(refine hw_v (ov_len_str rfl) rfl ?_)|(refine hw_v (ov_extract rfl rfl) rfl ?_)|(refine hw_v (ov_build rfl rfl rfl (by repeat constructor)) rfl ?_))|(refine hl_op rfl ?_)|(refine k_ho ?_;first|(refine ho_n ?_))|(refine hl_nil ?_)|(refine hq_back ?_)))
          refine retq_wkn (.boxLe (id := 2) [.str [], .str [], .int .i64 0, .rs [], .str [], .rs [], .str [], .bool false] rfl (.cons (.refl _) (.cons (.refl _) (.cons (.refl _) (.cons .nil (.cons (.refl _) (.cons .nil (.cons (.refl _) (.cons (.refl _) .nil)))))))) rfl) ?_
          refine retcc2 (.inr rfl) rfl rfl rfl rfl rfl rfl rfl rfl rfl ?_
          exact ⟨rfl, rfl⟩
        | bad st =>
          have hne : st ≠ 0 := by rcases hbf with rfl | rfl <;> decide
          repeat' (first|(first|(refine awp_held (id := 14) [(4, [1]), (5, [2])] [⟨0, true, [], bl 8 12⟩, ⟨1, true, [], bl 8 13⟩, ⟨2, true, [1], bl 8 27⟩, ⟨3, true, [1, 2], bl 8 119⟩, ⟨4, false, [], []⟩, ⟨5, false, [], []⟩, ⟨6, true, [], bl 8 63⟩, ⟨7, true, [], bl 8 127⟩] (by kernel_rfl) (by kernel_rfl) rfl (by kernel_rfl) ?_)|(refine k_call ?_;refine al_call rfl rfl rfl rfl hI ?_;rintro _ rfl)|(refine al_v (ov_slice_hi rfl rfl (by omega) (by omega)) rfl ?_)|(refine k_call ?_;refine al_call rfl rfl rfl rfl hP ?_;rintro _ rfl)|(refine k_call ?_;refine al_call rfl rfl rfl rfl hB ?_;rintro _ rfl))|(refine k_al ?_;first|(refine al_v (ov_move rfl) rfl ?_)|(refine al_v (ov_fieldAddr rfl rfl) rfl ?_)|(refine k_load ?_;first|(refine al_v (ov_load rfl rfl) rfl ?_)|(refine al_v (ov_load_agg rfl rfl rfl) rfl ?_))|(refine k_bin ?_;first|(refine al_v (ov_cmp rfl rfl rfl) rfl ?_))|(refine al_v (ov_assign rfl) rfl ?_)|(refine k_call ?_;first|(refine al_v (ov_len_str rfl) rfl ?_))|(refine al_v (ov_extract rfl rfl) rfl ?_)|(refine al_nil ?_)|(refine al_box rfl rfl rfl (by first|exact ln0|exact ln1|exact ln2|exact ln3|exact ln4|exact ln5) (by repeat constructor) rfl ?_)|(refine al_alloc rfl rfl rfl (by first|exact ln0|exact ln1|exact ln2|exact ln3|exact ln4|exact ln5) (by repeat constructor) rfl ?_)|(refine al_store rfl rfl rfl rfl rfl (by repeat constructor) (by repeat constructor) ?_)|(refine al_v (ov_build rfl rfl rfl (by repeat constructor)) rfl ?_))|(first|(refine thn_n ?_)|(refine k_awp ?_;first|(refine awp_seq (awp_region ?_))|(refine awp_seq ?_)|(refine awp_region ?_)|(refine k_cond ?_;first|(refine awp_cond_p rfl (fun hc => ?_) (fun hc => ?_) <;> (try (exfalso;omega))))|(refine awp_ret ?_)|(refine awp_skip ?_))|(refine thn_ret ?_))|(first|(refine k_hw ?_;first|(refine hw_s rfl ?_)|(refine hw_v (ov_move rfl) rfl ?_)|(refine hw_v (ov_assign rfl) rfl ?_)|(refine hw_v (ov_fieldAddr rfl rfl) rfl ?_)|(refine hw_v (ov_load rfl rfl) rfl ?_)|(refine hw_v (ov_load_agg rfl rfl rfl) rfl ?_)|(refine hw_v (ov_cmp rfl rfl rfl) rfl ?_)|(refine hw_v (ov_len_str rfl) rfl ?_)|(refine hw_v (ov_extract rfl rfl) rfl ?_)|(refine hw_v (ov_build rfl rfl rfl (by repeat constructor)) rfl ?_))|(refine hl_op rfl ?_)|(refine k_ho ?_;first|(refine ho_n ?_))|(refine hl_nil ?_)|(refine hq_back ?_)))
          refine retq_wkn (.boxLe (id := 2) [.str [], .str [], .int .i64 0, .rs [], .str [], .rs [], .str [], .bool false] rfl (.cons (.refl _) (.cons (.refl _) (.cons (.refl _) (.cons .nil (.cons (.refl _) (.cons .nil (.cons (.refl _) (.cons (.refl _) .nil)))))))) rfl) ?_
          refine retcc2 (.inr rfl) rfl rfl rfl rfl rfl rfl rfl rfl rfl ?_
          exact ⟨rfl, rfl⟩
        | got b k =>
          obtain ⟨hk1, hk2⟩ := hbf
          repeat' (first|(first|(refine awp_heldF (id := 18) [(8, [5])] 5 7 [⟨6, true, [], bl 9 191⟩, ⟨7, false, [], []⟩, ⟨8, false, [], []⟩] [⟨5, false, [], []⟩, ⟨6, true, [], bl 9 191⟩, ⟨8, false, [], []⟩] [⟨0, true, [], bl 9 190⟩, ⟨1, true, [], bl 9 189⟩, ⟨2, true, [], bl 9 187⟩, ⟨3, true, [], bl 9 183⟩, ⟨4, true, [], bl 9 143⟩] (by kernel_rfl) (by kernel_rfl) rfl (by kernel_rfl) ?_)|(refine awp_held (id := 19) [(6, [1]), (7, [2])] [⟨0, true, [], bl 10 36⟩, ⟨1, true, [], bl 10 37⟩, ⟨2, true, [], bl 10 35⟩, ⟨3, true, [], bl 10 39⟩, ⟨4, true, [], bl 10 47⟩, ⟨5, true, [1], bl 10 95⟩, ⟨6, false, [], []⟩, ⟨7, false, [], []⟩, ⟨8, true, [], bl 10 255⟩, ⟨9, true, [], bl 10 511⟩] (by kernel_rfl) (by kernel_rfl) rfl (by kernel_rfl) ?_)|(refine hf_v rfl (ov_move rfl) rfl ?_)|(refine hf_v rfl (ov_load_agg rfl rfl rfl) rfl ?_)|(refine hf_fork rfl rfl ?_ ?_)|(refine k_call ?_;refine al_call rfl rfl rfl rfl hI ?_;rintro _ rfl)|(refine al_v (ov_slice_hi rfl rfl (by omega) (by omega)) rfl ?_)|(refine k_call ?_;refine al_call rfl rfl rfl rfl hP ?_;rintro _ rfl)|(refine k_call ?_;refine al_call rfl rfl rfl rfl hB ?_;rintro _ rfl)|(refine k_call ?_;refine al_call rfl rfl rfl rfl hT ?_;rintro _ ⟨tp, tq, te, tk, rfl, he, hpq⟩;obtain rfl := he.2 hg.t;obtain ⟨rfl, rfl⟩ := hpq rfl)|(refine k_call ?_;refine al_call rfl rfl rfl rfl hCl ?_;rintro _ rfl)|(refine hw_v (ov_slice_lo rfl rfl (by omega) (by omega)) rfl ?_))|(refine k_al ?_;first|(refine al_v (ov_move rfl) rfl ?_)|(refine al_v (ov_fieldAddr rfl rfl) rfl ?_)|(refine k_load ?_;first|(refine al_v (ov_load rfl rfl) rfl ?_)|(refine al_v (ov_load_agg rfl rfl rfl) rfl ?_))|(refine k_bin ?_;first|(refine al_v (ov_cmp rfl rfl rfl) rfl ?_))|(refine al_v (ov_assign rfl) rfl ?_)|(refine k_call ?_;first|(refine al_v (ov_len_str rfl) rfl ?_))|(refine al_v (ov_extract rfl rfl) rfl ?_)|(refine al_nil ?_)|(refine al_box rfl rfl rfl (by first|exact ln0|exact ln1|exact ln2|exact ln3|exact ln4|exact ln5) (by repeat constructor) rfl ?_)|(refine al_alloc rfl rfl rfl (by first|exact ln0|exact ln1|exact ln2|exact ln3|exact ln4|exact ln5) (by repeat constructor) rfl ?_)|(refine al_store rfl rfl rfl rfl rfl (by repeat constructor) (by repeat constructor) ?_)|(refine al_v (ov_build rfl rfl rfl (by repeat constructor)) rfl ?_))|(first|(refine thn_n ?_)|(refine k_awp ?_;first|(refine awp_seq (awp_region ?_))|(refine awp_seq ?_)|(refine awp_region ?_)|(refine k_cond ?_;first|(refine awp_cond_p rfl (fun hc => ?_) (fun hc => ?_) <;> (try (exfalso;omega))))|(refine awp_ret ?_)|(refine awp_skip ?_))|(refine thn_ret ?_))|(first|(refine k_hw ?_;first|(refine hw_s rfl ?_)|(refine hw_v (ov_move rfl) rfl ?_)|(refine hw_v (ov_assign rfl) rfl ?_)|(refine hw_v (ov_fieldAddr rfl rfl) rfl ?_)|(refine hw_v (ov_load rfl rfl) rfl ?_)|(refine hw_v (ov_load_agg rfl rfl rfl) rfl ?_)|(refine hw_v (ov_cmp rfl rfl rfl) rfl ?_)|(refine hw_v (ov_len_str rfl) rfl ?_)|(refine hw_v (ov_extract rfl rfl) rfl ?_)|(refine hw_v (ov_build rfl rfl rfl (by repeat constructor)) rfl ?_))|(refine hl_op rfl ?_)|(refine k_ho ?_;first|(refine ho_n ?_))|(refine hl_nil ?_)|(refine hq_back ?_)))
          all_goals
            refine retcc2 (.inr rfl) rfl rfl rfl rfl rfl rfl rfl rfl rfl ?_
            exact ⟨rfl, rfl⟩
      · rw [if_pos hst]
        repeat' (first|(first|(refine awp_held (id := 11) [(4, [1]), (5, [2])] [⟨0, true, [], bl 8 12⟩, ⟨1, true, [], bl 8 13⟩, ⟨2, true, [1], bl 8 27⟩, ⟨3, true, [1, 2], bl 8 119⟩, ⟨4, false, [], []⟩, ⟨5, false, [], []⟩, ⟨6, true, [], bl 8 63⟩, ⟨7, true, [], bl 8 127⟩] (by kernel_rfl) (by kernel_rfl) rfl (by kernel_rfl) ?_)|(refine k_call ?_;refine al_call rfl rfl rfl rfl hI ?_;rintro _ rfl)|(refine al_v (ov_slice_hi rfl rfl (by omega) (by omega)) rfl ?_)|(refine k_call ?_;refine al_call rfl rfl rfl rfl hP ?_;rintro _ rfl))|(refine k_al ?_;first|(refine al_v (ov_move rfl) rfl ?_)|(refine al_v (ov_fieldAddr rfl rfl) rfl ?_)|(refine k_load ?_;first|(refine al_v (ov_load rfl rfl) rfl ?_)|(refine al_v (ov_load_agg rfl rfl rfl) rfl ?_))|(refine k_bin ?_;first|(refine al_v (ov_cmp rfl rfl rfl) rfl ?_))|(refine al_v (ov_assign rfl) rfl ?_)|(refine k_call ?_;first|(refine al_v (ov_len_str rfl) rfl ?_))|(refine al_v (ov_extract rfl rfl) rfl ?_)|(refine al_nil ?_)|(refine al_box rfl rfl rfl (by first|exact ln0|exact ln1|exact ln2|exact ln3|exact ln4|exact ln5) (by repeat constructor) rfl ?_)|(refine al_alloc rfl rfl rfl (by first|exact ln0|exact ln1|exact ln2|exact ln3|exact ln4|exact ln5) (by repeat constructor) rfl ?_)|(refine al_store rfl rfl rfl rfl rfl (by repeat constructor) (by repeat constructor) ?_)|(refine al_v (ov_build rfl rfl rfl (by repeat constructor)) rfl ?_))|(first|(refine thn_n ?_)|(refine k_awp ?_;first|(refine awp_seq (awp_region ?_))|(refine awp_seq ?_)|(refine awp_region ?_)|(refine k_cond ?_;first|(refine awp_cond_p rfl (fun hc => ?_) (fun hc => ?_) <;> (try (exfalso;omega))))|(refine awp_ret ?_)|(refine awp_skip ?_))|(refine thn_ret ?_))|(first|(refine k_hw ?_;first|(refine hw_s rfl ?_)|(refine hw_v (ov_move rfl) rfl ?_)|(refine hw_v (ov_assign rfl) rfl ?_)|(refine hw_v (ov_fieldAddr rfl rfl) rfl ?_)|(refine hw_v (ov_load rfl rfl) rfl ?_)|(refine hw_v (ov_load_agg rfl rfl rfl) rfl ?_)|(refine hw_v (ov_cmp rfl rfl rfl) rfl ?_)|(refine hw_v (ov_len_str rfl) rfl ?_)|(refine hw_v (ov_extract rfl rfl) rfl ?_)|(refine hw_v (ov_build rfl rfl rfl (by repeat constructor)) rfl ?_))|(refine hl_op rfl ?_)|(refine k_ho ?_;first|(refine ho_n ?_))|(refine hl_nil ?_)|(refine hq_back ?_)))
        refine retq_wkn (.boxLe (id := 2) [.str [], .str [], .int .i64 0, .rs [], .str [], .rs [], .str [], .bool false] rfl (.cons (.refl _) (.cons (.refl _) (.cons (.refl _) (.cons .nil (.cons (.refl _) (.cons .nil (.cons (.refl _) (.cons (.refl _) .nil)))))))) rfl) ?_
        refine retcc2 (.inr rfl) rfl rfl rfl rfl rfl rfl rfl rfl rfl ?_
        exact ⟨rfl, rfl⟩
  · rw [if_pos hst]
    repeat' (first|(first|(refine awp_held (id := 3) [(4, [1]), (5, [2])] [⟨0, true, [], bl 8 14⟩, ⟨1, true, [1], bl 8 29⟩, ⟨2, true, [1, 2], bl 8 115⟩, ⟨3, true, [1, 2], bl 8 119⟩, ⟨4, false, [], []⟩, ⟨5, false, [], []⟩, ⟨6, true, [], bl 8 63⟩, ⟨7, true, [], bl 8 127⟩] (by kernel_rfl) (by kernel_rfl) rfl (by kernel_rfl) ?_))|(refine k_al ?_;first|(refine al_v (ov_move rfl) rfl ?_)|(refine al_v (ov_fieldAddr rfl rfl) rfl ?_)|(refine k_load ?_;first|(refine al_v (ov_load rfl rfl) rfl ?_)|(refine al_v (ov_load_agg rfl rfl rfl) rfl ?_))|(refine k_bin ?_;first|(refine al_v (ov_cmp rfl rfl rfl) rfl ?_))|(refine al_v (ov_assign rfl) rfl ?_)|(refine k_call ?_;first|(refine al_v (ov_len_str rfl) rfl ?_))|(refine al_v (ov_extract rfl rfl) rfl ?_)|(refine al_nil ?_)|(refine al_box rfl rfl rfl (by first|exact ln0|exact ln1|exact ln2|exact ln3|exact ln4|exact ln5) (by repeat constructor) rfl ?_)|(refine al_alloc rfl rfl rfl (by first|exact ln0|exact ln1|exact ln2|exact ln3|exact ln4|exact ln5) (by repeat constructor) rfl ?_)|(refine al_store rfl rfl rfl rfl rfl (by repeat constructor) (by repeat constructor) ?_)|(refine al_v (ov_build rfl rfl rfl (by repeat constructor)) rfl ?_))|(first|(refine thn_n ?_)|(refine k_awp ?_;first|(refine awp_seq (awp_region ?_))|(refine awp_seq ?_)|(refine awp_region ?_)|(refine k_cond ?_;first|(refine awp_cond_p rfl (fun hc => ?_) (fun hc => ?_) <;> (try (exfalso;omega))))|(refine awp_ret ?_)|(refine awp_skip ?_))|(refine thn_ret ?_))|(first|(refine k_hw ?_;first|(refine hw_s rfl ?_)|(refine hw_v (ov_move rfl) rfl ?_)|(refine hw_v (ov_assign rfl) rfl ?_)|(refine hw_v (ov_fieldAddr rfl rfl) rfl ?_)|(refine hw_v (ov_load rfl rfl) rfl ?_)|(refine hw_v (ov_load_agg rfl rfl rfl) rfl ?_)|(refine hw_v (ov_cmp rfl rfl rfl) rfl ?_)|(refine hw_v (ov_len_str rfl) rfl ?_)|(refine hw_v (ov_extract rfl rfl) rfl ?_)|(refine hw_v (ov_build rfl rfl rfl (by repeat constructor)) rfl ?_))|(refine hl_op rfl ?_)|(refine k_ho ?_;first|(refine ho_n ?_))|(refine hl_nil ?_)|(refine hq_back ?_)))
    all_goals
      refine retq_wkn (.boxLe (id := 2) [.str [], .str [], .int .i64 0, .rs [], .str [], .rs [], .str [], .bool false] rfl (.cons (.refl _) (.cons (.refl _) (.cons (.refl _) (.cons .nil (.cons (.refl _) (.cons .nil (.cons (.refl _) (.cons (.refl _) .nil)))))))) rfl) ?_
      refine retcc2 (.inr rfl) rfl rfl rfl rfl rfl rfl rfl rfl rfl ?_
      exact ⟨rfl, rfl⟩
end
end Go.Proofs.YtffcgpkbibijpaaGreatDoor.L

namespace Go.Proofs.YtffcgpkbibijpaaGreatDoor.L
open Go Go.RowKit Go.Proofs
set_option linter.unusedVariables false
set_option linter.unusedSimpArgs false
set_option maxRecDepth 100000
attribute [local irreducible] AL QL AWp Thn InB RetQ ACalls LoopQ HL HO HW HQ NoG JmpQ MidQ HF

/-- What Next answers; the bytes that wait then; the status. -/
def nextV (s : List UInt8) (st : Int) : AV × List UInt8 × Int := if st ≠ 0 then (.tup [req0, .bool false, .int .i64 st], s, st) else match nextL s with
  | .more => (.tup [req0, .bool false, .int .i64 0], s, 0)
  | .bad st => (.tup [req0, .bool false, .int .i64 st], [], st)
  | .got h b k => (.tup [reqAV h b, .bool true, .int .i64 0], s.drop k, 0)
section
variable {w0 : World} {base : Nat}
set_option maxHeartbeats 8000000 in
theorem a_next' {s : List UInt8} {st : Int} (hG : Glob w0 base) (hs : s.length ≤ 4294967200) : ACalls (EE w0 base) 23 [.op 0 0] [parO true s st] fun rv os => rv = (nextV s st).1 ∧ ∃ ex, os = parO true (nextV s st).2.1 (nextV s st).2.2 :: ex := by
  refine acalls_of Tryz.func23 rfl rfl rfl (.cons .nil) ?_
  unfold nextV
  by_cases hst : st = 0
  · rw [if_neg (fun k => k hst)]
    subst hst
    have hI := s_index (w0 := w0) (base := base) (s := s) (p := crlf2) hG (by omega)
    unfold nextL
    rcases idx_room s with hx | ⟨i, hx, hi4⟩
    · rw [hx] at hI
      rw [hx, if_pos (by decide)]
      by_cases hbig : 4096 < s.length
      · rw [if_pos hbig]
        repeat' (first|(first|(refine k_call ?_;refine al_acall [0] rfl rfl (a_given (is := true) (s := s) (st := 0)) (by repeat constructor) (by repeat constructor) rfl rfl ?_;rintro _ _ ⟨rfl, rfl⟩;refine ⟨_, _, by repeat constructor, by repeat constructor, ?_⟩)|(refine al_v (ov_nilCheck (n := 0) rfl rfl) rfl ?_)|(refine k_call ?_;refine al_call rfl rfl rfl rfl hI ?_;rintro _ rfl)|(refine k_call ?_;refine al_acall [0] rfl rfl (a_breaks (s := s) (st := 0) (st' := 431)) (by repeat constructor) (by repeat constructor) rfl rfl ?_;rintro _ _ ⟨rfl, rfl⟩;refine ⟨_, _, by repeat constructor, by repeat constructor, ?_⟩))|(refine k_al ?_;first|(refine al_v (ov_move rfl) rfl ?_)|(refine k_g ?_;first|(refine al_gy' rfl rfl (by with_reducible rfl) ?_))|(refine al_v (ov_fieldAddr rfl rfl) rfl ?_)|(refine k_load ?_;first|(refine al_v (ov_load rfl rfl) rfl ?_)|(refine al_v (ov_load_agg rfl rfl rfl) rfl ?_))|(refine k_bin ?_;first|(refine al_v (ov_cmp rfl rfl rfl) rfl ?_)|(refine al_v (ov_add rfl rfl (by (first|exact w64 (by omega) (by omega)|rfl))) rfl ?_))|(refine k_pick ?_;first|(refine al_v (ov_pick_f' rfl (by with_reducible rfl) rfl) rfl ?_))|(refine al_v (ov_assign rfl) rfl ?_)|(refine k_call ?_;first|(refine al_v (ov_len_str rfl) rfl ?_))|(refine al_v (ov_extract rfl rfl) rfl ?_)|(refine al_nil ?_)|(refine al_alloc rfl rfl rfl (by first|exact ln1|exact ln2) (by repeat constructor) rfl ?_)|(refine al_store rfl rfl rfl rfl rfl (by repeat constructor) (by repeat constructor) ?_)|(refine al_v (ov_build rfl rfl rfl (by repeat constructor)) rfl ?_)|(refine al_v (ov_not_t rfl (by with_reducible rfl)) rfl ?_)|(refine al_v (ov_not_p rfl) rfl ?_))|(first|(refine thn_n ?_)|(refine k_awp ?_;first|(refine awp_seq (awp_region ?_))|(refine awp_seq ?_)|(refine awp_region ?_)|(refine k_cond ?_;first|(refine awp_cond_t' rfl (by with_reducible rfl) ?_)|(refine awp_cond_f' rfl (by with_reducible rfl) ?_)|(refine awp_cond_p rfl (fun hc => ?_) (fun hc => ?_) <;> (try (exfalso;omega))))|(refine awp_block ?_)|(refine awp_ret ?_)|(refine awp_skip ?_))|(refine thn_ret ?_)|(refine inb_n ?_)|(refine inb_ret ?_)))
        refine retc2 (by first | exact .inr rfl | exact .inl rfl) rfl rfl rfl rfl rfl rfl ?_
        exact ⟨rfl, _, rfl⟩
      · rw [if_neg hbig]
        repeat' (first|(first|(refine k_call ?_;refine al_acall [0] rfl rfl (a_given (is := true) (s := s) (st := 0)) (by repeat constructor) (by repeat constructor) rfl rfl ?_;rintro _ _ ⟨rfl, rfl⟩;refine ⟨_, _, by repeat constructor, by repeat constructor, ?_⟩)|(refine al_v (ov_nilCheck (n := 0) rfl rfl) rfl ?_)|(refine k_call ?_;refine al_call rfl rfl rfl rfl hI ?_;rintro _ rfl))|(refine k_al ?_;first|(refine al_v (ov_move rfl) rfl ?_)|(refine k_g ?_;first|(refine al_gy' rfl rfl (by with_reducible rfl) ?_))|(refine al_v (ov_fieldAddr rfl rfl) rfl ?_)|(refine k_load ?_;first|(refine al_v (ov_load rfl rfl) rfl ?_)|(refine al_v (ov_load_agg rfl rfl rfl) rfl ?_))|(refine k_bin ?_;first|(refine al_v (ov_cmp rfl rfl rfl) rfl ?_)|(refine al_v (ov_add rfl rfl (by (first|exact w64 (by omega) (by omega)|rfl))) rfl ?_))|(refine k_pick ?_;first|(refine al_v (ov_pick_f' rfl (by with_reducible rfl) rfl) rfl ?_))|(refine al_v (ov_assign rfl) rfl ?_)|(refine k_call ?_;first|(refine al_v (ov_len_str rfl) rfl ?_))|(refine al_v (ov_extract rfl rfl) rfl ?_)|(refine al_nil ?_)|(refine al_alloc rfl rfl rfl (by first|exact ln1|exact ln2) (by repeat constructor) rfl ?_)|(refine al_store rfl rfl rfl rfl rfl (by repeat constructor) (by repeat constructor) ?_)|(refine al_v (ov_build rfl rfl rfl (by repeat constructor)) rfl ?_)|(refine al_v (ov_not_t rfl (by with_reducible rfl)) rfl ?_)|(refine al_v (ov_not_p rfl) rfl ?_))|(first|(refine thn_n ?_)|(refine k_awp ?_;first|(refine awp_seq (awp_region ?_))|(refine awp_seq ?_)|(refine awp_region ?_)|(refine k_cond ?_;first|(refine awp_cond_t' rfl (by with_reducible rfl) ?_)|(refine awp_cond_f' rfl (by with_reducible rfl) ?_)|(refine awp_cond_p rfl (fun hc => ?_) (fun hc => ?_) <;> (try (exfalso;omega))))|(refine awp_block ?_)|(refine awp_ret ?_)|(refine awp_skip ?_))|(refine thn_ret ?_)|(refine inb_n ?_)|(refine inb_ret ?_)))
        refine retq_wkn (.boxLe (id := 1) [.str [], .str [], .int .i64 0, .rs [], .str [], .rs [], .str [], .bool false] rfl (.cons (.refl _) (.cons (.refl _) (.cons (.refl _) (.cons .nil (.cons (.refl _) (.cons .nil (.cons (.refl _) (.cons (.refl _) .nil)))))))) rfl) ?_
        refine retc2 (by first | exact .inr rfl | exact .inl rfl) rfl rfl rfl rfl rfl rfl ?_
        exact ⟨rfl, _, rfl⟩
    · rw [hx] at hI
      rw [hx, if_neg (by omega), Int.toNat_natCast]
      have hP := s_parse (w0 := w0) (base := base) (s := s.take (i + 4)) hG
      have hg : (headParse (s.take (i + 4))).2.1 = 0 → GoodH (headParse (s.take (i + 4))).1 := headParse_good
      unfold prR at hP
      revert hP hg
      generalize headParse (s.take (i + 4)) = r
      intro hP hg
      obtain ⟨h, st, fl⟩ := r
      dsimp only at hP hg ⊢
      by_cases hst : st = 0
      · rw [if_neg (fun k => k hst)]
        subst hst
        have hg := hg rfl
        have hrg := bodyS_range h
        have hB := s_body (w0 := w0) (base := base) hg.tiny
        have hC := s_chunks (w0 := w0) (base := base) (s := s) (at' := i + 4) hi4 (by omega)
        have hcf := chunksF_facts s (s.length + 1) [] (i + 4) hi4
        have hT := s_target (w0 := w0) (base := base) (s := h.t) (by have := hg.tlen; omega) hG
        have hCl := s_closes (w0 := w0) (base := base) hG hg.tiny
        unfold bodyAt
        unfold bodR at hB
        revert hB hrg
        obtain ⟨k, n, st⟩ := bodyS h
        dsimp only
        intro hrg hB
        obtain ⟨n, rfl⟩ : ∃ m : Nat, n = m := ⟨n.toNat, by omega⟩
        rw [Int.toNat_natCast]
        by_cases h1 : st = 0
        · rw [if_neg (fun k => k h1)]
          by_cases h2 : k = 1
          · rw [if_pos h2]
            by_cases h3 : s.length < i + 4 + n
            · rw [if_pos h3]
              repeat' (first|(first|(refine k_call ?_;refine al_acall [0] rfl rfl (a_given (is := true) (s := s) (st := 0)) (by repeat constructor) (by repeat constructor) rfl rfl ?_;rintro _ _ ⟨rfl, rfl⟩;refine ⟨_, _, by repeat constructor, by repeat constructor, ?_⟩)|(refine al_v (ov_nilCheck (n := 0) rfl rfl) rfl ?_)|(refine k_call ?_;refine al_call rfl rfl rfl rfl hI ?_;rintro _ rfl)|(refine al_v (ov_slice_hi rfl rfl (by omega) (by omega)) rfl ?_)|(refine k_call ?_;refine al_call rfl rfl rfl rfl hP ?_;rintro _ rfl)|(refine k_call ?_;refine al_call rfl rfl rfl rfl hB ?_;rintro _ rfl))|(refine k_al ?_;first|(refine al_v (ov_move rfl) rfl ?_)|(refine k_g ?_;first|(refine al_gy' rfl rfl (by with_reducible rfl) ?_))|(refine al_v (ov_fieldAddr rfl rfl) rfl ?_)|(refine k_load ?_;first|(refine al_v (ov_load rfl rfl) rfl ?_)|(refine al_v (ov_load_agg rfl rfl rfl) rfl ?_))|(refine k_bin ?_;first|(refine al_v (ov_cmp rfl rfl rfl) rfl ?_)|(refine al_v (ov_add rfl rfl (by (first|exact w64 (by omega) (by omega)|rfl))) rfl ?_))|(refine k_pick ?_;first|(refine al_v (ov_pick_f' rfl (by with_reducible rfl) rfl) rfl ?_))|(refine al_v (ov_assign rfl) rfl ?_)|(refine k_call ?_;first|(refine al_v (ov_len_str rfl) rfl ?_))|(refine al_v (ov_extract rfl rfl) rfl ?_)|(refine al_nil ?_)|(refine al_alloc rfl rfl rfl (by first|exact ln1|exact ln2) (by repeat constructor) rfl ?_)|(refine al_store rfl rfl rfl rfl rfl (by repeat constructor) (by repeat constructor) ?_)|(refine al_v (ov_build rfl rfl rfl (by repeat constructor)) rfl ?_)|(refine al_v (ov_not_t rfl (by with_reducible rfl)) rfl ?_)|(refine al_v (ov_not_p rfl) rfl ?_))|(first|(refine thn_n ?_)|(refine k_awp ?_;first|(refine awp_seq (awp_region ?_))|(refine awp_seq ?_)|(refine awp_region ?_)|(refine k_cond ?_;first|(refine awp_cond_t' rfl (by with_reducible rfl) ?_)|(refine awp_cond_f' rfl (by with_reducible rfl) ?_)|(refine awp_cond_p rfl (fun hc => ?_) (fun hc => ?_) <;> (try (exfalso;omega))))|(refine awp_block ?_)|(refine awp_ret ?_)|(refine awp_skip ?_))|(refine thn_ret ?_)|(refine inb_n ?_)|(refine inb_ret ?_)))
              refine retq_wkn (.boxLe (id := 1) [.str [], .str [], .int .i64 0, .rs [], .str [], .rs [], .str [], .bool false] rfl (.cons (.refl _) (.cons (.refl _) (.cons (.refl _) (.cons .nil (.cons (.refl _) (.cons .nil (.cons (.refl _) (.cons (.refl _) .nil)))))))) rfl) ?_
              refine retc2 (by first | exact .inr rfl | exact .inl rfl) rfl rfl rfl rfl rfl rfl ?_
              exact ⟨rfl, _, rfl⟩
            · rw [if_neg h3]
              repeat' (first|(first|(refine k_call ?_;refine al_acall [0] rfl rfl (a_given (is := true) (s := s) (st := 0)) (by repeat constructor) (by repeat constructor) rfl rfl ?_;rintro _ _ ⟨rfl, rfl⟩;refine ⟨_, _, by repeat constructor, by repeat constructor, ?_⟩)|(refine al_v (ov_nilCheck (n := 0) rfl rfl) rfl ?_)|(refine k_call ?_;refine al_call rfl rfl rfl rfl hI ?_;rintro _ rfl)|(refine al_v (ov_slice_hi rfl rfl (by omega) (by omega)) rfl ?_)|(refine k_call ?_;refine al_call rfl rfl rfl rfl hP ?_;rintro _ rfl)|(refine k_call ?_;refine al_call rfl rfl rfl rfl hB ?_;rintro _ rfl)|(refine awp_held (id := 29) [(7, [1])] [⟨0, true, [], bl 10 62⟩, ⟨1, true, [], bl 10 61⟩, ⟨2, true, [], bl 10 59⟩, ⟨3, true, [], bl 10 55⟩, ⟨4, true, [], bl 10 15⟩, ⟨5, false, [], []⟩, ⟨6, true, [], bl 10 63⟩, ⟨7, false, [], []⟩, ⟨8, true, [], bl 10 255⟩, ⟨9, true, [], bl 10 511⟩] (by kernel_rfl) (by kernel_rfl) rfl (by kernel_rfl) ?_)|(refine k_call ?_;refine al_call rfl rfl rfl rfl hT ?_;rintro _ ⟨tp, tq, te, tk, rfl, he, hpq⟩;obtain rfl := he.2 hg.t;obtain ⟨rfl, rfl⟩ := hpq rfl)|(refine k_call ?_;refine al_call rfl rfl rfl rfl hCl ?_;rintro _ rfl)|(refine al_v (ov_slice_eq (i := i + 4) (j := i + 4 + n) rfl rfl rfl rfl (by omega) (by omega) (by omega) (by omega)) rfl ?_)|(refine al_v (ov_slice_lo rfl rfl (by omega) (by omega)) rfl ?_))|(refine k_al ?_;first|(refine al_v (ov_move rfl) rfl ?_)|(refine k_g ?_;first|(refine al_gy' rfl rfl (by with_reducible rfl) ?_))|(refine al_v (ov_fieldAddr rfl rfl) rfl ?_)|(refine k_load ?_;first|(refine al_v (ov_load rfl rfl) rfl ?_)|(refine al_v (ov_load_agg rfl rfl rfl) rfl ?_))|(refine k_bin ?_;first|(refine al_v (ov_cmp rfl rfl rfl) rfl ?_)|(refine al_v (ov_add rfl rfl (by (first|exact w64 (by omega) (by omega)|rfl))) rfl ?_))|(refine k_pick ?_;first|(refine al_v (ov_pick_f' rfl (by with_reducible rfl) rfl) rfl ?_))|(refine al_v (ov_assign rfl) rfl ?_)|(refine k_call ?_;first|(refine al_v (ov_len_str rfl) rfl ?_))|(refine al_v (ov_extract rfl rfl) rfl ?_)|(refine al_nil ?_)|(refine al_alloc rfl rfl rfl (by first|exact ln1|exact ln2) (by repeat constructor) rfl ?_)|(refine al_store rfl rfl rfl rfl rfl (by repeat constructor) (by repeat constructor) ?_)|(refine al_v (ov_build rfl rfl rfl (by repeat constructor)) rfl ?_)|(refine al_v (ov_not_t rfl (by with_reducible rfl)) rfl ?_)|(refine al_v (ov_not_p rfl) rfl ?_))|(first|(refine thn_n ?_)|(refine k_awp ?_;first|(refine awp_seq (awp_region ?_))|(refine awp_seq ?_)|(refine awp_region ?_)|(refine k_cond ?_;first|(refine awp_cond_t' rfl (by with_reducible rfl) ?_)|(refine awp_cond_f' rfl (by with_reducible rfl) ?_)|(refine awp_cond_p rfl (fun hc => ?_) (fun hc => ?_) <;> (try (exfalso;omega))))|(refine awp_block ?_)|(refine awp_ret ?_)|(refine awp_skip ?_))|(refine thn_ret ?_)|(refine inb_n ?_)|(refine inb_ret ?_))|(first|(refine k_hw ?_;first|(refine hw_s rfl ?_)|(refine hw_v (ov_move rfl) rfl ?_)|(refine hw_v (ov_assign rfl) rfl ?_)|(refine hw_v (ov_fieldAddr rfl rfl) rfl ?_)|(refine hw_v (ov_load rfl rfl) rfl ?_)|(refine hw_v (ov_load_agg rfl rfl rfl) rfl ?_)|(refine hw_v (ov_cmp rfl rfl rfl) rfl ?_)|(refine hw_v (ov_pick_f' rfl (by with_reducible rfl) rfl) rfl ?_)|(refine hw_v (ov_len_str rfl) rfl ?_)|(refine hw_v (ov_extract rfl rfl) rfl ?_)|(refine hw_v (ov_add rfl rfl (by (first|exact w64 (by omega) (by omega)|rfl))) rfl ?_)|(refine hw_v (ov_not_t rfl (by with_reducible rfl)) rfl ?_)|(refine hw_v (ov_not_p rfl) rfl ?_)|(refine hw_v (ov_build rfl rfl rfl (by repeat constructor)) rfl ?_))|(refine hl_op rfl ?_)|(refine k_ho ?_;first|(refine ho_n ?_))|(refine hl_nil ?_)|(refine hq_back ?_)))
              refine retc2 (by first | exact .inr rfl | exact .inl rfl) rfl rfl rfl rfl rfl rfl ?_
              exact ⟨rfl, _, rfl⟩
          · rw [if_neg h2]
            by_cases h3 : k = 2
            · rw [if_pos h3]
              change CFacts s (i + 4) (chunksS s (i + 4)) at hcf
              revert hC hcf
              generalize chunksS s (i + 4) = z
              intro hC hcf
              cases z with
              | more =>
                repeat' (first|(first|(refine k_call ?_;refine al_acall [0] rfl rfl (a_given (is := true) (s := s) (st := 0)) (by repeat constructor) (by repeat constructor) rfl rfl ?_;rintro _ _ ⟨rfl, rfl⟩;refine ⟨_, _, by repeat constructor, by repeat constructor, ?_⟩)|(refine al_v (ov_nilCheck (n := 0) rfl rfl) rfl ?_)|(refine k_call ?_;refine al_call rfl rfl rfl rfl hI ?_;rintro _ rfl)|(refine al_v (ov_slice_hi rfl rfl (by omega) (by omega)) rfl ?_)|(refine k_call ?_;refine al_call rfl rfl rfl rfl hP ?_;rintro _ rfl)|(refine k_call ?_;refine al_call rfl rfl rfl rfl hB ?_;rintro _ rfl)|(refine k_call ?_;refine al_call rfl rfl rfl rfl hC ?_;rintro _ rfl))|(refine k_al ?_;first|(refine al_v (ov_move rfl) rfl ?_)|(refine k_g ?_;first|(refine al_gy' rfl rfl (by with_reducible rfl) ?_))|(refine al_v (ov_fieldAddr rfl rfl) rfl ?_)|(refine k_load ?_;first|(refine al_v (ov_load rfl rfl) rfl ?_)|(refine al_v (ov_load_agg rfl rfl rfl) rfl ?_))|(refine k_bin ?_;first|(refine al_v (ov_cmp rfl rfl rfl) rfl ?_)|(refine al_v (ov_add rfl rfl (by (first|exact w64 (by omega) (by omega)|rfl))) rfl ?_))|(refine k_pick ?_;first|(refine al_v (ov_pick_f' rfl (by with_reducible rfl) rfl) rfl ?_))|(refine al_v (ov_assign rfl) rfl ?_)|(refine k_call ?_;first|(refine al_v (ov_len_str rfl) rfl ?_))|(refine al_v (ov_extract rfl rfl) rfl ?_)|(refine al_nil ?_)|(refine al_alloc rfl rfl rfl (by first|exact ln1|exact ln2) (by repeat constructor) rfl ?_)|(refine al_store rfl rfl rfl rfl rfl (by repeat constructor) (by repeat constructor) ?_)|(refine al_v (ov_build rfl rfl rfl (by repeat constructor)) rfl ?_)|(refine al_v (ov_not_t rfl (by with_reducible rfl)) rfl ?_)|(refine al_v (ov_not_p rfl) rfl ?_))|(first|(refine thn_n ?_)|(refine k_awp ?_;first|(refine awp_seq (awp_region ?_))|(refine awp_seq ?_)|(refine awp_region ?_)|(refine k_cond ?_;first|(refine awp_cond_t' rfl (by with_reducible rfl) ?_)|(refine awp_cond_f' rfl (by with_reducible rfl) ?_)|(refine awp_cond_p rfl (fun hc => ?_) (fun hc => ?_) <;> (try (exfalso;omega))))|(refine awp_block ?_)|(refine awp_ret ?_)|(refine awp_skip ?_))|(refine thn_ret ?_)|(refine inb_n ?_)|(refine inb_ret ?_)))
                refine retq_wkn (.boxLe (id := 1) [.str [], .str [], .int .i64 0, .rs [], .str [], .rs [], .str [], .bool false] rfl (.cons (.refl _) (.cons (.refl _) (.cons (.refl _) (.cons .nil (.cons (.refl _) (.cons .nil (.cons (.refl _) (.cons (.refl _) .nil)))))))) rfl) ?_
                refine retc2 (by first | exact .inr rfl | exact .inl rfl) rfl rfl rfl rfl rfl rfl ?_
                exact ⟨rfl, _, rfl⟩
              | bad st' =>
                have hne : st' ≠ 0 := by rcases hcf with rfl | rfl <;> decide
                repeat' (first|(first|(refine k_call ?_;refine al_acall [0] rfl rfl (a_given (is := true) (s := s) (st := 0)) (by repeat constructor) (by repeat constructor) rfl rfl ?_;rintro _ _ ⟨rfl, rfl⟩;refine ⟨_, _, by repeat constructor, by repeat constructor, ?_⟩)|(refine al_v (ov_nilCheck (n := 0) rfl rfl) rfl ?_)|(refine k_call ?_;refine al_call rfl rfl rfl rfl hI ?_;rintro _ rfl)|(refine al_v (ov_slice_hi rfl rfl (by omega) (by omega)) rfl ?_)|(refine k_call ?_;refine al_call rfl rfl rfl rfl hP ?_;rintro _ rfl)|(refine k_call ?_;refine al_call rfl rfl rfl rfl hB ?_;rintro _ rfl)|(refine k_call ?_;refine al_call rfl rfl rfl rfl hC ?_;rintro _ rfl)|(refine k_call ?_;refine al_acall [0] rfl rfl (a_breaks (s := s) (st := 0) (st' := st')) (by repeat constructor) (by repeat constructor) rfl rfl ?_;rintro _ _ ⟨rfl, rfl⟩;refine ⟨_, _, by repeat constructor, by repeat constructor, ?_⟩))|(refine k_al ?_;first|(refine al_v (ov_move rfl) rfl ?_)|(refine k_g ?_;first|(refine al_gy' rfl rfl (by with_reducible rfl) ?_))|(refine al_v (ov_fieldAddr rfl rfl) rfl ?_)|(refine k_load ?_;first|(refine al_v (ov_load rfl rfl) rfl ?_)|(refine al_v (ov_load_agg rfl rfl rfl) rfl ?_))|(refine k_bin ?_;first|(refine al_v (ov_cmp rfl rfl rfl) rfl ?_)|(refine al_v (ov_add rfl rfl (by (first|exact w64 (by omega) (by omega)|rfl))) rfl ?_))|(refine k_pick ?_;first|(refine al_v (ov_pick_f' rfl (by with_reducible rfl) rfl) rfl ?_))|(refine al_v (ov_assign rfl) rfl ?_)|(refine k_call ?_;first|(refine al_v (ov_len_str rfl) rfl ?_))|(refine al_v (ov_extract rfl rfl) rfl ?_)|(refine al_nil ?_)|(refine al_alloc rfl rfl rfl (by first|exact ln1|exact ln2) (by repeat constructor) rfl ?_)|(refine al_store rfl rfl rfl rfl rfl (by repeat constructor) (by repeat constructor) ?_)|(refine al_v (ov_build rfl rfl rfl (by repeat constructor)) rfl ?_)|(refine al_v (ov_not_t rfl (by with_reducible rfl)) rfl ?_)|(refine al_v (ov_not_p rfl) rfl ?_))|(first|(refine thn_n ?_)|(refine k_awp ?_;first|(refine awp_seq (awp_region ?_))|(refine awp_seq ?_)|(refine awp_region ?_)|(refine k_cond ?_;first|(refine awp_cond_t' rfl (by with_reducible rfl) ?_)|(refine awp_cond_f' rfl (by with_reducible rfl) ?_)|(refine awp_cond_p rfl (fun hc => ?_) (fun hc => ?_) <;> (try (exfalso;omega))))|(refine awp_block ?_)|(refine awp_ret ?_)|(refine awp_skip ?_))|(refine thn_ret ?_)|(refine inb_n ?_)|(refine inb_ret ?_)))
                refine retc2 (by first | exact .inr rfl | exact .inl rfl) rfl rfl rfl rfl rfl rfl ?_
                exact ⟨rfl, _, rfl⟩
              | got b e =>
                obtain ⟨hk1, hk2, _⟩ := hcf
                repeat' (first|(first|(refine k_call ?_;refine al_acall [0] rfl rfl (a_given (is := true) (s := s) (st := 0)) (by repeat constructor) (by repeat constructor) rfl rfl ?_;rintro _ _ ⟨rfl, rfl⟩;refine ⟨_, _, by repeat constructor, by repeat constructor, ?_⟩)|(refine al_v (ov_nilCheck (n := 0) rfl rfl) rfl ?_)|(refine k_call ?_;refine al_call rfl rfl rfl rfl hI ?_;rintro _ rfl)|(refine al_v (ov_slice_hi rfl rfl (by omega) (by omega)) rfl ?_)|(refine k_call ?_;refine al_call rfl rfl rfl rfl hP ?_;rintro _ rfl)|(refine k_call ?_;refine al_call rfl rfl rfl rfl hB ?_;rintro _ rfl)|(refine k_call ?_;refine al_call rfl rfl rfl rfl hC ?_;rintro _ rfl)|(refine awp_held (id := 29) [(7, [1])] [⟨0, true, [], bl 10 62⟩, ⟨1, true, [], bl 10 61⟩, ⟨2, true, [], bl 10 59⟩, ⟨3, true, [], bl 10 55⟩, ⟨4, true, [], bl 10 15⟩, ⟨5, false, [], []⟩, ⟨6, true, [], bl 10 63⟩, ⟨7, false, [], []⟩, ⟨8, true, [], bl 10 255⟩, ⟨9, true, [], bl 10 511⟩] (by kernel_rfl) (by kernel_rfl) rfl (by kernel_rfl) ?_)|(refine k_call ?_;refine al_call rfl rfl rfl rfl hT ?_;rintro _ ⟨tp, tq, te, tk, rfl, he, hpq⟩;obtain rfl := he.2 hg.t;obtain ⟨rfl, rfl⟩ := hpq rfl)|(refine k_call ?_;refine al_call rfl rfl rfl rfl hCl ?_;rintro _ rfl)|(refine al_v (ov_slice_lo rfl rfl (by omega) (by omega)) rfl ?_))|(refine k_al ?_;first|(refine al_v (ov_move rfl) rfl ?_)|(refine k_g ?_;first|(refine al_gy' rfl rfl (by with_reducible rfl) ?_))|(refine al_v (ov_fieldAddr rfl rfl) rfl ?_)|(refine k_load ?_;first|(refine al_v (ov_load rfl rfl) rfl ?_)|(refine al_v (ov_load_agg rfl rfl rfl) rfl ?_))|(refine k_bin ?_;first|(refine al_v (ov_cmp rfl rfl rfl) rfl ?_)|(refine al_v (ov_add rfl rfl (by (first|exact w64 (by omega) (by omega)|rfl))) rfl ?_))|(refine k_pick ?_;first|(refine al_v (ov_pick_f' rfl (by with_reducible rfl) rfl) rfl ?_))|(refine al_v (ov_assign rfl) rfl ?_)|(refine k_call ?_;first|(refine al_v (ov_len_str rfl) rfl ?_))|(refine al_v (ov_extract rfl rfl) rfl ?_)|(refine al_nil ?_)|(refine al_alloc rfl rfl rfl (by first|exact ln1|exact ln2) (by repeat constructor) rfl ?_)|(refine al_store rfl rfl rfl rfl rfl (by repeat constructor) (by repeat constructor) ?_)|(refine al_v (ov_build rfl rfl rfl (by repeat constructor)) rfl ?_)|(refine al_v (ov_not_t rfl (by with_reducible rfl)) rfl ?_)|(refine al_v (ov_not_p rfl) rfl ?_))|(first|(refine thn_n ?_)|(refine k_awp ?_;first|(refine awp_seq (awp_region ?_))|(refine awp_seq ?_)|(refine awp_region ?_)|(refine k_cond ?_;first|(refine awp_cond_t' rfl (by with_reducible rfl) ?_)|(refine awp_cond_f' rfl (by with_reducible rfl) ?_)|(refine awp_cond_p rfl (fun hc => ?_) (fun hc => ?_) <;> (try (exfalso;omega))))|(refine awp_block ?_)|(refine awp_ret ?_)|(refine awp_skip ?_))|(refine thn_ret ?_)|(refine inb_n ?_)|(refine inb_ret ?_))|(first|(refine k_hw ?_;first|(refine hw_s rfl ?_)|(refine hw_v (ov_move rfl) rfl ?_)|(refine hw_v (ov_assign rfl) rfl ?_)|(refine hw_v (ov_fieldAddr rfl rfl) rfl ?_)|(refine hw_v (ov_load rfl rfl) rfl ?_)|(refine hw_v (ov_load_agg rfl rfl rfl) rfl ?_)|(refine hw_v (ov_cmp rfl rfl rfl) rfl ?_)|(refine hw_v (ov_pick_f' rfl (by with_reducible rfl) rfl) rfl ?_)|(refine hw_v (ov_len_str rfl) rfl ?_)|(refine hw_v (ov_extract rfl rfl) rfl ?_)|(refine hw_v (ov_add rfl rfl (by (first|exact w64 (by omega) (by omega)|rfl))) rfl ?_)|(refine hw_v (ov_not_t rfl (by with_reducible rfl)) rfl ?_)|(refine hw_v (ov_not_p rfl) rfl ?_)|(refine hw_v (ov_build rfl rfl rfl (by repeat constructor)) rfl ?_))|(refine hl_op rfl ?_)|(refine k_ho ?_;first|(refine ho_n ?_))|(refine hl_nil ?_)|(refine hq_back ?_)))
                refine retc2 (by first | exact .inr rfl | exact .inl rfl) rfl rfl rfl rfl rfl rfl ?_
                exact ⟨rfl, _, rfl⟩
            · rw [if_neg h3]
              repeat' (first|(first|(refine k_call ?_;refine al_acall [0] rfl rfl (a_given (is := true) (s := s) (st := 0)) (by repeat constructor) (by repeat constructor) rfl rfl ?_;rintro _ _ ⟨rfl, rfl⟩;refine ⟨_, _, by repeat constructor, by repeat constructor, ?_⟩)|(refine al_v (ov_nilCheck (n := 0) rfl rfl) rfl ?_)|(refine k_call ?_;refine al_call rfl rfl rfl rfl hI ?_;rintro _ rfl)|(refine al_v (ov_slice_hi rfl rfl (by omega) (by omega)) rfl ?_)|(refine k_call ?_;refine al_call rfl rfl rfl rfl hP ?_;rintro _ rfl)|(refine k_call ?_;refine al_call rfl rfl rfl rfl hB ?_;rintro _ rfl)|(refine awp_held (id := 29) [(7, [1])] [⟨0, true, [], bl 10 62⟩, ⟨1, true, [], bl 10 61⟩, ⟨2, true, [], bl 10 59⟩, ⟨3, true, [], bl 10 55⟩, ⟨4, true, [], bl 10 15⟩, ⟨5, false, [], []⟩, ⟨6, true, [], bl 10 63⟩, ⟨7, false, [], []⟩, ⟨8, true, [], bl 10 255⟩, ⟨9, true, [], bl 10 511⟩] (by kernel_rfl) (by kernel_rfl) rfl (by kernel_rfl) ?_)|(refine k_call ?_;refine al_call rfl rfl rfl rfl hT ?_;rintro _ ⟨tp, tq, te, tk, rfl, he, hpq⟩;obtain rfl := he.2 hg.t;obtain ⟨rfl, rfl⟩ := hpq rfl)|(refine k_call ?_;refine al_call rfl rfl rfl rfl hCl ?_;rintro _ rfl)|(refine al_v (ov_slice_lo rfl rfl (by omega) (by omega)) rfl ?_))|(refine k_al ?_;first|(refine al_v (ov_move rfl) rfl ?_)|(refine k_g ?_;first|(refine al_gy' rfl rfl (by with_reducible rfl) ?_))|(refine al_v (ov_fieldAddr rfl rfl) rfl ?_)|(refine k_load ?_;first|(refine al_v (ov_load rfl rfl) rfl ?_)|(refine al_v (ov_load_agg rfl rfl rfl) rfl ?_))|(refine k_bin ?_;first|(refine al_v (ov_cmp rfl rfl rfl) rfl ?_)|(refine al_v (ov_add rfl rfl (by (first|exact w64 (by omega) (by omega)|rfl))) rfl ?_))|(refine k_pick ?_;first|(refine al_v (ov_pick_f' rfl (by with_reducible rfl) rfl) rfl ?_))|(refine al_v (ov_assign rfl) rfl ?_)|(refine k_call ?_;first|(refine al_v (ov_len_str rfl) rfl ?_))|(refine al_v (ov_extract rfl rfl) rfl ?_)|(refine al_nil ?_)|(refine al_alloc rfl rfl rfl (by first|exact ln1|exact ln2) (by repeat constructor) rfl ?_)|(refine al_store rfl rfl rfl rfl rfl (by repeat constructor) (by repeat constructor) ?_)|(refine al_v (ov_build rfl rfl rfl (by repeat constructor)) rfl ?_)|(refine al_v (ov_not_t rfl (by with_reducible rfl)) rfl ?_)|(refine al_v (ov_not_p rfl) rfl ?_))|(first|(refine thn_n ?_)|(refine k_awp ?_;first|(refine awp_seq (awp_region ?_))|(refine awp_seq ?_)|(refine awp_region ?_)|(refine k_cond ?_;first|(refine awp_cond_t' rfl (by with_reducible rfl) ?_)|(refine awp_cond_f' rfl (by with_reducible rfl) ?_)|(refine awp_cond_p rfl (fun hc => ?_) (fun hc => ?_) <;> (try (exfalso;omega))))|(refine awp_block ?_)|(refine awp_ret ?_)|(refine awp_skip ?_))|(refine thn_ret ?_)|(refine inb_n ?_)|(refine inb_ret ?_))|(first|(refine k_hw ?_;first|(refine hw_s rfl ?_)|(refine hw_v (ov_move rfl) rfl ?_)|(refine hw_v (ov_assign rfl) rfl ?_)|(refine hw_v (ov_fieldAddr rfl rfl) rfl ?_)|(refine hw_v (ov_load rfl rfl) rfl ?_)|(refine hw_v (ov_load_agg rfl rfl rfl) rfl ?_)|(refine hw_v (ov_cmp rfl rfl rfl) rfl ?_)|(refine hw_v (ov_pick_f' rfl (by with_reducible rfl) rfl) rfl ?_)|(refine hw_v (ov_len_str rfl) rfl ?_)|(refine hw_v (ov_extract rfl rfl) rfl ?_)|(refine hw_v (ov_add rfl rfl (by (first|exact w64 (by omega) (by omega)|rfl))) rfl ?_)|(refine hw_v (ov_not_t rfl (by with_reducible rfl)) rfl ?_)|(refine hw_v (ov_not_p rfl) rfl ?_)|(refine hw_v (ov_build rfl rfl rfl (by repeat constructor)) rfl ?_))|(refine hl_op rfl ?_)|(refine k_ho ?_;first|(refine ho_n ?_))|(refine hl_nil ?_)|(refine hq_back ?_)))
              refine retc2 (by first | exact .inr rfl | exact .inl rfl) rfl rfl rfl rfl rfl rfl ?_
              exact ⟨rfl, _, rfl⟩
        · rw [if_pos h1]
          repeat' (first|(first|(refine k_call ?_;refine al_acall [0] rfl rfl (a_given (is := true) (s := s) (st := 0)) (by repeat constructor) (by repeat constructor) rfl rfl ?_;rintro _ _ ⟨rfl, rfl⟩;refine ⟨_, _, by repeat constructor, by repeat constructor, ?_⟩)|(refine al_v (ov_nilCheck (n := 0) rfl rfl) rfl ?_)|(refine k_call ?_;refine al_call rfl rfl rfl rfl hI ?_;rintro _ rfl)|(refine al_v (ov_slice_hi rfl rfl (by omega) (by omega)) rfl ?_)|(refine k_call ?_;refine al_call rfl rfl rfl rfl hP ?_;rintro _ rfl)|(refine k_call ?_;refine al_call rfl rfl rfl rfl hB ?_;rintro _ rfl)|(refine k_call ?_;refine al_acall [0] rfl rfl (a_breaks (s := s) (st := 0) (st' := st)) (by repeat constructor) (by repeat constructor) rfl rfl ?_;rintro _ _ ⟨rfl, rfl⟩;refine ⟨_, _, by repeat constructor, by repeat constructor, ?_⟩))|(refine k_al ?_;first|(refine al_v (ov_move rfl) rfl ?_)|(refine k_g ?_;first|(refine al_gy' rfl rfl (by with_reducible rfl) ?_))|(refine al_v (ov_fieldAddr rfl rfl) rfl ?_)|(refine k_load ?_;first|(refine al_v (ov_load rfl rfl) rfl ?_)|(refine al_v (ov_load_agg rfl rfl rfl) rfl ?_))|(refine k_bin ?_;first|(refine al_v (ov_cmp rfl rfl rfl) rfl ?_)|(refine al_v (ov_add rfl rfl (by (first|exact w64 (by omega) (by omega)|rfl))) rfl ?_))|(refine k_pick ?_;first|(refine al_v (ov_pick_f' rfl (by with_reducible rfl) rfl) rfl ?_))|(refine al_v (ov_assign rfl) rfl ?_)|(refine k_call ?_;first|(refine al_v (ov_len_str rfl) rfl ?_))|(refine al_v (ov_extract rfl rfl) rfl ?_)|(refine al_nil ?_)|(refine al_alloc rfl rfl rfl (by first|exact ln1|exact ln2) (by repeat constructor) rfl ?_)|(refine al_store rfl rfl rfl rfl rfl (by repeat constructor) (by repeat constructor) ?_)|(refine al_v (ov_build rfl rfl rfl (by repeat constructor)) rfl ?_)|(refine al_v (ov_not_t rfl (by with_reducible rfl)) rfl ?_)|(refine al_v (ov_not_p rfl) rfl ?_))|(first|(refine thn_n ?_)|(refine k_awp ?_;first|(refine awp_seq (awp_region ?_))|(refine awp_seq ?_)|(refine awp_region ?_)|(refine k_cond ?_;first|(refine awp_cond_t' rfl (by with_reducible rfl) ?_)|(refine awp_cond_f' rfl (by with_reducible rfl) ?_)|(refine awp_cond_p rfl (fun hc => ?_) (fun hc => ?_) <;> (try (exfalso;omega))))|(refine awp_block ?_)|(refine awp_ret ?_)|(refine awp_skip ?_))|(refine thn_ret ?_)|(refine inb_n ?_)|(refine inb_ret ?_)))
          refine retc2 (by first | exact .inr rfl | exact .inl rfl) rfl rfl rfl rfl rfl rfl ?_
          exact ⟨rfl, _, rfl⟩
      · rw [if_pos hst]
        repeat' (first|(first|(refine k_call ?_;refine al_acall [0] rfl rfl (a_given (is := true) (s := s) (st := 0)) (by repeat constructor) (by repeat constructor) rfl rfl ?_;rintro _ _ ⟨rfl, rfl⟩;refine ⟨_, _, by repeat constructor, by repeat constructor, ?_⟩)|(refine al_v (ov_nilCheck (n := 0) rfl rfl) rfl ?_)|(refine k_call ?_;refine al_call rfl rfl rfl rfl hI ?_;rintro _ rfl)|(refine al_v (ov_slice_hi rfl rfl (by omega) (by omega)) rfl ?_)|(refine k_call ?_;refine al_call rfl rfl rfl rfl hP ?_;rintro _ rfl)|(refine k_call ?_;refine al_acall [0] rfl rfl (a_breaks (s := s) (st := 0) (st' := st)) (by repeat constructor) (by repeat constructor) rfl rfl ?_;rintro _ _ ⟨rfl, rfl⟩;refine ⟨_, _, by repeat constructor, by repeat constructor, ?_⟩))|(refine k_al ?_;first|(refine al_v (ov_move rfl) rfl ?_)|(refine k_g ?_;first|(refine al_gy' rfl rfl (by with_reducible rfl) ?_))|(refine al_v (ov_fieldAddr rfl rfl) rfl ?_)|(refine k_load ?_;first|(refine al_v (ov_load rfl rfl) rfl ?_)|(refine al_v (ov_load_agg rfl rfl rfl) rfl ?_))|(refine k_bin ?_;first|(refine al_v (ov_cmp rfl rfl rfl) rfl ?_)|(refine al_v (ov_add rfl rfl (by (first|exact w64 (by omega) (by omega)|rfl))) rfl ?_))|(refine k_pick ?_;first|(refine al_v (ov_pick_f' rfl (by with_reducible rfl) rfl) rfl ?_))|(refine al_v (ov_assign rfl) rfl ?_)|(refine k_call ?_;first|(refine al_v (ov_len_str rfl) rfl ?_))|(refine al_v (ov_extract rfl rfl) rfl ?_)|(refine al_nil ?_)|(refine al_alloc rfl rfl rfl (by first|exact ln1|exact ln2) (by repeat constructor) rfl ?_)|(refine al_store rfl rfl rfl rfl rfl (by repeat constructor) (by repeat constructor) ?_)|(refine al_v (ov_build rfl rfl rfl (by repeat constructor)) rfl ?_)|(refine al_v (ov_not_t rfl (by with_reducible rfl)) rfl ?_)|(refine al_v (ov_not_p rfl) rfl ?_))|(first|(refine thn_n ?_)|(refine k_awp ?_;first|(refine awp_seq (awp_region ?_))|(refine awp_seq ?_)|(refine awp_region ?_)|(refine k_cond ?_;first|(refine awp_cond_t' rfl (by with_reducible rfl) ?_)|(refine awp_cond_f' rfl (by with_reducible rfl) ?_)|(refine awp_cond_p rfl (fun hc => ?_) (fun hc => ?_) <;> (try (exfalso;omega))))|(refine awp_block ?_)|(refine awp_ret ?_)|(refine awp_skip ?_))|(refine thn_ret ?_)|(refine inb_n ?_)|(refine inb_ret ?_)))
        refine retc2 (by first | exact .inr rfl | exact .inl rfl) rfl rfl rfl rfl rfl rfl ?_
        exact ⟨rfl, _, rfl⟩
  · rw [if_pos hst]
    repeat' (first|(first|(refine k_call ?_;refine al_acall [0] rfl rfl (a_given (is := true) (s := s) (st := st)) (by repeat constructor) (by repeat constructor) rfl rfl ?_;rintro _ _ ⟨rfl, rfl⟩;refine ⟨_, _, by repeat constructor, by repeat constructor, ?_⟩)|(refine al_v (ov_nilCheck (n := 0) rfl rfl) rfl ?_)|(refine k_call ?_;refine al_acall [0] rfl rfl (a_brokenP (s := s) (st := st)) (by repeat constructor) (by repeat constructor) rfl rfl ?_;rintro _ _ ⟨rfl, rfl⟩;refine ⟨_, _, by repeat constructor, by repeat constructor, ?_⟩))|(refine k_al ?_;first|(refine al_v (ov_move rfl) rfl ?_)|(refine k_g ?_;first|(refine al_gy' rfl rfl (by with_reducible rfl) ?_))|(refine al_v (ov_fieldAddr rfl rfl) rfl ?_)|(refine k_load ?_;first|(refine al_v (ov_load rfl rfl) rfl ?_)|(refine al_v (ov_load_agg rfl rfl rfl) rfl ?_))|(refine k_bin ?_;first|(refine al_v (ov_cmp rfl rfl rfl) rfl ?_)|(refine al_v (ov_add rfl rfl (by (first|exact w64 (by omega) (by omega)|rfl))) rfl ?_))|(refine k_pick ?_;first|(refine al_v (ov_pick_f' rfl (by with_reducible rfl) rfl) rfl ?_))|(refine al_v (ov_assign rfl) rfl ?_)|(refine k_call ?_;first|(refine al_v (ov_len_str rfl) rfl ?_))|(refine al_v (ov_extract rfl rfl) rfl ?_)|(refine al_nil ?_)|(refine al_alloc rfl rfl rfl (by first|exact ln1|exact ln2) (by repeat constructor) rfl ?_)|(refine al_store rfl rfl rfl rfl rfl (by repeat constructor) (by repeat constructor) ?_)|(refine al_v (ov_build rfl rfl rfl (by repeat constructor)) rfl ?_)|(refine al_v (ov_not_t rfl (by with_reducible rfl)) rfl ?_)|(refine al_v (ov_not_p rfl) rfl ?_))|(first|(refine thn_n ?_)|(refine k_awp ?_;first|(refine awp_seq (awp_region ?_))|(refine awp_seq ?_)|(refine awp_region ?_)|(refine k_cond ?_;first|(refine awp_cond_t' rfl (by with_reducible rfl) ?_)|(refine awp_cond_f' rfl (by with_reducible rfl) ?_)|(refine awp_cond_p rfl (fun hc => ?_) (fun hc => ?_) <;> (try (exfalso;omega))))|(refine awp_block ?_)|(refine awp_ret ?_)|(refine awp_skip ?_))|(refine thn_ret ?_)|(refine inb_n ?_)|(refine inb_ret ?_)))
    refine retq_wkn (.boxLe (id := 1) [.str [], .str [], .int .i64 0, .rs [], .str [], .rs [], .str [], .bool false] rfl (.cons (.refl _) (.cons (.refl _) (.cons (.refl _) (.cons .nil (.cons (.refl _) (.cons .nil (.cons (.refl _) (.cons (.refl _) .nil)))))))) rfl) ?_
    refine retc2 (by first | exact .inr rfl | exact .inl rfl) rfl rfl rfl rfl rfl rfl ?_
    exact ⟨rfl, _, rfl⟩
end
end Go.Proofs.YtffcgpkbibijpaaGreatDoor.L

namespace Go.Proofs.YtffcgpkbibijpaaGreatDoor.L
open Go Go.RowKit Go.Proofs
set_option linter.unusedVariables false
set_option linter.unusedSimpArgs false
set_option maxRecDepth 100000
attribute [local irreducible] AL QL AWp Thn InB RetQ ACalls LoopQ HL HO HW HQ NoG JmpQ MidQ HF

section
variable {w0 : World} {base : Nat}
theorem a_next {s : List UInt8} {st : Int} (hG : Glob w0 base) (hs : s.length ≤ 4294967200) : ACalls (EE w0 base) 23 [.op 0 0] [parO true s st] fun rv os => rv = (nextV s st).1 ∧ os = [parO true (nextV s st).2.1 (nextV s st).2.2] := by
  refine acalls_drop (a_next' hG hs) ?_
  rintro rv os ⟨rfl, ex, rfl⟩
  refine ⟨[_], ex, rfl, ⟨rfl, rfl⟩, ?_, by repeat constructor, Nat.le_refl _⟩
  unfold nextV
  split
  · rfl
  · split <;> rfl
theorem a_new : ACalls (EE w0 base) 21 [] [] fun rv os => rv = .op 0 0 ∧ os = [parO true [] 0] := by
  refine acalls_of Tryz.func21 rfl rfl rfl .nil ?_
  repeat' (first|(refine k_al ?_;first|(refine al_v (ov_assign rfl) rfl ?_)|(refine al_nil ?_)|(refine al_box rfl rfl rfl (by first|exact ln0) (by repeat constructor) rfl ?_)|(refine al_v (ov_build rfl rfl rfl (by repeat constructor)) rfl ?_))|(first|(refine thn_n ?_)|(refine k_awp ?_;first|(refine awp_seq (awp_region ?_))|(refine awp_seq ?_)|(refine awp_region ?_)|(refine awp_ret ?_))))
  refine ret1 (by first | exact .inr rfl | exact .inl rfl) rfl rfl ?_
  exact ⟨rfl, rfl⟩
theorem a_copy {s : List UInt8} {st : Int} : ACalls (EE w0 base) 33 [.op 0 0] [parO true s st] fun rv os => rv = .op 1 0 ∧ os = [parO true s st, parO true s st] := by
  refine acalls_of Tryz.func33 rfl rfl rfl (.cons .nil) ?_
  repeat' (first|(first|(refine k_call ?_;refine al_acall [0] rfl rfl (a_given (is := true) (s := s) (st := st)) (by repeat constructor) (by repeat constructor) rfl rfl ?_;rintro _ _ ⟨rfl, rfl⟩;refine ⟨_, _, by repeat constructor, by repeat constructor, ?_⟩)|(refine al_v (ov_nilCheck (n := 0) rfl rfl) rfl ?_))|(refine k_al ?_;first|(refine al_v (ov_move rfl) rfl ?_)|(refine k_load ?_;first|(refine al_v (ov_load_agg rfl rfl rfl) rfl ?_))|(refine al_v (ov_assign rfl) rfl ?_)|(refine al_nil ?_)|(refine al_alloc rfl rfl rfl (by first|exact ln1) (by repeat constructor) rfl ?_)|(refine al_store rfl rfl rfl rfl rfl (by repeat constructor) (by repeat constructor) ?_)|(refine al_v (ov_not_t rfl (by with_reducible rfl)) rfl ?_))|(first|(refine thn_n ?_)|(refine k_awp ?_;first|(refine awp_seq (awp_region ?_))|(refine awp_seq ?_)|(refine awp_region ?_)|(refine k_cond ?_;first|(refine awp_cond_f' rfl (by with_reducible rfl) ?_))|(refine awp_ret ?_)|(refine awp_skip ?_))))
  refine ret1 (by first | exact .inr rfl | exact .inl rfl) rfl rfl ?_
  exact ⟨rfl, rfl⟩
end
end Go.Proofs.YtffcgpkbibijpaaGreatDoor.L

namespace Go.Proofs.YtffcgpkbibijpaaGreatDoor.L
open Go Go.RowKit Go.Proofs
set_option linter.unusedVariables false
set_option linter.unusedSimpArgs false
set_option maxRecDepth 100000
attribute [local irreducible] AL QL AWp Thn InB RetQ ACalls LoopQ HL HO HW HQ NoG JmpQ MidQ HF

/-- A request. -/
structure Rq where
  h : Hd
  p : List UInt8
  q : Fs
  b : List UInt8
  c : Bool
def rqC (r : Rq) : List AV := [.str r.h.m, .str r.h.t, .int .i64 r.h.v, .rs (r.h.fs.map prAV), .str r.p, .rs (r.q.map prAV), .str r.b, .bool r.c]
def rq0 : Rq := ⟨hd0, [], [], [], false⟩
def rqOf (h : Hd) (b : List UInt8) : Rq := ⟨h, tgtP h.t, tgtQ h.t, b, closesS h⟩
def rqSame (x y : Rq) : Bool := decide ((x.h.m = y.h.m ∧ x.h.t = y.h.t ∧ x.h.v = y.h.v ∧ x.h.fs = y.h.fs) ∧ x.p = y.p ∧ x.q = y.q ∧ x.b = y.b ∧ x.c = y.c)
theorem rqSame_self (x : Rq) : rqSame x x = true := by simp [rqSame]
section
variable {w0 : World} {base : Nat}
set_option maxHeartbeats 2000000 in
theorem s_sameRq {x y : Rq} (hx : x.h.fs.length * 16 ≤ 140737488351232 ∧ x.q.length * 16 ≤ 140737488351232) (hy : y.h.fs.length * 16 ≤ 140737488351232 ∧ y.q.length * 16 ≤ 140737488351232) : PCalls (EE w0 base) 25 [.agg (rqC x), .agg (rqC y)] fun rv => rv = .bool (rqSame x y) := by
  have hS := s_same (w0 := w0) (base := base) (m := x.h.m) (t := x.h.t) (v := x.h.v) (f := x.h.fs) (m' := y.h.m) (t' := y.h.t) (v' := y.h.v) (g := y.h.fs) hx.1 hy.1
  have hF := s_sameF (w0 := w0) (base := base) (f := x.q) (g := y.q) hx.2 hy.2
  refine acalls_of Tryz.func25 rfl rfl rfl (.cons (.cons .nil)) ?_
  unfold rqSame rqC
  revert hS hF
  obtain ⟨e1, he1⟩ : ∃ e, e = decide (x.h.m = y.h.m ∧ x.h.t = y.h.t ∧ x.h.v = y.h.v ∧ x.h.fs = y.h.fs) := ⟨_, rfl⟩
  obtain ⟨e2, he2⟩ : ∃ e, e = decide (x.q = y.q) := ⟨_, rfl⟩
  rw [← he1, ← he2]
  intro hS hF
  cases e1
  all_goals
    cases e2
  all_goals
    repeat' (first|(first|(refine k_call ?_;refine al_call rfl rfl rfl rfl hS ?_;rintro _ rfl)|(refine k_call ?_;refine al_call rfl rfl rfl rfl hF ?_;rintro _ rfl))|(refine k_al ?_;first|(refine al_v (ov_move rfl) rfl ?_)|(refine k_g ?_;first|(refine al_gy' rfl rfl (by with_reducible rfl) ?_)|(refine al_gnt rfl rfl (by with_reducible rfl) rfl ?_)|(refine al_gsp rfl rfl (fun hc => ?_) (fun hc => ?_) <;> (try (exfalso;omega))))|(refine al_v (ov_fieldAddr rfl rfl) rfl ?_)|(refine k_load ?_;first|(refine al_v (ov_load rfl rfl) rfl ?_)|(refine al_v (ov_load_agg rfl rfl rfl) rfl ?_))|(refine k_bin ?_;first|(refine al_v (ov_seq rfl rfl) rfl ?_)|(refine al_v (ov_beq rfl rfl) rfl ?_))|(refine k_pick ?_;first|(refine al_v (ov_pick_t' rfl (by with_reducible rfl) rfl) rfl ?_)|(refine al_v (ov_pick_f' rfl (by with_reducible rfl) rfl) rfl ?_))|(refine al_v (ov_assign rfl) rfl ?_)|(refine al_nil ?_)|(refine al_box rfl rfl rfl (by first|exact ln0|exact ln1) (by repeat constructor) rfl ?_))|(first|(refine thn_n ?_)|(refine k_awp ?_;first|(refine awp_seq (awp_region ?_))|(refine awp_seq ?_)|(refine awp_region ?_)|(refine awp_ret ?_))))
  all_goals
    refine ret1 (by first | exact .inr rfl | exact .inl rfl) rfl rfl ?_
    refine ⟨congrArg AV.bool ?_, rfl⟩
    simp_all
end
end Go.Proofs.YtffcgpkbibijpaaGreatDoor.L

namespace Go.Proofs.YtffcgpkbibijpaaGreatDoor.L
open Go Go.RowKit Go.Proofs
set_option linter.unusedVariables false
set_option linter.unusedSimpArgs false
set_option maxRecDepth 100000
attribute [local irreducible] AL QL AWp Thn InB RetQ ACalls LoopQ HL HO HW HQ NoG JmpQ MidQ HF

/-- A request of no great texts. -/
def RqB (x : Rq) : Prop := x.h.fs.length * 16 ≤ 140737488351232 ∧ x.q.length * 16 ≤ 140737488351232
theorem rq_row {xs : List Rq} {i : Nat} {x : Rq} (h : xs[i]? = some x) : (xs.map rqC)[((i : Nat) : Int).toNat]? = some [.str x.h.m, .str x.h.t, .int .i64 x.h.v, .rs (x.h.fs.map prAV), .str x.p, .rs (x.q.map prAV), .str x.b, .bool x.c] := by
  have : ((i : Nat) : Int).toNat = i := rfl
  rw [this, List.getElem?_map, h]
  rfl
section
variable {w0 : World} {base : Nat}
set_option maxHeartbeats 2000000 in
theorem s_sameAll {xs : List Rq} (hx : ∀ x ∈ xs, RqB x) (hl : xs.length ≤ 1099511627776) : PCalls (EE w0 base) 19 [.rs (xs.map rqC), .rs (xs.map rqC)] fun rv => rv = .bool true := by
  refine acalls_of Tryz.func19 rfl rfl rfl (.cons (.cons .nil)) ?_
  have hml : (xs.map rqC).length = xs.length := List.length_map _
  repeat' (first|(refine k_al ?_;first|(refine al_v (ov_move rfl) rfl ?_)|(refine k_bin ?_;first|(refine al_v (ov_cmp rfl rfl rfl) rfl ?_)|(refine al_v (ov_add rfl rfl (by (first|exact w64 (by omega) (by omega)|rfl))) rfl ?_))|(refine al_v (ov_assign rfl) rfl ?_)|(refine k_call ?_;first|(refine al_v (ov_len_rs rfl) rfl ?_))|(refine al_nil ?_)|(refine al_v (ov_not_t rfl (by with_reducible rfl)) rfl ?_))|(first|(refine thn_n ?_)|(refine k_awp ?_;first|(refine awp_seq (awp_region ?_))|(refine awp_seq ?_)|(refine awp_region ?_)|(refine k_cond ?_;first|(refine awp_cond_f' rfl (by with_reducible rfl) ?_)|(refine awp_cond_p rfl (fun hc => ?_) (fun hc => ?_) <;> (try (exfalso;omega))))|(refine awp_block ?_)|(refine awp_ret ?_)|(refine awp_skip ?_)|(refine awp_exit ?_))|(refine lq_exit ?_)|(refine thn_exit ?_)|(refine inb_n ?_)|(refine inb_here ?_)))
  refine awp_loopq (fun k : Nat => ⟨[(0, .rs (xs.map rqC)), (1, .rs (xs.map rqC)), (5, .int .i64 k)], []⟩) (fun k => k ≤ xs.length) (fun k => xs.length - k) 0 (.of (.same (by repeat constructor))) (Nat.zero_le _) ?_
  intro i hi
  try dsimp only
  by_cases hlt : i < xs.length
  · obtain ⟨x, hp⟩ : ∃ x, xs[i]? = some x := ⟨_, List.getElem?_eq_getElem hlt⟩
    have hrow := rq_row hp
    have hb := hx x (List.mem_of_getElem? hp)
    have hS := s_sameRq (w0 := w0) (base := base) (x := x) (y := x) hb hb
    rw [rqSame_self] at hS
    repeat' (first|(first|(refine awp_held (id := 6) [] [⟨0, true, [], bl 10 242⟩, ⟨1, true, [], bl 10 241⟩, ⟨2, true, [], bl 10 243⟩, ⟨3, true, [], bl 10 247⟩, ⟨4, true, [], bl 10 47⟩, ⟨5, true, [], bl 10 31⟩, ⟨6, true, [], bl 10 63⟩, ⟨7, true, [], bl 10 127⟩, ⟨8, false, [], []⟩, ⟨9, true, [], bl 10 511⟩] (by kernel_rfl) (by kernel_rfl) rfl (by kernel_rfl) ?_)|(refine hw_v (ov_indexAddr rfl rfl (by omega) hrow rfl) rfl ?_)|(refine al_v (ov_indexAddr rfl rfl (by omega) hrow rfl) rfl ?_)|(refine k_call ?_;refine al_call rfl rfl rfl rfl hS ?_;rintro _ rfl))|(refine k_al ?_;first|(refine al_v (ov_move rfl) rfl ?_)|(refine k_bin ?_;first|(refine al_v (ov_cmp rfl rfl rfl) rfl ?_)|(refine al_v (ov_add rfl rfl (by (first|exact w64 (by omega) (by omega)|rfl))) rfl ?_))|(refine al_v (ov_assign rfl) rfl ?_)|(refine k_call ?_;first|(refine al_v (ov_len_rs rfl) rfl ?_))|(refine al_nil ?_)|(refine al_v (ov_not_t rfl (by with_reducible rfl)) rfl ?_))|(first|(refine thn_n ?_)|(refine k_awp ?_;first|(refine awp_seq (awp_region ?_))|(refine awp_seq ?_)|(refine awp_region ?_)|(refine k_cond ?_;first|(refine awp_cond_f' rfl (by with_reducible rfl) ?_)|(refine awp_cond_p rfl (fun hc => ?_) (fun hc => ?_) <;> (try (exfalso;omega))))|(refine awp_block ?_)|(refine awp_ret ?_)|(refine awp_skip ?_)|(refine awp_exit ?_))|(refine lq_exit ?_)|(refine thn_exit ?_)|(refine inb_n ?_)|(refine inb_here ?_))|(first|(refine k_hw ?_;first|(refine hw_s rfl ?_)|(refine hw_v (ov_move rfl) rfl ?_)|(refine hw_v (ov_assign rfl) rfl ?_)|(refine hw_v (ov_load_agg rfl rfl rfl) rfl ?_)|(refine hw_v (ov_cmp rfl rfl rfl) rfl ?_)|(refine hw_v (ov_len_rs rfl) rfl ?_)|(refine hw_v (ov_add rfl rfl (by (first|exact w64 (by omega) (by omega)|rfl))) rfl ?_)|(refine hw_v (ov_not_t rfl (by with_reducible rfl)) rfl ?_))|(refine hl_op rfl ?_)|(refine k_ho ?_;first|(refine ho_n ?_))|(refine hl_nil ?_)|(refine hq_back ?_)))
    first | refine lq_back (i + 1) (.of (.same (by repeat constructor))) ?_ ?_ | fail
    · omega
    · omega
  · repeat' (first|(refine k_al ?_;first|(refine al_v (ov_move rfl) rfl ?_)|(refine k_bin ?_;first|(refine al_v (ov_cmp rfl rfl rfl) rfl ?_)|(refine al_v (ov_add rfl rfl (by (first|exact w64 (by omega) (by omega)|rfl))) rfl ?_))|(refine al_v (ov_assign rfl) rfl ?_)|(refine k_call ?_;first|(refine al_v (ov_len_rs rfl) rfl ?_))|(refine al_nil ?_)|(refine al_v (ov_not_t rfl (by with_reducible rfl)) rfl ?_))|(first|(refine thn_n ?_)|(refine k_awp ?_;first|(refine awp_seq (awp_region ?_))|(refine awp_seq ?_)|(refine awp_region ?_)|(refine k_cond ?_;first|(refine awp_cond_f' rfl (by with_reducible rfl) ?_)|(refine awp_cond_p rfl (fun hc => ?_) (fun hc => ?_) <;> (try (exfalso;omega))))|(refine awp_block ?_)|(refine awp_ret ?_)|(refine awp_skip ?_)|(refine awp_exit ?_))|(refine lq_exit ?_)|(refine thn_exit ?_)|(refine inb_n ?_)|(refine inb_here ?_)))
    refine ret1 (by first | exact .inr rfl | exact .inl rfl) rfl rfl ?_
    exact ⟨rfl, rfl⟩
end
end Go.Proofs.YtffcgpkbibijpaaGreatDoor.L

namespace Go.Proofs.YtffcgpkbibijpaaGreatDoor.L
open Go Go.RowKit Go.Proofs
set_option linter.unusedVariables false
set_option linter.unusedSimpArgs false
set_option maxRecDepth 100000

/-- Requests are read for as long as there are whole ones: what was read; the bytes left; the status. -/
def drainF : Nat → List UInt8 → List Rq → List Rq × List UInt8 × Int
  | 0, s, out => (out, s, 0)
  | f + 1, s, out => match nextL s with
    | .more => (out, s, 0)
    | .bad st => (out, [], st)
    | .got h b k => drainF f (s.drop k) (out ++ [rqOf h b])
def allF : List UInt8 → List UInt8 → List Rq → List Rq × Int
  | [], w, out => (out, 0)
  | c :: r, w, out => if 65536 < w.length + 1 then (out, 413)
    else if (drainF (w.length + 2) (w ++ [c]) out).2.2 ≠ 0 then ((drainF (w.length + 2) (w ++ [c]) out).1, (drainF (w.length + 2) (w ++ [c]) out).2.2)
    else allF r (drainF (w.length + 2) (w ++ [c]) out).2.1 (drainF (w.length + 2) (w ++ [c]) out).1
def allS (s : List UInt8) : List Rq × Int := allF s [] []
def getS : List UInt8 := "GET /x HTTP/1.1\r\nHost: a\r\n\r\n".toUTF8.data.toList
def chS1 : List UInt8 := "3\r\nabc\r\n0\r\n\r\n".toUTF8.data.toList
theorem aw_ch : chunksS chS1 0 = .got [97, 98, 99] 13 := by rfl
theorem aw_next : (match nextL getS with | .got h b k => (k, tgtP h.t) | _ => (0, [])) = (28, [47, 120]) := by decide +kernel
theorem aw_all : ((allS (getS ++ getS ++ [120])).1.map fun r => r.p) = [[47, 120], [47, 120]] ∧ (allS (getS ++ getS ++ [120])).2 = 0 := by decide +kernel
end Go.Proofs.YtffcgpkbibijpaaGreatDoor.L

namespace Go.Proofs.YtffcgpkbibijpaaGreatDoor.L
open Go Go.RowKit Go.Proofs
set_option linter.unusedVariables false
set_option linter.unusedSimpArgs false
set_option maxRecDepth 100000

theorem reqSt_kind (l : List UInt8) : reqSt l = 0 ∨ reqSt l = 400 ∨ reqSt l = 505 := by
  unfold reqSt stR
  split
  · split
    · simp
    · split <;> simp
  · simp
theorem pGo_kind (s : List UInt8) : ∀ (f at' : Nat) (o : Option Hd), (pGo s f at' o).2.1 = 0 ∨ (pGo s f at' o).2.1 = 400 ∨ (pGo s f at' o).2.1 = 431 ∨ (pGo s f at' o).2.1 = 505 := by
  intro f
  induction f with
  | zero => intro at' o; exact .inl rfl
  | succ f ih =>
    intro at' o
    rw [pGo_succ]
    split
    · simp
    split
    · simp
    cases o with
    | none =>
      dsimp only
      split
      · exact ih _ _
      · rcases reqSt_kind (lineAt s at').1 with h | h | h
        · simp [h]
        · simp [h]
        · simp [h]
    | some h =>
      dsimp only
      split
      · split
        · simp
        · split <;> simp
      · split
        · simp
        · split
          · exact ih _ _
          · simp
theorem headParse_kind (s : List UInt8) : (headParse s).2.1 = 0 ∨ (headParse s).2.1 = 400 ∨ (headParse s).2.1 = 431 ∨ (headParse s).2.1 = 505 := by
  unfold headParse
  split
  · simp
  · exact pGo_kind _ _ _ _
def NFacts (s : List UInt8) : NX → Prop
  | .more => True
  | .bad st => st = 400 ∨ st = 413 ∨ st = 431 ∨ st = 505
  | .got h b k => GoodH h ∧ 4 ≤ k ∧ k ≤ s.length
theorem nextL_facts (s : List UInt8) : NFacts s (nextL s) := by
  unfold nextL
  rcases idx_room s with hx | ⟨i, hx, hi4⟩
  · rw [hx, if_pos (by decide)]
    split
    · exact .inr (.inr (.inl rfl))
    · exact trivial
  · rw [hx, if_neg (by omega), Int.toNat_natCast]
    have hk := headParse_kind (s.take (i + 4))
    have hg : (headParse (s.take (i + 4))).2.1 = 0 → GoodH (headParse (s.take (i + 4))).1 := headParse_good
    revert hk hg
    generalize headParse (s.take (i + 4)) = r
    intro hk hg
    split
    · rename_i h0
      rcases hk with hk | hk | hk | hk
      · exact absurd hk h0
      · exact .inl hk
      · exact .inr (.inr (.inl hk))
      · exact .inr (.inr (.inr hk))
    · rename_i h0
      have h0 : r.2.1 = 0 := Classical.not_not.1 h0
      have hb := bodyAt_facts (s := s) (at' := i + 4) (h := r.1) hi4
      revert hb
      generalize bodyAt s (i + 4) r.1 = z
      intro hb
      cases z with
      | more => exact trivial
      | bad st =>
        rcases hb with hb | hb
        · exact .inl hb
        · exact .inr (.inl hb)
      | got b k => exact ⟨hg h0, by have := hb.1; omega, hb.2⟩
end Go.Proofs.YtffcgpkbibijpaaGreatDoor.L

namespace Go.Proofs.YtffcgpkbibijpaaGreatDoor.L
open Go Go.RowKit Go.Proofs
set_option linter.unusedVariables false
set_option linter.unusedSimpArgs false
set_option maxRecDepth 100000
attribute [local irreducible] AL QL AWp Thn InB RetQ ACalls LoopQ HL HO HW HQ NoG JmpQ MidQ HF

theorem slice_one {s : List UInt8} {i : Nat} (h : i < s.length) : (s.take (i + 1)).drop i = [bAt s (i : Int)] := by
  rw [List.drop_take, drop_bAt h]
  have : i + 1 - i = 1 := by omega
  rw [this]
  rfl
section
variable {w0 : World} {base : Nat}
set_option maxHeartbeats 4000000 in
theorem s_allP {s : List UInt8} (hG : Glob w0 base) (hs : s.length ≤ 1099511627776) : PCalls (EE w0 base) 17 [.str s] fun rv => rv = .tup [.rs ((allS s).1.map rqC), .int .i64 (allS s).2] := by
  refine acalls_of Tryz.func17 rfl rfl rfl (.cons .nil) ?_
  obtain ⟨T, hT⟩ : ∃ T, T = allS s := ⟨_, rfl⟩
  rw [← hT]
  unfold allS at hT
  repeat' (first|((refine k_call ?_;refine al_acall [] rfl rfl a_new (by repeat constructor) (by repeat constructor) rfl rfl ?_;rintro _ _ ⟨rfl, rfl⟩;refine ⟨_, _, by repeat constructor, by repeat constructor, ?_⟩))|(refine k_al ?_;first|(refine al_v (ov_move rfl) rfl ?_)|(refine k_load ?_;first|(refine al_v (ov_load_agg rfl rfl rfl) rfl ?_))|(refine k_bin ?_;first|(refine al_v (ov_cmp rfl rfl rfl) rfl ?_)|(refine al_v (ov_add rfl rfl (by (first|exact w64 (by omega) (by omega)|rfl))) rfl ?_))|(refine al_v (ov_assign rfl) rfl ?_)|(refine k_call ?_;first|(refine al_v (ov_len_str rfl) rfl ?_))|(refine al_v (ov_extract rfl rfl) rfl ?_)|(refine al_nil ?_)|(refine al_alloc rfl rfl rfl (by first|exact ln2|exact ln3) (by repeat constructor) rfl ?_)|(refine al_store rfl rfl rfl rfl rfl (by repeat constructor) (by repeat constructor) ?_)|(refine al_buildSlice (by rfl) (by rfl) (by rfl) (by rfl) (by decide) (by decide) (by rfl) (by rfl) (by repeat constructor) (by rfl) (by repeat constructor) (by rfl) (by first|exact ln2|exact ln3) (by repeat constructor) rfl ?_)|(refine al_v (ov_not_t rfl (by with_reducible rfl)) rfl ?_)|(refine al_v (ov_not_f rfl (by with_reducible rfl)) rfl ?_))|(first|(refine thn_n ?_)|(refine k_awp ?_;first|(refine awp_seq (awp_region ?_))|(refine awp_seq ?_)|(refine awp_region ?_)|(refine k_cond ?_;first|(refine awp_cond_t' rfl (by with_reducible rfl) ?_)|(refine awp_cond_f' rfl (by with_reducible rfl) ?_)|(refine awp_cond_p rfl (fun hc => ?_) (fun hc => ?_) <;> (try (exfalso;omega))))|(refine awp_block ?_)|(refine awp_ret ?_)|(refine awp_skip ?_)|(refine awp_exit ?_))|(refine thn_ret ?_)|(refine lq_exit ?_)|(refine lq_ret ?_)|(refine thn_exit ?_)|(refine inb_n ?_)|(refine inb_ret ?_)|(refine inb_here ?_)|(refine inb_out rfl ?_)))
  refine awp_adopt 4 40 8 rfl (by decide) rfl (by repeat constructor) ?_
  refine awp_loopq (fun p : Nat × List UInt8 × List Rq × Nat × List (List AV) => ⟨[(0, .str s), (4, .os 1 p.2.2.2.1), (5, .op 0 0), (12, .int .i64 (s.length : Int)), (13, .int .i64 p.1)], [parO true p.2.1 0, .row 40 8 p.2.2.2.1 0 p.2.2.2.2]⟩)
    (fun p => p.2.2.2.2 = p.2.2.1.map rqC ∧ p.1 ≤ s.length ∧ 4 * p.2.2.1.length + p.2.1.length ≤ p.1 ∧ p.2.1.length ≤ 65536 ∧ T = allF (s.drop p.1) p.2.1 p.2.2.1) (fun p => s.length - p.1) (0, [], [], 0, []) (.of (.same (by repeat constructor))) ⟨rfl, Nat.zero_le _, Nat.le_refl _, Nat.zero_le _, hT⟩ ?_
  rintro ⟨i, w, out, ver, xs⟩ ⟨hxs, hi, ho, hw, hTi⟩
  dsimp only at hxs hi ho hw hTi ⊢
  by_cases hlt : i < s.length
  · rw [drop_bAt hlt, allF] at hTi
    by_cases hbig : 65536 < w.length + 1
    · rw [if_pos hbig] at hTi
      subst hxs
      have hF := a_feed (w0 := w0) (base := base) (s := w) (t := [bAt s (i : Int)]) (st := 0) hw (by simp)
      have hv : feedS w 0 [bAt s (i : Int)] = (2, w) := by unfold feedS; rw [if_neg (by decide), if_pos (by simpa using hbig)]
      rw [hv] at hF
      repeat' (first|(first|(refine al_v (ov_slice_eq (i := i) (j := i + 1) (slice_one hlt) rfl rfl rfl rfl rfl (by omega) (by omega)) rfl ?_)|(refine k_call ?_;refine al_acall [0] rfl rfl hF (by repeat constructor) (by repeat constructor) rfl rfl ?_;rintro _ _ ⟨rfl, rfl⟩;refine ⟨_, _, by repeat constructor, by repeat constructor, ?_⟩))|(refine k_al ?_;first|(refine al_v (ov_move rfl) rfl ?_)|(refine k_load ?_;first|(refine al_v (ov_load_agg rfl rfl rfl) rfl ?_))|(refine k_bin ?_;first|(refine al_v (ov_cmp rfl rfl rfl) rfl ?_)|(refine al_v (ov_add rfl rfl (by (first|exact w64 (by omega) (by omega)|rfl))) rfl ?_))|(refine al_v (ov_assign rfl) rfl ?_)|(refine k_call ?_;first|(refine al_v (ov_len_str rfl) rfl ?_))|(refine al_v (ov_extract rfl rfl) rfl ?_)|(refine al_nil ?_)|(refine al_alloc rfl rfl rfl (by first|exact ln2|exact ln3) (by repeat constructor) rfl ?_)|(refine al_store rfl rfl rfl rfl rfl (by repeat constructor) (by repeat constructor) ?_)|(refine al_buildSlice (by rfl) (by rfl) (by rfl) (by rfl) (by decide) (by decide) (by rfl) (by rfl) (by repeat constructor) (by rfl) (by repeat constructor) (by rfl) (by first|exact ln2|exact ln3) (by repeat constructor) rfl ?_)|(refine al_v (ov_not_t rfl (by with_reducible rfl)) rfl ?_)|(refine al_v (ov_not_f rfl (by with_reducible rfl)) rfl ?_))|(first|(refine thn_n ?_)|(refine k_awp ?_;first|(refine awp_seq (awp_region ?_))|(refine awp_seq ?_)|(refine awp_region ?_)|(refine k_cond ?_;first|(refine awp_cond_t' rfl (by with_reducible rfl) ?_)|(refine awp_cond_f' rfl (by with_reducible rfl) ?_)|(refine awp_cond_p rfl (fun hc => ?_) (fun hc => ?_) <;> (try (exfalso;omega))))|(refine awp_block ?_)|(refine awp_ret ?_)|(refine awp_skip ?_)|(refine awp_exit ?_))|(refine thn_ret ?_)|(refine lq_exit ?_)|(refine lq_ret ?_)|(refine thn_exit ?_)|(refine inb_n ?_)|(refine inb_ret ?_)|(refine inb_here ?_)|(refine inb_out rfl ?_)))
      refine retq_wkn (.freeze 2 rfl (by repeat constructor)) ?_
      refine ret2 (by first | exact .inr rfl | exact .inl rfl) rfl rfl rfl ?_
      exact ⟨by rw [hTi], rfl⟩
    · rw [if_neg hbig] at hTi
      have hF := a_feed (w0 := w0) (base := base) (s := w) (t := [bAt s (i : Int)]) (st := 0) hw (by simp)
      have hv : feedS w 0 [bAt s (i : Int)] = (0, w ++ [bAt s (i : Int)]) := by unfold feedS; rw [if_neg (by decide), if_neg (by simpa using hbig)]
      rw [hv] at hF
      have hwl : (w ++ [bAt s (i : Int)]).length = w.length + 1 := by simp
      obtain ⟨T2, hT2⟩ : ∃ T2, T2 = drainF (w.length + 2) (w ++ [bAt s (i : Int)]) out := ⟨_, rfl⟩
      rw [← hT2] at hTi
      repeat' (first|(first|(refine al_v (ov_slice_eq (i := i) (j := i + 1) (slice_one hlt) rfl rfl rfl rfl rfl (by omega) (by omega)) rfl ?_)|(refine k_call ?_;refine al_acall [0] rfl rfl hF (by repeat constructor) (by repeat constructor) rfl rfl ?_;rintro _ _ ⟨rfl, rfl⟩;refine ⟨_, _, by repeat constructor, by repeat constructor, ?_⟩))|(refine k_al ?_;first|(refine al_v (ov_move rfl) rfl ?_)|(refine k_load ?_;first|(refine al_v (ov_load_agg rfl rfl rfl) rfl ?_))|(refine k_bin ?_;first|(refine al_v (ov_cmp rfl rfl rfl) rfl ?_)|(refine al_v (ov_add rfl rfl (by (first|exact w64 (by omega) (by omega)|rfl))) rfl ?_))|(refine al_v (ov_assign rfl) rfl ?_)|(refine k_call ?_;first|(refine al_v (ov_len_str rfl) rfl ?_))|(refine al_v (ov_extract rfl rfl) rfl ?_)|(refine al_nil ?_)|(refine al_alloc rfl rfl rfl (by first|exact ln2|exact ln3) (by repeat constructor) rfl ?_)|(refine al_store rfl rfl rfl rfl rfl (by repeat constructor) (by repeat constructor) ?_)|(refine al_buildSlice (by rfl) (by rfl) (by rfl) (by rfl) (by decide) (by decide) (by rfl) (by rfl) (by repeat constructor) (by rfl) (by repeat constructor) (by rfl) (by first|exact ln2|exact ln3) (by repeat constructor) rfl ?_)|(refine al_v (ov_not_t rfl (by with_reducible rfl)) rfl ?_)|(refine al_v (ov_not_f rfl (by with_reducible rfl)) rfl ?_))|(first|(refine thn_n ?_)|(refine k_awp ?_;first|(refine awp_seq (awp_region ?_))|(refine awp_seq ?_)|(refine awp_region ?_)|(refine k_cond ?_;first|(refine awp_cond_t' rfl (by with_reducible rfl) ?_)|(refine awp_cond_f' rfl (by with_reducible rfl) ?_)|(refine awp_cond_p rfl (fun hc => ?_) (fun hc => ?_) <;> (try (exfalso;omega))))|(refine awp_block ?_)|(refine awp_ret ?_)|(refine awp_skip ?_)|(refine awp_exit ?_))|(refine thn_ret ?_)|(refine lq_exit ?_)|(refine lq_ret ?_)|(refine thn_exit ?_)|(refine inb_n ?_)|(refine inb_ret ?_)|(refine inb_here ?_)|(refine inb_out rfl ?_)))
      refine awp_loopq (fun p : List UInt8 × List Rq × Nat × List (List AV) => ⟨[(0, .str s), (4, .os 1 p.2.2.1), (5, .op 0 0), (12, .int .i64 (s.length : Int)), (13, .int .i64 i)], [parO true p.1 0, .row 40 8 p.2.2.1 0 p.2.2.2]⟩)
        (fun p => p.2.2.2 = p.2.1.map rqC ∧ 4 * p.2.1.length + p.1.length ≤ i + 1 ∧ p.1.length ≤ 65536 ∧ ∃ f, p.1.length < f ∧ T2 = drainF f p.1 p.2.1) (fun p => p.1.length) (w ++ [bAt s (i : Int)], out, ver, xs) (.of (.same (by repeat constructor))) ⟨hxs, by dsimp only; omega, by dsimp only; omega, w.length + 2, by dsimp only; omega, hT2⟩ ?_
      rintro ⟨w', out', ver', xs'⟩ ⟨hxs', ho', hw', f, hf, hTf⟩
      dsimp only at hxs' ho' hw' hf hTf ⊢
      obtain ⟨f, rfl⟩ : ∃ g, f = g + 1 := ⟨f - 1, by omega⟩
      rw [drainF] at hTf
      have hN := a_next (w0 := w0) (base := base) (s := w') (st := 0) hG (by omega)
      have hnf := nextL_facts w'
      unfold nextV at hN
      rw [if_neg (by decide)] at hN
      revert hN hnf hTf
      generalize nextL w' = z
      intro hTf hN hnf
      have hml : xs'.length = out'.length := by rw [hxs', List.length_map]
      cases z with
      | more =>
        dsimp only at hTf hN
        rw [hTf, if_neg (fun k => k rfl)] at hTi
        repeat' (first|(first|(refine k_call ?_;refine al_acall [0] rfl rfl hN (by repeat constructor) (by repeat constructor) rfl rfl ?_;rintro _ _ ⟨rfl, rfl⟩;refine ⟨_, _, by repeat constructor, by repeat constructor, ?_⟩))|(refine k_al ?_;first|(refine al_v (ov_move rfl) rfl ?_)|(refine k_load ?_;first|(refine al_v (ov_load_agg rfl rfl rfl) rfl ?_))|(refine k_bin ?_;first|(refine al_v (ov_cmp rfl rfl rfl) rfl ?_)|(refine al_v (ov_add rfl rfl (by (first|exact w64 (by omega) (by omega)|rfl))) rfl ?_))|(refine al_v (ov_assign rfl) rfl ?_)|(refine k_call ?_;first|(refine al_v (ov_len_str rfl) rfl ?_))|(refine al_v (ov_extract rfl rfl) rfl ?_)|(refine al_nil ?_)|(refine al_alloc rfl rfl rfl (by first|exact ln2|exact ln3) (by repeat constructor) rfl ?_)|(refine al_store rfl rfl rfl rfl rfl (by repeat constructor) (by repeat constructor) ?_)|(refine al_buildSlice (by rfl) (by rfl) (by rfl) (by rfl) (by decide) (by decide) (by rfl) (by rfl) (by repeat constructor) (by rfl) (by repeat constructor) (by rfl) (by first|exact ln2|exact ln3) (by repeat constructor) rfl ?_)|(refine al_v (ov_not_t rfl (by with_reducible rfl)) rfl ?_)|(refine al_v (ov_not_f rfl (by with_reducible rfl)) rfl ?_))|(first|(refine thn_n ?_)|(refine k_awp ?_;first|(refine awp_seq (awp_region ?_))|(refine awp_seq ?_)|(refine awp_region ?_)|(refine k_cond ?_;first|(refine awp_cond_t' rfl (by with_reducible rfl) ?_)|(refine awp_cond_f' rfl (by with_reducible rfl) ?_)|(refine awp_cond_p rfl (fun hc => ?_) (fun hc => ?_) <;> (try (exfalso;omega))))|(refine awp_block ?_)|(refine awp_ret ?_)|(refine awp_skip ?_)|(refine awp_exit ?_))|(refine thn_ret ?_)|(refine lq_exit ?_)|(refine lq_ret ?_)|(refine thn_exit ?_)|(refine inb_n ?_)|(refine inb_ret ?_)|(refine inb_here ?_)|(refine inb_out rfl ?_)))
        first|refine lq_back (i + 1, w', out', ver', xs') (.of (.same (by repeat constructor))) ?_ ?_|refine lq_back (i + 1, w', out', ver', xs') (.of (wk_drop [_] rfl (by repeat constructor) rfl (by repeat constructor) rfl)) ?_ ?_|refine lq_back (i + 1, w', out', ver', xs') (.of (wk_drop [_, _] rfl (by repeat constructor) rfl (by repeat constructor) rfl)) ?_ ?_|refine lq_back (i + 1, w', out', ver', xs') (.of (wk_drop [_, _, _] rfl (by repeat constructor) rfl (by repeat constructor) rfl)) ?_ ?_
        · exact ⟨hxs', by dsimp only; omega, ho', hw', hTi⟩
        · dsimp only; omega
      | bad st =>
        dsimp only at hTf hN
        have hne : st ≠ 0 := by rcases hnf with rfl | rfl | rfl | rfl <;> decide
        rw [hTf, if_pos hne] at hTi
        subst hxs'
        repeat' (first|(first|(refine k_call ?_;refine al_acall [0] rfl rfl hN (by repeat constructor) (by repeat constructor) rfl rfl ?_;rintro _ _ ⟨rfl, rfl⟩;refine ⟨_, _, by repeat constructor, by repeat constructor, ?_⟩))|(refine k_al ?_;first|(refine al_v (ov_move rfl) rfl ?_)|(refine k_load ?_;first|(refine al_v (ov_load_agg rfl rfl rfl) rfl ?_))|(refine k_bin ?_;first|(refine al_v (ov_cmp rfl rfl rfl) rfl ?_)|(refine al_v (ov_add rfl rfl (by (first|exact w64 (by omega) (by omega)|rfl))) rfl ?_))|(refine al_v (ov_assign rfl) rfl ?_)|(refine k_call ?_;first|(refine al_v (ov_len_str rfl) rfl ?_))|(refine al_v (ov_extract rfl rfl) rfl ?_)|(refine al_nil ?_)|(refine al_alloc rfl rfl rfl (by first|exact ln2|exact ln3) (by repeat constructor) rfl ?_)|(refine al_store rfl rfl rfl rfl rfl (by repeat constructor) (by repeat constructor) ?_)|(refine al_buildSlice (by rfl) (by rfl) (by rfl) (by rfl) (by decide) (by decide) (by rfl) (by rfl) (by repeat constructor) (by rfl) (by repeat constructor) (by rfl) (by first|exact ln2|exact ln3) (by repeat constructor) rfl ?_)|(refine al_v (ov_not_t rfl (by with_reducible rfl)) rfl ?_)|(refine al_v (ov_not_f rfl (by with_reducible rfl)) rfl ?_))|(first|(refine thn_n ?_)|(refine k_awp ?_;first|(refine awp_seq (awp_region ?_))|(refine awp_seq ?_)|(refine awp_region ?_)|(refine k_cond ?_;first|(refine awp_cond_t' rfl (by with_reducible rfl) ?_)|(refine awp_cond_f' rfl (by with_reducible rfl) ?_)|(refine awp_cond_p rfl (fun hc => ?_) (fun hc => ?_) <;> (try (exfalso;omega))))|(refine awp_block ?_)|(refine awp_ret ?_)|(refine awp_skip ?_)|(refine awp_exit ?_))|(refine thn_ret ?_)|(refine lq_exit ?_)|(refine lq_ret ?_)|(refine thn_exit ?_)|(refine inb_n ?_)|(refine inb_ret ?_)|(refine inb_here ?_)|(refine inb_out rfl ?_)))
        refine retq_wkn (.freeze 2 rfl (by repeat constructor)) ?_
        refine ret2 (by first | exact .inr rfl | exact .inl rfl) rfl rfl rfl ?_
        exact ⟨by rw [hTi], rfl⟩
      | got h b k =>
        dsimp only at hTf hN
        obtain ⟨hgd, hk4, hkl⟩ := hnf
        have hdl : (w'.drop k).length = w'.length - k := List.length_drop
        repeat' (first|(first|(refine k_call ?_;refine al_acall [0] rfl rfl hN (by repeat constructor) (by repeat constructor) rfl rfl ?_;rintro _ _ ⟨rfl, rfl⟩;refine ⟨_, _, by repeat constructor, by repeat constructor, ?_⟩)|(refine k_call ?_;refine al_append rfl rfl (by repeat constructor) (src_os rfl rfl) rfl (by decide) (by simp only [List.length_cons, List.length_nil];omega) rfl ?_))|(refine k_al ?_;first|(refine al_v (ov_move rfl) rfl ?_)|(refine k_load ?_;first|(refine al_v (ov_load_agg rfl rfl rfl) rfl ?_))|(refine k_bin ?_;first|(refine al_v (ov_cmp rfl rfl rfl) rfl ?_)|(refine al_v (ov_add rfl rfl (by (first|exact w64 (by omega) (by omega)|rfl))) rfl ?_))|(refine al_v (ov_assign rfl) rfl ?_)|(refine k_call ?_;first|(refine al_v (ov_len_str rfl) rfl ?_))|(refine al_v (ov_extract rfl rfl) rfl ?_)|(refine al_nil ?_)|(refine al_alloc rfl rfl rfl (by first|exact ln2|exact ln3) (by repeat constructor) rfl ?_)|(refine al_store rfl rfl rfl rfl rfl (by repeat constructor) (by repeat constructor) ?_)|(refine al_buildSlice (by rfl) (by rfl) (by rfl) (by rfl) (by decide) (by decide) (by rfl) (by rfl) (by repeat constructor) (by rfl) (by repeat constructor) (by rfl) (by first|exact ln2|exact ln3) (by repeat constructor) rfl ?_)|(refine al_v (ov_not_t rfl (by with_reducible rfl)) rfl ?_)|(refine al_v (ov_not_f rfl (by with_reducible rfl)) rfl ?_))|(first|(refine thn_n ?_)|(refine k_awp ?_;first|(refine awp_seq (awp_region ?_))|(refine awp_seq ?_)|(refine awp_region ?_)|(refine k_cond ?_;first|(refine awp_cond_t' rfl (by with_reducible rfl) ?_)|(refine awp_cond_f' rfl (by with_reducible rfl) ?_)|(refine awp_cond_p rfl (fun hc => ?_) (fun hc => ?_) <;> (try (exfalso;omega))))|(refine awp_block ?_)|(refine awp_ret ?_)|(refine awp_skip ?_)|(refine awp_exit ?_))|(refine thn_ret ?_)|(refine lq_exit ?_)|(refine lq_ret ?_)|(refine thn_exit ?_)|(refine inb_n ?_)|(refine inb_ret ?_)|(refine inb_here ?_)|(refine inb_out rfl ?_)))
        first|refine lq_back (w'.drop k, out' ++ [rqOf h b], ver' + 1, _) (.of (.same (by repeat constructor))) ?_ ?_|refine lq_back (w'.drop k, out' ++ [rqOf h b], ver' + 1, _) (.of (wk_drop [_] rfl (by repeat constructor) rfl (by repeat constructor) rfl)) ?_ ?_|refine lq_back (w'.drop k, out' ++ [rqOf h b], ver' + 1, _) (.of (wk_drop [_, _] rfl (by repeat constructor) rfl (by repeat constructor) rfl)) ?_ ?_|refine lq_back (w'.drop k, out' ++ [rqOf h b], ver' + 1, _) (.of (wk_drop [_, _, _] rfl (by repeat constructor) rfl (by repeat constructor) rfl)) ?_ ?_
        · refine ⟨?_, ?_, ?_, f, ?_, hTf⟩
          · dsimp only
            rw [hxs', List.map_append]
            rfl
          · simp only [List.length_append, List.length_cons, List.length_nil]; omega
          · dsimp only; omega
          · dsimp only; omega
        · dsimp only; omega
  · rw [List.drop_eq_nil_of_le (by omega), allF] at hTi
    subst hxs
    repeat' (first|(refine k_al ?_;first|(refine al_v (ov_move rfl) rfl ?_)|(refine k_load ?_;first|(refine al_v (ov_load_agg rfl rfl rfl) rfl ?_))|(refine k_bin ?_;first|(refine al_v (ov_cmp rfl rfl rfl) rfl ?_)|(refine al_v (ov_add rfl rfl (by (first|exact w64 (by omega) (by omega)|rfl))) rfl ?_))|(refine al_v (ov_assign rfl) rfl ?_)|(refine k_call ?_;first|(refine al_v (ov_len_str rfl) rfl ?_))|(refine al_v (ov_extract rfl rfl) rfl ?_)|(refine al_nil ?_)|(refine al_alloc rfl rfl rfl (by first|exact ln2|exact ln3) (by repeat constructor) rfl ?_)|(refine al_store rfl rfl rfl rfl rfl (by repeat constructor) (by repeat constructor) ?_)|(refine al_buildSlice (by rfl) (by rfl) (by rfl) (by rfl) (by decide) (by decide) (by rfl) (by rfl) (by repeat constructor) (by rfl) (by repeat constructor) (by rfl) (by first|exact ln2|exact ln3) (by repeat constructor) rfl ?_)|(refine al_v (ov_not_t rfl (by with_reducible rfl)) rfl ?_)|(refine al_v (ov_not_f rfl (by with_reducible rfl)) rfl ?_))|(first|(refine thn_n ?_)|(refine k_awp ?_;first|(refine awp_seq (awp_region ?_))|(refine awp_seq ?_)|(refine awp_region ?_)|(refine k_cond ?_;first|(refine awp_cond_t' rfl (by with_reducible rfl) ?_)|(refine awp_cond_f' rfl (by with_reducible rfl) ?_)|(refine awp_cond_p rfl (fun hc => ?_) (fun hc => ?_) <;> (try (exfalso;omega))))|(refine awp_block ?_)|(refine awp_ret ?_)|(refine awp_skip ?_)|(refine awp_exit ?_))|(refine thn_ret ?_)|(refine lq_exit ?_)|(refine lq_ret ?_)|(refine thn_exit ?_)|(refine inb_n ?_)|(refine inb_ret ?_)|(refine inb_here ?_)|(refine inb_out rfl ?_)))
    refine retq_wkn (.freeze 2 rfl (by repeat constructor)) ?_
    refine ret2 (by first | exact .inr rfl | exact .inl rfl) rfl rfl rfl ?_
    exact ⟨by rw [hTi], rfl⟩
end
end Go.Proofs.YtffcgpkbibijpaaGreatDoor.L

namespace Go.Proofs.YtffcgpkbibijpaaGreatDoor.L
open Go Go.RowKit Go.Proofs
set_option linter.unusedVariables false
set_option linter.unusedSimpArgs false
set_option maxRecDepth 100000
attribute [local irreducible] AL QL AWp Thn InB RetQ ACalls LoopQ HL HO HW HQ NoG JmpQ MidQ HF

section
variable {w0 : World} {base : Nat}
theorem s_awake8 (hG : Glob w0 base) : PCalls (EE w0 base) 20 [] fun rv => rv = .bool true := by
  have hA := s_allP (w0 := w0) (base := base) (s := getS ++ getS ++ [120]) hG (by decide)
  have hC := s_chunks (w0 := w0) (base := base) (s := chS1) (at' := 0) (by decide) (by decide)
  have h1 := aw_all.1
  have h2 := aw_all.2
  rw [aw_ch] at hC
  rw [h2] at hA
  revert hA h1
  generalize (allS (getS ++ getS ++ [120])).1 = l
  intro hA h1
  have hl2 : l.length = 2 := by have := congrArg List.length h1; simpa using this
  obtain ⟨x, y, rfl⟩ : ∃ x y, l = [x, y] := by
    match l, hl2 with
    | [a, b], _ => exact ⟨a, b, rfl⟩
  have hy : y.p = [47, 120] := by simp at h1; exact h1.2
  refine acalls_of Tryz.func20 rfl rfl rfl .nil ?_
  repeat' (first|(first|(refine al_v (ov_indexAddr (j := 1) rfl rfl (by decide) rfl rfl) rfl ?_)|(refine al_v (ov_indexAddr rfl rfl (by decide) rfl rfl) rfl ?_)|(refine k_call ?_;refine al_call rfl rfl rfl rfl hA ?_;rintro _ rfl)|(refine k_call ?_;refine al_call rfl rfl rfl rfl hC ?_;rintro _ rfl))|(refine k_al ?_;first|(refine al_v (ov_move rfl) rfl ?_)|(refine k_g ?_;first|(refine al_gy' rfl rfl (by with_reducible rfl) ?_)|(refine al_gnt rfl rfl (by with_reducible rfl) rfl ?_)|(refine al_gsp rfl rfl (fun hc => ?_) (fun hc => ?_) <;> (try (exfalso;omega))))|(refine al_v (ov_fieldAddr rfl rfl) rfl ?_)|(refine k_load ?_;first|(refine al_v (ov_load rfl rfl) rfl ?_))|(refine k_bin ?_;first|(refine al_v (ov_cmp rfl rfl rfl) rfl ?_)|(refine al_v (ov_seq rfl rfl) rfl ?_))|(refine k_pick ?_;first|(refine al_v (ov_pick_t' rfl (by with_reducible rfl) rfl) rfl ?_)|(refine al_v (ov_pick_f' rfl (by with_reducible rfl) rfl) rfl ?_))|(refine al_v (ov_assign rfl) rfl ?_)|(refine k_call ?_;first|(refine al_v (ov_len_rs rfl) rfl ?_))|(refine al_v (ov_extract rfl rfl) rfl ?_)|(refine al_nil ?_)|(refine al_v (ov_not_f rfl (by with_reducible rfl)) rfl ?_))|(first|(refine thn_n ?_)|(refine k_awp ?_;first|(refine awp_seq (awp_region ?_))|(refine awp_seq ?_)|(refine awp_region ?_)|(refine awp_ret ?_))))
  all_goals first
    | (refine ret1 (by first | exact .inr rfl | exact .inl rfl) rfl rfl ?_
       exact ⟨rfl, rfl⟩)
    | (exact absurd rfl (show ¬ _ from ‹¬ _›))
    | (exact absurd hy (show ¬ _ from ‹¬ _›))
end
end Go.Proofs.YtffcgpkbibijpaaGreatDoor.L

namespace Go.Proofs.YtffcgpkbibijpaaGreatDoor.L
open Go Go.RowKit Go.Proofs
set_option linter.unusedVariables false
set_option linter.unusedSimpArgs false
set_option maxRecDepth 100000
attribute [local irreducible] AL QL AWp Thn InB RetQ ACalls LoopQ HL HO HW HQ NoG JmpQ MidQ HF

section
variable {w0 : World} {base : Nat}
end
end Go.Proofs.YtffcgpkbibijpaaGreatDoor.L

namespace Go.Proofs.YtffcgpkbibijpaaGreatDoor.L
open Go Go.RowKit Go.Proofs
set_option linter.unusedVariables false
set_option linter.unusedSimpArgs false
set_option maxRecDepth 100000

theorem tgtQ_len {t : List UInt8} (h : tgtOk t = true) : (tgtQ t).length ≤ 32 := by
  unfold tgtOk at h
  unfold tgtQ
  split
  · rename_i h2
    simp only [h2, Bool.and_eq_true, Bool.not_true, Bool.false_or, formOk, decide_eq_true_eq] at h
    unfold formP
    rw [List.length_map]
    exact h.2.2.2.2.2
  · exact Nat.zero_le _
theorem rqOf_B {h : Hd} {b : List UInt8} (g : GoodH h) : RqB (rqOf h b) := by
  have h1 := g.f
  have h2 := tgtQ_len g.t
  exact ⟨by unfold rqOf; dsimp only; omega, by unfold rqOf; dsimp only; omega⟩
theorem drainF_B : ∀ (f : Nat) (s : List UInt8) (out : List Rq), (∀ x ∈ out, RqB x) → ∀ x ∈ (drainF f s out).1, RqB x := by
  intro f
  induction f with
  | zero => intro s out h; exact h
  | succ f ih =>
    intro s out h
    rw [drainF]
    have hf := nextL_facts s
    revert hf
    generalize nextL s = z
    intro hf
    cases z with
    | more => exact h
    | bad st => exact h
    | got hd b k =>
      refine ih _ _ fun x hx => ?_
      rcases List.mem_append.1 hx with hx | hx
      · exact h x hx
      · obtain rfl : x = rqOf hd b := by simpa using hx
        exact rqOf_B hf.1
theorem allF_B : ∀ (l w : List UInt8) (out : List Rq), (∀ x ∈ out, RqB x) → ∀ x ∈ (allF l w out).1, RqB x := by
  intro l
  induction l with
  | nil => intro w out h; exact h
  | cons c r ih =>
    intro w out h
    rw [allF]
    have hd := drainF_B (w.length + 2) (w ++ [c]) out h
    split
    · exact h
    · split
      · exact hd
      · exact ih _ _ hd
end Go.Proofs.YtffcgpkbibijpaaGreatDoor.L

namespace Go.Proofs.YtffcgpkbibijpaaGreatDoor.L
open Go Go.RowKit Go.Proofs
set_option linter.unusedVariables false
set_option linter.unusedSimpArgs false
set_option maxRecDepth 100000
attribute [local irreducible] AL QL AWp Thn InB RetQ ACalls LoopQ HL HO HW HQ NoG JmpQ MidQ HF

theorem drainF_len : ∀ (f : Nat) (s : List UInt8) (out : List Rq), (drainF f s out).1.length + (drainF f s out).2.1.length ≤ out.length + s.length := by
  intro f
  induction f with
  | zero => intro s out; exact Nat.le_refl _
  | succ f ih =>
    intro s out
    rw [drainF]
    have hf := nextL_facts s
    revert hf
    generalize nextL s = z
    intro hf
    cases z with
    | more => exact Nat.le_refl _
    | bad st => dsimp only; simp
    | got hd b k =>
      have := ih (s.drop k) (out ++ [rqOf hd b])
      have h2 := hf.2
      simp only [List.length_append, List.length_cons, List.length_nil, List.length_drop] at this
      dsimp only
      omega
theorem allF_len : ∀ (l w : List UInt8) (out : List Rq), (allF l w out).1.length ≤ out.length + w.length + l.length := by
  intro l
  induction l with
  | nil => intro w out; rw [allF]; dsimp only; omega
  | cons c r ih =>
    intro w out
    rw [allF]
    have hd := drainF_len (w.length + 2) (w ++ [c]) out
    simp only [List.length_append, List.length_cons, List.length_nil] at hd ⊢
    split
    · dsimp only; omega
    · split
      · dsimp only; omega
      · have := ih (drainF (w.length + 2) (w ++ [c]) out).2.1 (drainF (w.length + 2) (w ++ [c]) out).1
        omega
section
variable {w0 : World} {base : Nat}
end
end Go.Proofs.YtffcgpkbibijpaaGreatDoor.L

namespace Go.Proofs.YtffcgpkbibijpaaGreatDoor.L
open Go Go.RowKit
set_option linter.unusedVariables false
set_option linter.unusedSimpArgs false

/-- Slots as they are called behind a renaming. -/
inductive SubR (r : Nat → Nat) (sl : Slots) : Slots → Prop where
  | nil : SubR r sl []
  | cons {t : Nat} {x y : AV} {s : Slots} (h : lk sl t = some y) (e : Rn r x y) (k : SubR r sl s) : SubR r sl ((t, x) :: s)
theorem SubR.get {r : Nat → Nat} {sl s : Slots} (h : SubR r sl s) : ∀ t x, lk s t = some x → ∃ y, lk sl t = some y ∧ Rn r x y := by
  induction h with
  | nil => intro t x h; simp [lk] at h
  | @cons t x y s h e k ih =>
    intro t' x' h'
    rw [lk_cons] at h'
    by_cases q : t = t'
    · subst q
      rw [if_pos rfl] at h'
      injection h' with h'
      subst h'
      exact ⟨y, h, e⟩
    · rw [if_neg q] at h'
      exact ih t' x' h'
/-- The first k ids keep their names. -/
def keeps (ρ : List Nat) : Nat → Bool
  | 0 => true
  | k + 1 => match ρ[k]? with
    | some j => Nat.beq j k && keeps ρ k
    | none => false
theorem keeps_get {ρ : List Nat} : ∀ {k : Nat}, keeps ρ k = true → ∀ i, i < k → ρ[i]? = some i := by
  intro k
  induction k with
  | zero => intro _ i h; exact absurd h (Nat.not_lt_zero _)
  | succ k ih =>
    intro h i hi
    rw [keeps] at h
    split at h
    · rename_i j hj
      rw [Bool.and_eq_true] at h
      have := Nat.eq_of_beq_eq_true h.1
      subst this
      rcases Nat.lt_or_ge i j with h2 | h2
      · exact ih h.2 i h2
      · obtain rfl : i = j := by omega
        exact hj
    · cases h
section
variable {E : Env} {N : Nat}
/-- Objects renamed; those that ρ does not name are forgotten. -/
theorem Wkn.pick (ρ : List Nat) {sl sl' : Slots} {H os : List AO} (hp : PickO (rn ρ H.length) H ρ os) (hn : ndup ρ = true) (hk : keeps ρ E.k = true) (hs' : SubR (rn ρ H.length) sl sl') : Wkn E N ⟨sl, H⟩ ⟨sl', os⟩ := by
  intro I ν a w hs
  obtain ⟨h1, h2⟩ := hr_A hs.hr hp hn
  obtain ⟨g1, g2⟩ := hp.get
  refine ⟨I, nuC ρ ν, ⟨HR.env (E := E.at 0) (F := E) rfl rfl h1, fun t x hx => ?_, hs.df, hs.nt⟩, ⟨ImmLe.refl _ _, Nat.le_refl _, fun _ _ h => .inl h, fun _ _ _ => rfl, fun b hb => ?_, fun id hi hn' => ?_, fun id hi hg => ?_⟩⟩
  · obtain ⟨y, hy, hxy⟩ := hs'.get t x hx
    exact rn_A hs.hr.n (hs.sl t y hy) hxy
  · obtain ⟨i, j, o', _, k2, k3⟩ := h2 b hb
    exact .inl ⟨j, o', k2, k3⟩
  · have hr := keeps_get hk id hi
    have hl : id < ρ.length := (List.getElem?_eq_some_iff.1 hr).1
    refine ⟨hl, ?_, fun ver _ => ?_⟩
    · simp only [nuC, hr, Option.getD_some]; exact Nat.le_refl _
    · simp only [nuC, hr, Option.getD_some]
  · have hr := keeps_get hk id hi
    have hl : id < ρ.length := (List.getElem?_eq_some_iff.1 hr).1
    have hos : id < os.length := by omega
    refine ⟨by simp only [nuC, hr, Option.getD_some], ?_⟩
    show os[id]? = some .gone
    obtain ⟨j, o', k1, k2, k3⟩ := g2 id (os[id]'hos) (List.getElem?_eq_getElem hos)
    rw [hr] at k1
    injection k1 with k1
    subst k1
    rw [List.getElem?_eq_getElem hos]
    have : o' = .gone := Option.some.inj (k2.symm.trans hg)
    subst this
    revert k3
    generalize os[id]'hos = q
    intro k3
    cases k3
    rfl
variable {sl : Slots} {H : List AO}
/-- string(b), of bytes that never change. -/
theorem ov_conv_rs {src dst e n b n' b' n2 b2 : Nat} {z z' z2 : Value} [ts : TI E.P src (.slice e) n b z] [td : TI E.P dst .string n' b' z'] [te : TI E.P e (.int .u8) n2 b2 z2] {x : Operand} {l : List UInt8} (hx : ev sl x = some (.rs (bytesAV l))) :
    OV E sl H (.convert src dst x) (.str l) := by
  intro I ν a w hh hs
  have hx' := (ev_ok hs hx).rs_inv
  obtain ⟨v, hv⟩ : ∃ v, a.eval x = v := ⟨_, rfl⟩
  rw [hv] at hx'
  have hbl : (bytesAV l).length = l.length := List.length_map _
  refine ⟨_, .pure (.str l), fun o' w' ho hw => ?_⟩
  generalize hy : bytesAV l = ys at hx'
  cases hx' with
  | rs0 A c =>
    have hl0 : l = [] := List.eq_nil_of_length_eq_zero (by rw [← hbl, hy]; rfl)
    subst hl0
    have := run_convert_bytes_string (P := E.P) w' src dst e A 0 c ts.u te.u td.u
    cases A with
    | none =>
      simp [execOp, ho, hv, this, Conv.bytesToString]
      rfl
    | some A =>
      simp [execOp, ho, hv, this, Conv.bytesToString, loadCells, loadCellsFrom]
      rfl
  | rs _ sz bk off c us hsz0 hc hm hs2 hu hxx =>
    subst hy
    by_cases h0 : l = []
    · subst h0
      have := run_convert_bytes_string (P := E.P) w' src dst e (some ⟨bk, off, none⟩) 0 c ts.u te.u td.u
      simp [execOp, ho, hv, this, Conv.bytesToString, bytesAV, loadCells, loadCellsFrom]
      rfl
    · have hpos : 0 < l.length := List.length_pos_iff.2 h0
      have hsz : sz = 1 := by
        have h1 := List.getElem?_eq_getElem (l := bytesAV l) (i := 0) (by omega)
        have h2 := hs2 _ _ h1
        rw [← h2]
        exact bytes_row _ _ h1
      subst hsz
      have hcell : ∀ (j : Nat) (x : UInt8), l[j]? = some x → w'.cell? ((⟨bk, off, none⟩ : Addr).add j) = some (.int .u8 (x.toNat : Int)) := by
        intro j x hj
        have hjl : j < l.length := (List.getElem?_eq_some_iff.1 hj).1
        have hrow : (bytesAV l)[j]? = some [.int .u8 (x.toNat : Int)] := by unfold bytesAV; rw [List.getElem?_map, hj]; rfl
        have hu' := hu j (by rw [hbl]; omega)
        have hp := hxx j 0 _ _ hrow rfl
        rw [Nat.mul_one, Nat.add_zero] at hp
        rw [add_none, hw.imm _ _ hu'.2, hu'.1]
        generalize us j = q at hp
        cases hp
        rfl
      have := run_convert_bytes_back (P := E.P) w' src dst e ⟨bk, off, none⟩ c l ts.u te.u td.u (fun j hj => hcell j _ (List.getElem?_eq_getElem hj))
      rw [hbl] at hv
      simp [execOp, ho, hv, this]
theorem ov_conv_rsE {src dst e n b n' b' n2 b2 : Nat} {z z' z2 : Value} [ts : TI E.P src (.slice e) n b z] [td : TI E.P dst .string n' b' z'] [te : TI E.P e (.int .u8) n2 b2 z2] {x : Operand} {l : List UInt8} {xs : List (List AV)} (hx : ev sl x = some (.rs xs)) (he : xs = bytesAV l) :
    OV E sl H (.convert src dst x) (.str l) := ov_conv_rs (hx.trans (by rw [he]))
end
end Go.Proofs.YtffcgpkbibijpaaGreatDoor.L
