/- Part 4 of the texts behind the theorem of this claim: Layer 9 (reply): the document's: numbers, names, values, reasons, which responses may be;Layer 9 (reply): the document's May, Reason and Print;Layer 9 (reply): the document's Print;Layer 9 (reply): read, the program's;Layer 9 (reply): Parse, the program's;responses that are the same;awake;Layer 9 (reply): the document's Parse: what stands where, plain;Layer 13 (code): the document's one;Layer 13 (code): Parse, the document's;Layer 9 (reply): the document's Parse;Layer 21 (meter): the bound, the units, awake -/
import Derived.Test.YtnjolbnbpfjdiaaDoorQd3
import Derived.Lib.ItoaLen
import Derived.Lib.Space
import Derived.Test.YtnjolbnbpfjdiaaDoorQd2
set_option linter.unusedVariables false
set_option linter.unusedSimpArgs false
namespace Go.Proofs.YtnjolbnbpfjdiaaDoor.L
open Go Go.RowKit Go.Proofs
set_option linter.unusedVariables false
set_option linter.unusedSimpArgs false
set_option maxRecDepth 100000
attribute [local irreducible] AL QL AWp Thn InB RetQ ACalls LoopQ HL HO HW HQ NoG JmpQ MidQ HF

/-- The number of at most eight digits. -/
def digR (s : List UInt8) : Int := if s.all digB = true ∧ 1 ≤ s.length ∧ s.length ≤ 8 then (fv 0 s : Int) else -1
theorem fv_lt : ∀ (l : List UInt8) (m : Nat), l.all digB = true → fv m l < (m + 1) * 10 ^ l.length := by
  intro l
  induction l with
  | nil => intro m _; rw [List.length_nil, Nat.pow_zero, Nat.mul_one]; exact Nat.lt_succ_self m
  | cons c l ih =>
    intro m h
    rw [List.all_cons, Bool.and_eq_true] at h
    have h1 := digB_iff.1 h.1
    rw [fv_cons]
    refine Nat.lt_of_lt_of_le (ih _ h.2) ?_
    rw [List.length_cons, Nat.pow_succ, Nat.mul_comm (10 ^ l.length) 10, ← Nat.mul_assoc]
    exact Nat.mul_le_mul_right _ (by omega)
theorem fv_lt8 {l : List UInt8} (h : l.all digB = true) (h8 : l.length ≤ 8) : fv 0 l < 100000000 := by
  have h1 := fv_lt l 0 h
  have h2 : 10 ^ l.length ≤ 10 ^ 8 := Nat.pow_le_pow_right (by decide) h8
  have e : (10 : Nat) ^ 8 = 100000000 := by decide
  omega
theorem digR_bound (s : List UInt8) : -1 ≤ digR s ∧ digR s < 100000000 := by
  unfold digR
  split
  · rename_i h
    have := fv_lt8 h.1 h.2.2
    omega
  · omega
theorem digR_itoa {n : Nat} (h : n ≤ 1048576) : digR (Lib.itoa (n : Int)) = n := by
  have h2 : Lib.itoa (n : Int) = Lib.decDigits n := rfl
  obtain ⟨d, e, _⟩ := dec_is n
  have hl : 1 ≤ (Lib.decDigits n).length := List.length_pos_iff.2 d.ne
  have hle : (Lib.decDigits n).length ≤ 8 := by
    rcases Nat.lt_or_ge 8 (Lib.decDigits n).length with h8 | h8
    · exfalso
      have hbig : ∀ (l : List UInt8) (m : Nat), l.all digB = true → m * 10 ^ l.length ≤ fv m l := by
        intro l
        induction l with
        | nil => intro m _; rw [List.length_nil, Nat.pow_zero, Nat.mul_one]; exact Nat.le_refl _
        | cons c l ih =>
          intro m hh
          rw [List.all_cons, Bool.and_eq_true] at hh
          rw [fv_cons]
          refine Nat.le_trans ?_ (ih _ hh.2)
          rw [List.length_cons, Nat.pow_succ, Nat.mul_comm (10 ^ l.length) 10, ← Nat.mul_assoc]
          exact Nat.mul_le_mul_right _ (by omega)
      match hq : Lib.decDigits n, d, e, h8 with
      | c :: r, d, e, h8 =>
        have hc := d.lead (by omega)
        have hd := d.dig
        rw [List.all_cons, Bool.and_eq_true] at hd
        have hdg := digB_iff.1 hd.1
        have hc1 : 1 ≤ c.toNat - 48 := by
          have : c.toNat ≠ 48 := fun k => hc (by rw [List.head?_cons]; exact congrArg some (UInt8.toNat_inj.1 k))
          omega
        rw [fv_cons, Nat.mul_zero, Nat.zero_add] at e
        have h3 := hbig r (c.toNat - 48) hd.2
        have h4 : 10 ^ 8 ≤ 10 ^ r.length := Nat.pow_le_pow_right (by decide) (by rw [List.length_cons] at h8; omega)
        have e8 : (10 : Nat) ^ 8 = 100000000 := by decide
        have h5 : 1 * 10 ^ r.length ≤ (c.toNat - 48) * 10 ^ r.length := Nat.mul_le_mul_right _ hc1
        omega
    · exact h8
  unfold digR
  rw [h2, if_pos ⟨d.dig, hl, hle⟩, e]
theorem ok_tok : ∀ c : UInt8, okN c = (pToken c && decide (lowB c = c)) := by
  refine u8_all ?_
  decide +kernel
theorem all_tok (s : List UInt8) : s.all okN = (s.all pToken && decide (smallS s = s)) := by
  induction s with
  | nil => rfl
  | cons c s ih =>
    rw [List.all_cons, List.all_cons, ih, ok_tok]
    unfold smallS
    rw [List.map_cons]
    by_cases h1 : lowB c = c
    · by_cases h2 : s.map lowB = s
      · rw [h1, h2]; simp
      · have : ¬ c :: s.map lowB = c :: s := fun k => h2 (by injection k)
        rw [h1]; simp [h2, this]
    · have : ¬ lowB c :: s.map lowB = c :: s := fun k => h1 (by injection k)
      simp [h1, this]
section
variable {w0 : World} {base : Nat}
set_option maxHeartbeats 4000000 in
theorem s_digits {s : List UInt8} (hs : s.length ≤ 140737488351232) : PCalls (EE w0 base) 62 [.str s] fun rv => rv = .int .i64 (digR s) := by
  refine acalls_of Tryd.func62 rfl rfl rfl (.cons .nil) ?_
  repeat' (first|(refine k_al ?_;first|(refine al_v (ov_move rfl) rfl ?_)|(refine k_g ?_;first|(refine al_gy' rfl rfl (by with_reducible rfl) ?_)|(refine al_gnf rfl rfl (by with_reducible rfl) rfl ?_)|(refine al_gsp rfl rfl (fun hc => ?_) (fun hc => ?_) <;> (try (exfalso;omega))))|(refine k_bin ?_;first|(refine al_v (ov_cmp rfl rfl rfl) rfl ?_)|(refine al_v (ov_add rfl rfl (by (first|exact w64 (by omega) (by omega)|exact w8 (by omega) (by omega)|rfl))) rfl ?_)|(refine al_v (ov_sub rfl rfl (by (first|exact w64 (by omega) (by omega)|exact w8 (by omega) (by omega)|rfl))) rfl ?_)|(refine al_v (ov_mul rfl rfl (by (first|exact w64 (by omega) (by omega)|exact w8 (by omega) (by omega)|rfl))) rfl ?_))|(refine k_pick ?_;first|(refine al_v (ov_pick_t' rfl (by with_reducible rfl) rfl) rfl ?_)|(refine al_v (ov_pick_f' rfl (by with_reducible rfl) rfl) rfl ?_))|(refine al_v (ov_assign rfl) rfl ?_)|(refine k_call ?_;first|(refine al_v (ov_len_str rfl) rfl ?_))|(refine al_nil ?_)|(refine al_v (ov_index rfl rfl (by omega) (by omega)) rfl ?_))|(first|(refine thn_n ?_)|(refine k_awp ?_;first|(refine awp_seq (awp_region ?_))|(refine awp_seq ?_)|(refine awp_region ?_)|(refine k_cond ?_;first|(refine awp_cond_t' rfl (by with_reducible rfl) ?_)|(refine awp_cond_f' rfl (by with_reducible rfl) ?_))|(refine awp_block ?_)|(refine awp_ret ?_)|(refine awp_skip ?_)|(refine awp_exit ?_))|(refine thn_ret ?_)|(refine lq_exit ?_)|(refine lq_ret ?_)|(refine thn_exit ?_)|(refine inb_n ?_)|(refine inb_ret ?_)|(refine inb_here ?_)))
  refine awp_loopq (fun q : Nat × Int => ⟨[(0, .str s), (3, .int .i64 q.2), (4, .int .i64 q.1)], []⟩) (fun q => q.1 ≤ s.length ∧ (s.take q.1).all digB = true ∧ (q.1 ≤ 8 → q.2 = (fv 0 (s.take q.1) : Int))) (fun q => s.length - q.1) (0, 0) (.of (.same (by repeat constructor))) ⟨Nat.zero_le _, rfl, fun _ => rfl⟩ ?_
  rintro ⟨i, n⟩ ⟨hi, hd, hn⟩
  dsimp only at hi hd hn ⊢
  by_cases hlt : i < s.length
  · obtain ⟨c, hcc⟩ : ∃ c, s[i]? = some c := ⟨_, List.getElem?_eq_getElem hlt⟩
    have hb := byte_at hcc
    have hc255 := c.toNat_lt
    cases hg : digB c with
    | false =>
      have hno : ¬ (48 ≤ c.toNat ∧ c.toNat ≤ 57) := fun k => by rw [digB_iff.2 k] at hg; cases hg
      have hR : digR s = -1 := by unfold digR; rw [if_neg (fun k => by have := all_not hcc hg; rw [this] at k; exact absurd k.1 (by decide))]
      repeat' (first|((refine k_bin ?_;first|(refine al_v (ov_cmp_t rfl rfl rfl (by omega)) rfl ?_)|(refine al_v (ov_cmp_f rfl rfl rfl (by omega)) rfl ?_)))|(refine k_al ?_;first|(refine al_v (ov_move rfl) rfl ?_)|(refine k_g ?_;first|(refine al_gy' rfl rfl (by with_reducible rfl) ?_)|(refine al_gnf rfl rfl (by with_reducible rfl) rfl ?_)|(refine al_gsp rfl rfl (fun hc => ?_) (fun hc => ?_) <;> (try (exfalso;omega))))|(refine k_bin ?_;first|(refine al_v (ov_cmp rfl rfl rfl) rfl ?_)|(refine al_v (ov_add rfl rfl (by (first|exact w64 (by omega) (by omega)|exact w8 (by omega) (by omega)|rfl))) rfl ?_)|(refine al_v (ov_sub rfl rfl (by (first|exact w64 (by omega) (by omega)|exact w8 (by omega) (by omega)|rfl))) rfl ?_)|(refine al_v (ov_mul rfl rfl (by (first|exact w64 (by omega) (by omega)|exact w8 (by omega) (by omega)|rfl))) rfl ?_))|(refine k_pick ?_;first|(refine al_v (ov_pick_t' rfl (by with_reducible rfl) rfl) rfl ?_)|(refine al_v (ov_pick_f' rfl (by with_reducible rfl) rfl) rfl ?_))|(refine al_v (ov_assign rfl) rfl ?_)|(refine k_call ?_;first|(refine al_v (ov_len_str rfl) rfl ?_))|(refine al_nil ?_)|(refine al_v (ov_index rfl rfl (by omega) (by omega)) rfl ?_))|(first|(refine thn_n ?_)|(refine k_awp ?_;first|(refine awp_seq (awp_region ?_))|(refine awp_seq ?_)|(refine awp_region ?_)|(refine k_cond ?_;first|(refine awp_cond_t' rfl (by with_reducible rfl) ?_)|(refine awp_cond_f' rfl (by with_reducible rfl) ?_))|(refine awp_block ?_)|(refine awp_ret ?_)|(refine awp_skip ?_)|(refine awp_exit ?_))|(refine thn_ret ?_)|(refine lq_exit ?_)|(refine lq_ret ?_)|(refine thn_exit ?_)|(refine inb_n ?_)|(refine inb_ret ?_)|(refine inb_here ?_)))
      all_goals
        refine ret1 (by first | exact .inr rfl | exact .inl rfl) rfl rfl ?_
        exact ⟨by rw [hR], rfl⟩
    | true =>
      have hyes := digB_iff.1 hg
      have hsn : s.take (i + 1) = s.take i ++ [c] := by rw [List.take_add_one, hcc]; rfl
      have hfv : fv 0 (s.take (i + 1)) = 10 * fv 0 (s.take i) + (c.toNat - 48) := by rw [hsn, fv_snoc]
      by_cases h8 : i < 8
      · have hn := hn (by omega)
        have hlt8 := fv_lt8 hd (by simp only [List.length_take]; omega)
        subst hn
        repeat' (first|(first|(refine k_bin ?_;first|(refine al_v (ov_cmp_t rfl rfl rfl (by omega)) rfl ?_)|(refine al_v (ov_cmp_f rfl rfl rfl (by omega)) rfl ?_))|(refine al_v (ov_conv_int rfl (by (first|exact w64 (by omega) (by omega)|exact w8 (by omega) (by omega)|rfl))) rfl ?_))|(refine k_al ?_;first|(refine al_v (ov_move rfl) rfl ?_)|(refine k_g ?_;first|(refine al_gy' rfl rfl (by with_reducible rfl) ?_)|(refine al_gnf rfl rfl (by with_reducible rfl) rfl ?_)|(refine al_gsp rfl rfl (fun hc => ?_) (fun hc => ?_) <;> (try (exfalso;omega))))|(refine k_bin ?_;first|(refine al_v (ov_cmp rfl rfl rfl) rfl ?_)|(refine al_v (ov_add rfl rfl (by (first|exact w64 (by omega) (by omega)|exact w8 (by omega) (by omega)|rfl))) rfl ?_)|(refine al_v (ov_sub rfl rfl (by (first|exact w64 (by omega) (by omega)|exact w8 (by omega) (by omega)|rfl))) rfl ?_)|(refine al_v (ov_mul rfl rfl (by (first|exact w64 (by omega) (by omega)|exact w8 (by omega) (by omega)|rfl))) rfl ?_))|(refine k_pick ?_;first|(refine al_v (ov_pick_t' rfl (by with_reducible rfl) rfl) rfl ?_)|(refine al_v (ov_pick_f' rfl (by with_reducible rfl) rfl) rfl ?_))|(refine al_v (ov_assign rfl) rfl ?_)|(refine k_call ?_;first|(refine al_v (ov_len_str rfl) rfl ?_))|(refine al_nil ?_)|(refine al_v (ov_index rfl rfl (by omega) (by omega)) rfl ?_))|(first|(refine thn_n ?_)|(refine k_awp ?_;first|(refine awp_seq (awp_region ?_))|(refine awp_seq ?_)|(refine awp_region ?_)|(refine k_cond ?_;first|(refine awp_cond_t' rfl (by with_reducible rfl) ?_)|(refine awp_cond_f' rfl (by with_reducible rfl) ?_))|(refine awp_block ?_)|(refine awp_ret ?_)|(refine awp_skip ?_)|(refine awp_exit ?_))|(refine thn_ret ?_)|(refine lq_exit ?_)|(refine lq_ret ?_)|(refine thn_exit ?_)|(refine inb_n ?_)|(refine inb_ret ?_)|(refine inb_here ?_)))
        refine lq_back (i + 1, _) (.of (.same (by repeat constructor))) ?_ ?_
        · exact ⟨by dsimp only; omega, by dsimp only; rw [all_take hd hcc, hg], fun _ => by dsimp only; rw [hfv]; omega⟩
        · dsimp only; omega
      · repeat' (first|(first|(refine k_bin ?_;first|(refine al_v (ov_cmp_t rfl rfl rfl (by omega)) rfl ?_)|(refine al_v (ov_cmp_f rfl rfl rfl (by omega)) rfl ?_))|(refine al_v (ov_conv_int rfl (by (first|exact w64 (by omega) (by omega)|exact w8 (by omega) (by omega)|rfl))) rfl ?_))|(refine k_al ?_;first|(refine al_v (ov_move rfl) rfl ?_)|(refine k_g ?_;first|(refine al_gy' rfl rfl (by with_reducible rfl) ?_)|(refine al_gnf rfl rfl (by with_reducible rfl) rfl ?_)|(refine al_gsp rfl rfl (fun hc => ?_) (fun hc => ?_) <;> (try (exfalso;omega))))|(refine k_bin ?_;first|(refine al_v (ov_cmp rfl rfl rfl) rfl ?_)|(refine al_v (ov_add rfl rfl (by (first|exact w64 (by omega) (by omega)|exact w8 (by omega) (by omega)|rfl))) rfl ?_)|(refine al_v (ov_sub rfl rfl (by (first|exact w64 (by omega) (by omega)|exact w8 (by omega) (by omega)|rfl))) rfl ?_)|(refine al_v (ov_mul rfl rfl (by (first|exact w64 (by omega) (by omega)|exact w8 (by omega) (by omega)|rfl))) rfl ?_))|(refine k_pick ?_;first|(refine al_v (ov_pick_t' rfl (by with_reducible rfl) rfl) rfl ?_)|(refine al_v (ov_pick_f' rfl (by with_reducible rfl) rfl) rfl ?_))|(refine al_v (ov_assign rfl) rfl ?_)|(refine k_call ?_;first|(refine al_v (ov_len_str rfl) rfl ?_))|(refine al_nil ?_)|(refine al_v (ov_index rfl rfl (by omega) (by omega)) rfl ?_))|(first|(refine thn_n ?_)|(refine k_awp ?_;first|(refine awp_seq (awp_region ?_))|(refine awp_seq ?_)|(refine awp_region ?_)|(refine k_cond ?_;first|(refine awp_cond_t' rfl (by with_reducible rfl) ?_)|(refine awp_cond_f' rfl (by with_reducible rfl) ?_))|(refine awp_block ?_)|(refine awp_ret ?_)|(refine awp_skip ?_)|(refine awp_exit ?_))|(refine thn_ret ?_)|(refine lq_exit ?_)|(refine lq_ret ?_)|(refine thn_exit ?_)|(refine inb_n ?_)|(refine inb_ret ?_)|(refine inb_here ?_)))
        refine lq_back (i + 1, _) (.of (.same (by repeat constructor))) ?_ ?_
        · exact ⟨by dsimp only; omega, by dsimp only; rw [all_take hd hcc, hg], fun k => by dsimp only at k; omega⟩
        · dsimp only; omega
  · rw [List.take_of_length_le (by omega)] at hd hn
    by_cases hl : 1 ≤ s.length ∧ s.length ≤ 8
    · have hn := hn (by omega)
      have hR : digR s = (fv 0 s : Int) := by unfold digR; rw [if_pos ⟨hd, hl⟩]
      repeat' (first|((refine k_bin ?_;first|(refine al_v (ov_cmp_t rfl rfl rfl (by omega)) rfl ?_)|(refine al_v (ov_cmp_f rfl rfl rfl (by omega)) rfl ?_)))|(refine k_al ?_;first|(refine al_v (ov_move rfl) rfl ?_)|(refine k_g ?_;first|(refine al_gy' rfl rfl (by with_reducible rfl) ?_)|(refine al_gnf rfl rfl (by with_reducible rfl) rfl ?_)|(refine al_gsp rfl rfl (fun hc => ?_) (fun hc => ?_) <;> (try (exfalso;omega))))|(refine k_bin ?_;first|(refine al_v (ov_cmp rfl rfl rfl) rfl ?_)|(refine al_v (ov_add rfl rfl (by (first|exact w64 (by omega) (by omega)|exact w8 (by omega) (by omega)|rfl))) rfl ?_)|(refine al_v (ov_sub rfl rfl (by (first|exact w64 (by omega) (by omega)|exact w8 (by omega) (by omega)|rfl))) rfl ?_)|(refine al_v (ov_mul rfl rfl (by (first|exact w64 (by omega) (by omega)|exact w8 (by omega) (by omega)|rfl))) rfl ?_))|(refine k_pick ?_;first|(refine al_v (ov_pick_t' rfl (by with_reducible rfl) rfl) rfl ?_)|(refine al_v (ov_pick_f' rfl (by with_reducible rfl) rfl) rfl ?_))|(refine al_v (ov_assign rfl) rfl ?_)|(refine k_call ?_;first|(refine al_v (ov_len_str rfl) rfl ?_))|(refine al_nil ?_)|(refine al_v (ov_index rfl rfl (by omega) (by omega)) rfl ?_))|(first|(refine thn_n ?_)|(refine k_awp ?_;first|(refine awp_seq (awp_region ?_))|(refine awp_seq ?_)|(refine awp_region ?_)|(refine k_cond ?_;first|(refine awp_cond_t' rfl (by with_reducible rfl) ?_)|(refine awp_cond_f' rfl (by with_reducible rfl) ?_))|(refine awp_block ?_)|(refine awp_ret ?_)|(refine awp_skip ?_)|(refine awp_exit ?_))|(refine thn_ret ?_)|(refine lq_exit ?_)|(refine lq_ret ?_)|(refine thn_exit ?_)|(refine inb_n ?_)|(refine inb_ret ?_)|(refine inb_here ?_)))
      refine ret1 (by first | exact .inr rfl | exact .inl rfl) rfl rfl ?_
      exact ⟨by rw [hR, hn], rfl⟩
    · have hR : digR s = -1 := by unfold digR; rw [if_neg (fun k => hl k.2)]
      have hl2 : s.length < 1 ∨ 8 < s.length := by omega
      rcases hl2 with hl2 | hl2
      all_goals
        repeat' (first|((refine k_bin ?_;first|(refine al_v (ov_cmp_t rfl rfl rfl (by omega)) rfl ?_)|(refine al_v (ov_cmp_f rfl rfl rfl (by omega)) rfl ?_)))|(refine k_al ?_;first|(refine al_v (ov_move rfl) rfl ?_)|(refine k_g ?_;first|(refine al_gy' rfl rfl (by with_reducible rfl) ?_)|(refine al_gnf rfl rfl (by with_reducible rfl) rfl ?_)|(refine al_gsp rfl rfl (fun hc => ?_) (fun hc => ?_) <;> (try (exfalso;omega))))|(refine k_bin ?_;first|(refine al_v (ov_cmp rfl rfl rfl) rfl ?_)|(refine al_v (ov_add rfl rfl (by (first|exact w64 (by omega) (by omega)|exact w8 (by omega) (by omega)|rfl))) rfl ?_)|(refine al_v (ov_sub rfl rfl (by (first|exact w64 (by omega) (by omega)|exact w8 (by omega) (by omega)|rfl))) rfl ?_)|(refine al_v (ov_mul rfl rfl (by (first|exact w64 (by omega) (by omega)|exact w8 (by omega) (by omega)|rfl))) rfl ?_))|(refine k_pick ?_;first|(refine al_v (ov_pick_t' rfl (by with_reducible rfl) rfl) rfl ?_)|(refine al_v (ov_pick_f' rfl (by with_reducible rfl) rfl) rfl ?_))|(refine al_v (ov_assign rfl) rfl ?_)|(refine k_call ?_;first|(refine al_v (ov_len_str rfl) rfl ?_))|(refine al_nil ?_)|(refine al_v (ov_index rfl rfl (by omega) (by omega)) rfl ?_))|(first|(refine thn_n ?_)|(refine k_awp ?_;first|(refine awp_seq (awp_region ?_))|(refine awp_seq ?_)|(refine awp_region ?_)|(refine k_cond ?_;first|(refine awp_cond_t' rfl (by with_reducible rfl) ?_)|(refine awp_cond_f' rfl (by with_reducible rfl) ?_))|(refine awp_block ?_)|(refine awp_ret ?_)|(refine awp_skip ?_)|(refine awp_exit ?_))|(refine thn_ret ?_)|(refine lq_exit ?_)|(refine lq_ret ?_)|(refine thn_exit ?_)|(refine inb_n ?_)|(refine inb_ret ?_)|(refine inb_here ?_)))
        refine ret1 (by first | exact .inr rfl | exact .inl rfl) rfl rfl ?_
        exact ⟨by rw [hR], rfl⟩
set_option maxHeartbeats 4000000 in
theorem s_valueR {s : List UInt8} (hs : s.length ≤ 140737488351232) : PCalls (EE w0 base) 109 [.str s] fun rv => rv = .bool (valueY s) := by
  have hT : PCalls (EE w0 base) 52 [.str s] fun rv => rv = .str (bareI s) := s_trimR hs
  refine acalls_of Tryd.func109 rfl rfl rfl (.cons .nil) ?_
  repeat' (first|(refine k_al ?_;first|(refine al_v (ov_move rfl) rfl ?_)|(refine k_g ?_;first|(refine al_gy' rfl rfl (by with_reducible rfl) ?_)|(refine al_gnt rfl rfl (by with_reducible rfl) rfl ?_)|(refine al_gnf rfl rfl (by with_reducible rfl) rfl ?_))|(refine k_bin ?_;first|(refine al_v (ov_add rfl rfl (by (first|exact w64 (by omega) (by omega)|rfl))) rfl ?_)|(refine al_v (ov_seq rfl rfl) rfl ?_))|(refine k_pick ?_;first|(refine al_v (ov_pick_t' rfl (by with_reducible rfl) rfl) rfl ?_)|(refine al_v (ov_pick_f' rfl (by with_reducible rfl) rfl) rfl ?_))|(refine al_v (ov_assign rfl) rfl ?_)|(refine k_call ?_;first|(refine al_v (ov_len_str rfl) rfl ?_))|(refine al_nil ?_)|(refine al_v (ov_index rfl rfl (by omega) (by omega)) rfl ?_))|(first|(refine thn_n ?_)|(refine k_awp ?_;first|(refine awp_seq (awp_region ?_))|(refine awp_seq ?_)|(refine awp_region ?_)|(refine k_cond ?_;first|(refine awp_cond_t' rfl (by with_reducible rfl) ?_)|(refine awp_cond_f' rfl (by with_reducible rfl) ?_))|(refine awp_block ?_)|(refine awp_ret ?_)|(refine awp_skip ?_)|(refine awp_exit ?_))|(refine thn_ret ?_)|(refine lq_exit ?_)|(refine lq_ret ?_)|(refine thn_exit ?_)|(refine inb_n ?_)|(refine inb_ret ?_)|(refine inb_here ?_)))
  refine awp_loopq (fun k : Nat => ⟨[(0, .str s), (3, .int .i64 k)], []⟩) (fun k => k ≤ s.length ∧ (s.take k).all okV = true) (fun k => s.length - k) 0 (.of (.same (by repeat constructor))) ⟨Nat.zero_le _, rfl⟩ ?_
  rintro k ⟨hk, hok⟩
  try dsimp only
  by_cases hlt : k < s.length
  · obtain ⟨c, hcc⟩ : ∃ c, s[k]? = some c := ⟨_, List.getElem?_eq_getElem hlt⟩
    have hb := byte_at hcc
    have hiff : okV c = true ↔ c.toNat = 9 ∨ (32 ≤ c.toNat ∧ c.toNat ≤ 126) := by
      unfold okV
      simp only [Bool.or_eq_true, Bool.and_eq_true, decide_eq_true_eq]
    cases ho : okV c with
    | false =>
      have hno : ¬ (c.toNat = 9 ∨ (32 ≤ c.toNat ∧ c.toNat ≤ 126)) := fun h => by rw [hiff.2 h] at ho; cases ho
      have h2 : c.toNat < 33 ∨ 33 ≤ c.toNat := by omega
      rcases h2 with h2 | h2
      all_goals
        repeat' (first|((refine k_bin ?_;first|(refine al_v (ov_cmp_t rfl rfl rfl (by omega)) rfl ?_)|(refine al_v (ov_cmp_f rfl rfl rfl (by omega)) rfl ?_)))|(refine k_al ?_;first|(refine al_v (ov_move rfl) rfl ?_)|(refine k_g ?_;first|(refine al_gy' rfl rfl (by with_reducible rfl) ?_)|(refine al_gnt rfl rfl (by with_reducible rfl) rfl ?_)|(refine al_gnf rfl rfl (by with_reducible rfl) rfl ?_))|(refine k_bin ?_;first|(refine al_v (ov_add rfl rfl (by (first|exact w64 (by omega) (by omega)|rfl))) rfl ?_)|(refine al_v (ov_seq rfl rfl) rfl ?_))|(refine k_pick ?_;first|(refine al_v (ov_pick_t' rfl (by with_reducible rfl) rfl) rfl ?_)|(refine al_v (ov_pick_f' rfl (by with_reducible rfl) rfl) rfl ?_))|(refine al_v (ov_assign rfl) rfl ?_)|(refine k_call ?_;first|(refine al_v (ov_len_str rfl) rfl ?_))|(refine al_nil ?_)|(refine al_v (ov_index rfl rfl (by omega) (by omega)) rfl ?_))|(first|(refine thn_n ?_)|(refine k_awp ?_;first|(refine awp_seq (awp_region ?_))|(refine awp_seq ?_)|(refine awp_region ?_)|(refine k_cond ?_;first|(refine awp_cond_t' rfl (by with_reducible rfl) ?_)|(refine awp_cond_f' rfl (by with_reducible rfl) ?_))|(refine awp_block ?_)|(refine awp_ret ?_)|(refine awp_skip ?_)|(refine awp_exit ?_))|(refine thn_ret ?_)|(refine lq_exit ?_)|(refine lq_ret ?_)|(refine thn_exit ?_)|(refine inb_n ?_)|(refine inb_ret ?_)|(refine inb_here ?_)))
      all_goals
        refine ret1 (by first | exact .inr rfl | exact .inl rfl) rfl rfl ?_
        exact ⟨by unfold valueY; rw [all_not hcc ho]; rfl, rfl⟩
    | true =>
      have hyes := hiff.1 ho
      have h2 : c.toNat = 9 ∨ c.toNat = 32 ∨ (33 ≤ c.toNat ∧ c.toNat ≤ 126) := by omega
      rcases h2 with h2 | h2 | h2
      all_goals
        repeat' (first|((refine k_bin ?_;first|(refine al_v (ov_cmp_t rfl rfl rfl (by omega)) rfl ?_)|(refine al_v (ov_cmp_f rfl rfl rfl (by omega)) rfl ?_)))|(refine k_al ?_;first|(refine al_v (ov_move rfl) rfl ?_)|(refine k_g ?_;first|(refine al_gy' rfl rfl (by with_reducible rfl) ?_)|(refine al_gnt rfl rfl (by with_reducible rfl) rfl ?_)|(refine al_gnf rfl rfl (by with_reducible rfl) rfl ?_))|(refine k_bin ?_;first|(refine al_v (ov_add rfl rfl (by (first|exact w64 (by omega) (by omega)|rfl))) rfl ?_)|(refine al_v (ov_seq rfl rfl) rfl ?_))|(refine k_pick ?_;first|(refine al_v (ov_pick_t' rfl (by with_reducible rfl) rfl) rfl ?_)|(refine al_v (ov_pick_f' rfl (by with_reducible rfl) rfl) rfl ?_))|(refine al_v (ov_assign rfl) rfl ?_)|(refine k_call ?_;first|(refine al_v (ov_len_str rfl) rfl ?_))|(refine al_nil ?_)|(refine al_v (ov_index rfl rfl (by omega) (by omega)) rfl ?_))|(first|(refine thn_n ?_)|(refine k_awp ?_;first|(refine awp_seq (awp_region ?_))|(refine awp_seq ?_)|(refine awp_region ?_)|(refine k_cond ?_;first|(refine awp_cond_t' rfl (by with_reducible rfl) ?_)|(refine awp_cond_f' rfl (by with_reducible rfl) ?_))|(refine awp_block ?_)|(refine awp_ret ?_)|(refine awp_skip ?_)|(refine awp_exit ?_))|(refine thn_ret ?_)|(refine lq_exit ?_)|(refine lq_ret ?_)|(refine thn_exit ?_)|(refine inb_n ?_)|(refine inb_ret ?_)|(refine inb_here ?_)))
      all_goals
        first | refine lq_back (k + 1) (.of (.same (by repeat constructor))) ?_ ?_ | fail
        · exact ⟨by omega, by rw [all_take hok hcc, ho]⟩
        · omega
  · rw [List.take_of_length_le (by omega)] at hok
    have hn : valueY s = decide (bareI s = s) := by unfold valueY; rw [hok]; rfl
    repeat' (first|(first|(refine k_bin ?_;first|(refine al_v (ov_cmp_t rfl rfl rfl (by omega)) rfl ?_)|(refine al_v (ov_cmp_f rfl rfl rfl (by omega)) rfl ?_))|(refine k_call ?_;refine al_call rfl rfl rfl rfl hT ?_;rintro _ rfl))|(refine k_al ?_;first|(refine al_v (ov_move rfl) rfl ?_)|(refine k_g ?_;first|(refine al_gy' rfl rfl (by with_reducible rfl) ?_)|(refine al_gnt rfl rfl (by with_reducible rfl) rfl ?_)|(refine al_gnf rfl rfl (by with_reducible rfl) rfl ?_))|(refine k_bin ?_;first|(refine al_v (ov_add rfl rfl (by (first|exact w64 (by omega) (by omega)|rfl))) rfl ?_)|(refine al_v (ov_seq rfl rfl) rfl ?_))|(refine k_pick ?_;first|(refine al_v (ov_pick_t' rfl (by with_reducible rfl) rfl) rfl ?_)|(refine al_v (ov_pick_f' rfl (by with_reducible rfl) rfl) rfl ?_))|(refine al_v (ov_assign rfl) rfl ?_)|(refine k_call ?_;first|(refine al_v (ov_len_str rfl) rfl ?_))|(refine al_nil ?_)|(refine al_v (ov_index rfl rfl (by omega) (by omega)) rfl ?_))|(first|(refine thn_n ?_)|(refine k_awp ?_;first|(refine awp_seq (awp_region ?_))|(refine awp_seq ?_)|(refine awp_region ?_)|(refine k_cond ?_;first|(refine awp_cond_t' rfl (by with_reducible rfl) ?_)|(refine awp_cond_f' rfl (by with_reducible rfl) ?_))|(refine awp_block ?_)|(refine awp_ret ?_)|(refine awp_skip ?_)|(refine awp_exit ?_))|(refine thn_ret ?_)|(refine lq_exit ?_)|(refine lq_ret ?_)|(refine thn_exit ?_)|(refine inb_n ?_)|(refine inb_ret ?_)|(refine inb_here ?_)))
    all_goals
      refine ret1 (by first | exact .inr rfl | exact .inl rfl) rfl rfl ?_
      exact ⟨by rw [hn], rfl⟩
end
end Go.Proofs.YtnjolbnbpfjdiaaDoor.L

namespace Go.Proofs.YtnjolbnbpfjdiaaDoor.L
open Go Go.RowKit Go.Proofs
set_option linter.unusedVariables false
set_option linter.unusedSimpArgs false
set_option maxRecDepth 100000
attribute [local irreducible] AL QL AWp Thn InB RetQ ACalls LoopQ HL HO HW HQ NoG JmpQ MidQ HF

theorem words_none {st : Int} (h : ∀ p ∈ reasonL, st ≠ p.1) : wordsY st = none := by
  have h2 : ∀ l : List (Int × List UInt8), (∀ p ∈ l, st ≠ p.1) → wordsOf st l = none := by
    intro l
    induction l with
    | nil => intro _; rfl
    | cons p l ih =>
      intro h
      rw [wordsOf, if_neg (fun k => h p List.mem_cons_self k.symm)]
      exact ih fun q hq => h q (List.mem_cons_of_mem _ hq)
  exact h2 _ h
theorem reason_ne {st : Int} (h : st ≠ 200 ∧ st ≠ 201 ∧ st ≠ 204 ∧ st ≠ 400 ∧ st ≠ 401 ∧ st ≠ 403 ∧ st ≠ 404 ∧ st ≠ 409 ∧ st ≠ 413 ∧ st ≠ 431 ∧ st ≠ 500 ∧ st ≠ 503 ∧ st ≠ 505) : wordsY st = none := by
  have hm : reasonL.map (·.1) = [200, 201, 204, 400, 401, 403, 404, 409, 413, 431, 500, 503, 505] := by decide +kernel
  refine words_none fun p hp => ?_
  have h1 : p.1 ∈ reasonL.map (·.1) := List.mem_map_of_mem hp
  rw [hm] at h1
  simp only [List.mem_cons, List.not_mem_nil, or_false] at h1
  omega
def reaR (st : Int) : AV := .tup [.str ((wordsY st).getD []), .int .i64 (if (wordsY st).isSome then 0 else 3)]
theorem reaR_some {st : Int} {w : List UInt8} (h : wordsY st = some w) : reaR st = .tup [.str w, .int .i64 0] := by unfold reaR; rw [h]; rfl
theorem reaR_none {st : Int} (h : wordsY st = none) : reaR st = .tup [.str [], .int .i64 3] := by unfold reaR; rw [h]; rfl
section
variable {w0 : World} {base : Nat}
set_option maxHeartbeats 8000000 in
theorem s_reasonR {st : Int} : PCalls (EE w0 base) 85 [.int .i64 st] fun rv => rv = reaR st := by
  refine acalls_of Tryd.func85 rfl rfl rfl (.cons .nil) ?_
  repeat' (first|(refine k_al ?_;first|(refine al_v (ov_move rfl) rfl ?_)|(refine k_bin ?_;first|(refine al_v (ov_cmp rfl rfl rfl) rfl ?_))|(refine al_v (ov_assign rfl) rfl ?_)|(refine al_nil ?_))|(first|(refine thn_n ?_)|(refine k_awp ?_;first|(refine awp_seq (awp_region ?_))|(refine awp_seq ?_)|(refine awp_region ?_)|(refine k_cond ?_;first|(refine awp_cond_p rfl (fun hc => ?_) (fun hc => ?_) <;> (try (exfalso;omega))))|(refine awp_block ?_)|(refine awp_ret ?_)|(refine awp_skip ?_))|(refine thn_ret ?_)|(refine inb_n ?_)|(refine inb_ret ?_)))
  all_goals
    refine ret2 (by first | exact .inr rfl | exact .inl rfl) rfl rfl rfl ?_
    refine ⟨?_, rfl⟩
    first
      | (subst hc; exact (reaR_some (by decide +kernel)).symm)
      | (exact (reaR_none (reason_ne (by omega))).symm)
set_option maxHeartbeats 8000000 in
theorem s_mayR9 {r : Rp} (hr : RpFit r) : PCalls (EE w0 base) 84 [.agg (rpC r)] fun rv => rv = .bool (mayY r) := by
  obtain ⟨st, fs, body, cl⟩ := r
  obtain ⟨hf, he, hbd⟩ := hr
  dsimp only at hf he hbd
  show PCalls (EE w0 base) 84 [.agg [.int .i64 st, .rs (fs.map prAV), .str body, .bool cl]] fun rv => rv = .bool (mayY ⟨st, fs, body, cl⟩)
  refine acalls_of Tryd.func84 rfl rfl rfl (.cons .nil) ?_
  have hlen : (fs.map prAV).length = fs.length := List.length_map _
  by_cases hg : (200 ≤ st ∧ st ≤ 599) ∧ fs.length ≤ 32 ∧ body.length ≤ 1048576
  · have hm : mayY ⟨st, fs, body, cl⟩ = fs.all fieldY := by
      unfold mayY
      dsimp only
      rw [decide_eq_true hg.1, decide_eq_true hg.2.1, decide_eq_true hg.2.2]
      rfl
    repeat' (first|(first|(refine k_call ?_;refine al_v (ov_len_c fs.length rfl hlen) rfl ?_)|(refine k_bin ?_;first|(refine al_v (ov_cmp_t rfl rfl rfl (by omega)) rfl ?_)|(refine al_v (ov_cmp_f rfl rfl rfl (by omega)) rfl ?_)))|(refine k_al ?_;first|(refine al_v (ov_move rfl) rfl ?_)|(refine k_g ?_;first|(refine al_gy' rfl rfl (by with_reducible rfl) ?_)|(refine al_gnf rfl rfl (by with_reducible rfl) rfl ?_)|(refine al_gsp rfl rfl (fun hc => ?_) (fun hc => ?_) <;> (try (exfalso;omega))))|(refine al_v (ov_fieldAddr rfl rfl) rfl ?_)|(refine k_load ?_;first|(refine al_v (ov_load rfl rfl) rfl ?_)|(refine al_v (ov_load_agg rfl rfl rfl) rfl ?_))|(refine k_bin ?_;first|(refine al_v (ov_cmp rfl rfl rfl) rfl ?_)|(refine al_v (ov_add rfl rfl (by (first|exact w64 (by omega) (by omega)|rfl))) rfl ?_))|(refine k_pick ?_;first|(refine al_v (ov_pick_t' rfl (by with_reducible rfl) rfl) rfl ?_)|(refine al_v (ov_pick_f' rfl (by with_reducible rfl) rfl) rfl ?_))|(refine al_v (ov_assign rfl) rfl ?_)|(refine k_call ?_;first|(refine al_v (ov_len_str rfl) rfl ?_))|(refine al_nil ?_)|(refine al_box rfl rfl rfl (by first|exact ln0|exact ln1) (by repeat constructor) rfl ?_)|(refine al_alloc rfl rfl rfl (by first|exact ln0|exact ln1) (by repeat constructor) rfl ?_)|(refine al_store rfl rfl rfl rfl rfl (by repeat constructor) (by repeat constructor) ?_)|(refine al_v (ov_not_t rfl (by with_reducible rfl)) rfl ?_)|(refine al_v (ov_not_f rfl (by with_reducible rfl)) rfl ?_))|(first|(refine thn_n ?_)|(refine k_awp ?_;first|(refine awp_seq (awp_region ?_))|(refine awp_seq ?_)|(refine awp_region ?_)|(refine k_cond ?_;first|(refine awp_cond_t' rfl (by with_reducible rfl) ?_)|(refine awp_cond_f' rfl (by with_reducible rfl) ?_))|(refine awp_block ?_)|(refine awp_ret ?_)|(refine awp_skip ?_)|(refine awp_exit ?_))|(refine thn_ret ?_)|(refine lq_exit ?_)|(refine lq_ret ?_)|(refine thn_exit ?_)|(refine inb_n ?_)|(refine inb_ret ?_)|(refine inb_here ?_)))
    refine awp_loopq (fun k : Nat => ⟨[(1, .op 0 0), (3, .int .i64 k)], [.box [.int .i64 st, .rs (fs.map prAV), .str body, .bool cl]]⟩) (fun k => k ≤ fs.length ∧ (fs.take k).all fieldY = true) (fun k => fs.length - k) 0 (.of (.same (by repeat constructor))) ⟨Nat.zero_le _, rfl⟩ ?_
    rintro k ⟨hk, hok⟩
    try dsimp only
    by_cases hlt : k < fs.length
    · obtain ⟨p, hp⟩ : ∃ p, fs[k]? = some p := ⟨_, List.getElem?_eq_getElem hlt⟩
      have hrow := prAV_row hp
      have hel := he p (List.mem_of_getElem? hp)
      have h1 := s_name (w0 := w0) (base := base) (s := p.1) (by omega)
      have h2 := s_valueR (w0 := w0) (base := base) (s := p.2) (by omega)
      have h3 := s_smallR (w0 := w0) (base := base) (s := p.1) (by omega)
      have hfy : fieldY p = (nameY p.1 && valueY p.2) := rfl
      have hny : nameY p.1 = ((p.1.all pToken && decide (smallS p.1 = p.1)) && (decide (p.1 ≠ []) && decide (p.1 ≠ clN) && decide (p.1 ≠ cnN))) := by unfold nameY; rw [all_tok]
      have hln : decide (1 ≤ p.1.length) = decide (p.1 ≠ []) := by
        cases p.1 <;> simp
      rw [hln] at h1
      cases hA : (p.1.all pToken && decide (p.1 ≠ [])) with
      | false =>
        rw [hA] at h1
        have hf0 : fieldY p = false := by
          rw [hfy, hny]
          rw [Bool.and_eq_false_iff] at hA
          rcases hA with hA | hA <;> rw [hA] <;> simp
        repeat' (first|(first|(refine awp_held (id := 7) [] [⟨0, true, [], bl 28 0⟩, ⟨1, true, [], bl 28 1⟩, ⟨2, false, [], []⟩, ⟨3, true, [], bl 28 7⟩, ⟨4, true, [], bl 28 15⟩, ⟨5, true, [], bl 28 799⟩, ⟨6, true, [], bl 28 831⟩, ⟨8, true, [], bl 28 255⟩, ⟨9, true, [], bl 28 511⟩, ⟨7, false, [], []⟩, ⟨10, true, [], bl 28 1023⟩, ⟨11, true, [], bl 28 2047⟩, ⟨12, true, [], bl 28 4095⟩, ⟨13, true, [], bl 28 8191⟩, ⟨14, true, [], bl 28 16383⟩, ⟨15, true, [], bl 28 32767⟩, ⟨16, true, [], bl 28 65535⟩, ⟨17, true, [], bl 28 131071⟩, ⟨18, true, [], bl 28 262143⟩, ⟨19, true, [], bl 28 524287⟩, ⟨20, true, [], bl 28 1048575⟩, ⟨21, true, [], bl 28 2097151⟩, ⟨22, true, [], bl 28 4194303⟩, ⟨23, true, [], bl 28 8388607⟩, ⟨24, true, [], bl 28 16777215⟩, ⟨25, false, [], []⟩, ⟨26, true, [], bl 28 67108863⟩, ⟨27, true, [], bl 28 134217727⟩] (by kernel_rfl) (by kernel_rfl) rfl (by kernel_rfl) ?_)|(refine k_call ?_;refine al_v (ov_len_c fs.length rfl hlen) rfl ?_)|(refine al_v (ov_indexAddr rfl rfl (by omega) hrow rfl) rfl ?_)|(refine k_call ?_;refine al_call rfl rfl rfl rfl h1 ?_;rintro _ rfl)|(refine k_bin ?_;first|(refine al_v (ov_cmp_t rfl rfl rfl (by omega)) rfl ?_)|(refine al_v (ov_cmp_f rfl rfl rfl (by omega)) rfl ?_)))|(refine k_al ?_;first|(refine al_v (ov_move rfl) rfl ?_)|(refine k_g ?_;first|(refine al_gy' rfl rfl (by with_reducible rfl) ?_)|(refine al_gnf rfl rfl (by with_reducible rfl) rfl ?_)|(refine al_gsp rfl rfl (fun hc => ?_) (fun hc => ?_) <;> (try (exfalso;omega))))|(refine al_v (ov_fieldAddr rfl rfl) rfl ?_)|(refine k_load ?_;first|(refine al_v (ov_load rfl rfl) rfl ?_)|(refine al_v (ov_load_agg rfl rfl rfl) rfl ?_))|(refine k_bin ?_;first|(refine al_v (ov_cmp rfl rfl rfl) rfl ?_)|(refine al_v (ov_add rfl rfl (by (first|exact w64 (by omega) (by omega)|rfl))) rfl ?_))|(refine k_pick ?_;first|(refine al_v (ov_pick_t' rfl (by with_reducible rfl) rfl) rfl ?_)|(refine al_v (ov_pick_f' rfl (by with_reducible rfl) rfl) rfl ?_))|(refine al_v (ov_assign rfl) rfl ?_)|(refine k_call ?_;first|(refine al_v (ov_len_str rfl) rfl ?_))|(refine al_nil ?_)|(refine al_box rfl rfl rfl (by first|exact ln0|exact ln1) (by repeat constructor) rfl ?_)|(refine al_alloc rfl rfl rfl (by first|exact ln0|exact ln1) (by repeat constructor) rfl ?_)|(refine al_store rfl rfl rfl rfl rfl (by repeat constructor) (by repeat constructor) ?_)|(refine al_v (ov_not_t rfl (by with_reducible rfl)) rfl ?_)|(refine al_v (ov_not_f rfl (by with_reducible rfl)) rfl ?_))|(first|(refine thn_n ?_)|(refine k_awp ?_;first|(refine awp_seq (awp_region ?_))|(refine awp_seq ?_)|(refine awp_region ?_)|(refine k_cond ?_;first|(refine awp_cond_t' rfl (by with_reducible rfl) ?_)|(refine awp_cond_f' rfl (by with_reducible rfl) ?_))|(refine awp_block ?_)|(refine awp_ret ?_)|(refine awp_skip ?_)|(refine awp_exit ?_))|(refine thn_ret ?_)|(refine lq_exit ?_)|(refine lq_ret ?_)|(refine thn_exit ?_)|(refine inb_n ?_)|(refine inb_ret ?_)|(refine inb_here ?_))|(first|(refine k_hw ?_;first|(refine hw_s rfl ?_)|(refine hw_v (ov_move rfl) rfl ?_)|(refine hw_v (ov_assign rfl) rfl ?_)|(refine hw_v (ov_fieldAddr rfl rfl) rfl ?_)|(refine hw_v (ov_load rfl rfl) rfl ?_)|(refine hw_v (ov_load_agg rfl rfl rfl) rfl ?_)|(refine hw_v (ov_cmp rfl rfl rfl) rfl ?_)|(refine hw_v (ov_pick_t' rfl (by with_reducible rfl) rfl) rfl ?_)|(refine hw_v (ov_pick_f' rfl (by with_reducible rfl) rfl) rfl ?_)|(refine hw_v (ov_len_str rfl) rfl ?_)|(refine hw_v (ov_add rfl rfl (by (first|exact w64 (by omega) (by omega)|rfl))) rfl ?_)|(refine hw_v (ov_not_t rfl (by with_reducible rfl)) rfl ?_)|(refine hw_v (ov_not_f rfl (by with_reducible rfl)) rfl ?_))|(refine hl_op rfl ?_)|(refine k_ho ?_;first|(refine ho_n ?_)|(refine ho_gy rfl rfl (by with_reducible rfl) ?_)|(refine ho_gnf rfl rfl (by with_reducible rfl) rfl ?_))|(refine hl_nil ?_)|(refine hq_back ?_)))
        all_goals
          refine ret1 (by first | exact .inr rfl | exact .inl rfl) rfl rfl ?_
          exact ⟨by rw [hm, allF_not hp hf0], rfl⟩
      | true =>
        rw [hA] at h1
        rw [Bool.and_eq_true, decide_eq_true_eq] at hA
        by_cases hB : smallS p.1 = p.1
        · rw [hB] at h3
          by_cases hC : p.1 = clN
          · have hf0 : fieldY p = false := by rw [hfy, hny, decide_eq_false (p := p.1 ≠ clN) (fun k => k hC)]; simp
            repeat' (first|(first|(refine awp_held (id := 7) [] [⟨0, true, [], bl 28 0⟩, ⟨1, true, [], bl 28 1⟩, ⟨2, false, [], []⟩, ⟨3, true, [], bl 28 7⟩, ⟨4, true, [], bl 28 15⟩, ⟨5, true, [], bl 28 799⟩, ⟨6, true, [], bl 28 831⟩, ⟨8, true, [], bl 28 255⟩, ⟨9, true, [], bl 28 511⟩, ⟨7, false, [], []⟩, ⟨10, true, [], bl 28 1023⟩, ⟨11, true, [], bl 28 2047⟩, ⟨12, true, [], bl 28 4095⟩, ⟨13, true, [], bl 28 8191⟩, ⟨14, true, [], bl 28 16383⟩, ⟨15, true, [], bl 28 32767⟩, ⟨16, true, [], bl 28 65535⟩, ⟨17, true, [], bl 28 131071⟩, ⟨18, true, [], bl 28 262143⟩, ⟨19, true, [], bl 28 524287⟩, ⟨20, true, [], bl 28 1048575⟩, ⟨21, true, [], bl 28 2097151⟩, ⟨22, true, [], bl 28 4194303⟩, ⟨23, true, [], bl 28 8388607⟩, ⟨24, true, [], bl 28 16777215⟩, ⟨25, false, [], []⟩, ⟨26, true, [], bl 28 67108863⟩, ⟨27, true, [], bl 28 134217727⟩] (by kernel_rfl) (by kernel_rfl) rfl (by kernel_rfl) ?_)|(refine k_call ?_;refine al_v (ov_len_c fs.length rfl hlen) rfl ?_)|(refine al_v (ov_indexAddr rfl rfl (by omega) hrow rfl) rfl ?_)|(refine k_call ?_;refine al_call rfl rfl rfl rfl h1 ?_;rintro _ rfl)|(refine k_call ?_;refine al_call rfl rfl rfl rfl h3 ?_;rintro _ rfl)|(refine k_bin ?_;first|(refine al_v (ov_cmp_t rfl rfl rfl (by omega)) rfl ?_)|(refine al_v (ov_cmp_f rfl rfl rfl (by omega)) rfl ?_))|(refine hw_v (ov_sne_f (m := p.1) (n := p.1) rfl rfl rfl) rfl ?_)|(refine hw_v (ov_seq_t (n := clN) hC rfl rfl) rfl ?_))|(refine k_al ?_;first|(refine al_v (ov_move rfl) rfl ?_)|(refine k_g ?_;first|(refine al_gy' rfl rfl (by with_reducible rfl) ?_)|(refine al_gnf rfl rfl (by with_reducible rfl) rfl ?_)|(refine al_gsp rfl rfl (fun hc => ?_) (fun hc => ?_) <;> (try (exfalso;omega))))|(refine al_v (ov_fieldAddr rfl rfl) rfl ?_)|(refine k_load ?_;first|(refine al_v (ov_load rfl rfl) rfl ?_)|(refine al_v (ov_load_agg rfl rfl rfl) rfl ?_))|(refine k_bin ?_;first|(refine al_v (ov_cmp rfl rfl rfl) rfl ?_)|(refine al_v (ov_add rfl rfl (by (first|exact w64 (by omega) (by omega)|rfl))) rfl ?_))|(refine k_pick ?_;first|(refine al_v (ov_pick_t' rfl (by with_reducible rfl) rfl) rfl ?_)|(refine al_v (ov_pick_f' rfl (by with_reducible rfl) rfl) rfl ?_))|(refine al_v (ov_assign rfl) rfl ?_)|(refine k_call ?_;first|(refine al_v (ov_len_str rfl) rfl ?_))|(refine al_nil ?_)|(refine al_box rfl rfl rfl (by first|exact ln0|exact ln1) (by repeat constructor) rfl ?_)|(refine al_alloc rfl rfl rfl (by first|exact ln0|exact ln1) (by repeat constructor) rfl ?_)|(refine al_store rfl rfl rfl rfl rfl (by repeat constructor) (by repeat constructor) ?_)|(refine al_v (ov_not_t rfl (by with_reducible rfl)) rfl ?_)|(refine al_v (ov_not_f rfl (by with_reducible rfl)) rfl ?_))|(first|(refine thn_n ?_)|(refine k_awp ?_;first|(refine awp_seq (awp_region ?_))|(refine awp_seq ?_)|(refine awp_region ?_)|(refine k_cond ?_;first|(refine awp_cond_t' rfl (by with_reducible rfl) ?_)|(refine awp_cond_f' rfl (by with_reducible rfl) ?_))|(refine awp_block ?_)|(refine awp_ret ?_)|(refine awp_skip ?_)|(refine awp_exit ?_))|(refine thn_ret ?_)|(refine lq_exit ?_)|(refine lq_ret ?_)|(refine thn_exit ?_)|(refine inb_n ?_)|(refine inb_ret ?_)|(refine inb_here ?_))|(first|(refine k_hw ?_;first|(refine hw_s rfl ?_)|(refine hw_v (ov_move rfl) rfl ?_)|(refine hw_v (ov_assign rfl) rfl ?_)|(refine hw_v (ov_fieldAddr rfl rfl) rfl ?_)|(refine hw_v (ov_load rfl rfl) rfl ?_)|(refine hw_v (ov_load_agg rfl rfl rfl) rfl ?_)|(refine hw_v (ov_cmp rfl rfl rfl) rfl ?_)|(refine hw_v (ov_pick_t' rfl (by with_reducible rfl) rfl) rfl ?_)|(refine hw_v (ov_pick_f' rfl (by with_reducible rfl) rfl) rfl ?_)|(refine hw_v (ov_len_str rfl) rfl ?_)|(refine hw_v (ov_add rfl rfl (by (first|exact w64 (by omega) (by omega)|rfl))) rfl ?_)|(refine hw_v (ov_not_t rfl (by with_reducible rfl)) rfl ?_)|(refine hw_v (ov_not_f rfl (by with_reducible rfl)) rfl ?_))|(refine hl_op rfl ?_)|(refine k_ho ?_;first|(refine ho_n ?_)|(refine ho_gy rfl rfl (by with_reducible rfl) ?_)|(refine ho_gnf rfl rfl (by with_reducible rfl) rfl ?_))|(refine hl_nil ?_)|(refine hq_back ?_)))
            all_goals
              refine ret1 (by first | exact .inr rfl | exact .inl rfl) rfl rfl ?_
              exact ⟨by rw [hm, allF_not hp hf0], rfl⟩
          · by_cases hD : p.1 = cnN
            · have hf0 : fieldY p = false := by rw [hfy, hny, decide_eq_false (p := p.1 ≠ cnN) (fun k => k hD)]; simp
              repeat' (first|(first|(refine awp_held (id := 7) [] [⟨0, true, [], bl 28 0⟩, ⟨1, true, [], bl 28 1⟩, ⟨2, false, [], []⟩, ⟨3, true, [], bl 28 7⟩, ⟨4, true, [], bl 28 15⟩, ⟨5, true, [], bl 28 799⟩, ⟨6, true, [], bl 28 831⟩, ⟨8, true, [], bl 28 255⟩, ⟨9, true, [], bl 28 511⟩, ⟨7, false, [], []⟩, ⟨10, true, [], bl 28 1023⟩, ⟨11, true, [], bl 28 2047⟩, ⟨12, true, [], bl 28 4095⟩, ⟨13, true, [], bl 28 8191⟩, ⟨14, true, [], bl 28 16383⟩, ⟨15, true, [], bl 28 32767⟩, ⟨16, true, [], bl 28 65535⟩, ⟨17, true, [], bl 28 131071⟩, ⟨18, true, [], bl 28 262143⟩, ⟨19, true, [], bl 28 524287⟩, ⟨20, true, [], bl 28 1048575⟩, ⟨21, true, [], bl 28 2097151⟩, ⟨22, true, [], bl 28 4194303⟩, ⟨23, true, [], bl 28 8388607⟩, ⟨24, true, [], bl 28 16777215⟩, ⟨25, false, [], []⟩, ⟨26, true, [], bl 28 67108863⟩, ⟨27, true, [], bl 28 134217727⟩] (by kernel_rfl) (by kernel_rfl) rfl (by kernel_rfl) ?_)|(refine k_call ?_;refine al_v (ov_len_c fs.length rfl hlen) rfl ?_)|(refine al_v (ov_indexAddr rfl rfl (by omega) hrow rfl) rfl ?_)|(refine k_call ?_;refine al_call rfl rfl rfl rfl h1 ?_;rintro _ rfl)|(refine k_call ?_;refine al_call rfl rfl rfl rfl h3 ?_;rintro _ rfl)|(refine k_bin ?_;first|(refine al_v (ov_cmp_t rfl rfl rfl (by omega)) rfl ?_)|(refine al_v (ov_cmp_f rfl rfl rfl (by omega)) rfl ?_))|(refine hw_v (ov_sne_f (m := p.1) (n := p.1) rfl rfl rfl) rfl ?_)|(refine hw_v (ov_seq_f (n := clN) hC rfl rfl) rfl ?_)|(refine hw_v (ov_seq_t (n := cnN) hD rfl rfl) rfl ?_))|(refine k_al ?_;first|(refine al_v (ov_move rfl) rfl ?_)|(refine k_g ?_;first|(refine al_gy' rfl rfl (by with_reducible rfl) ?_)|(refine al_gnf rfl rfl (by with_reducible rfl) rfl ?_)|(refine al_gsp rfl rfl (fun hc => ?_) (fun hc => ?_) <;> (try (exfalso;omega))))|(refine al_v (ov_fieldAddr rfl rfl) rfl ?_)|(refine k_load ?_;first|(refine al_v (ov_load rfl rfl) rfl ?_)|(refine al_v (ov_load_agg rfl rfl rfl) rfl ?_))|(refine k_bin ?_;first|(refine al_v (ov_cmp rfl rfl rfl) rfl ?_)|(refine al_v (ov_add rfl rfl (by (first|exact w64 (by omega) (by omega)|rfl))) rfl ?_))|(refine k_pick ?_;first|(refine al_v (ov_pick_t' rfl (by with_reducible rfl) rfl) rfl ?_)|(refine al_v (ov_pick_f' rfl (by with_reducible rfl) rfl) rfl ?_))|(refine al_v (ov_assign rfl) rfl ?_)|(refine k_call ?_;first|(refine al_v (ov_len_str rfl) rfl ?_))|(refine al_nil ?_)|(refine al_box rfl rfl rfl (by first|exact ln0|exact ln1) (by repeat constructor) rfl ?_)|(refine al_alloc rfl rfl rfl (by first|exact ln0|exact ln1) (by repeat constructor) rfl ?_)|(refine al_store rfl rfl rfl rfl rfl (by repeat constructor) (by repeat constructor) ?_)|(refine al_v (ov_not_t rfl (by with_reducible rfl)) rfl ?_)|(refine al_v (ov_not_f rfl (by with_reducible rfl)) rfl ?_))|(first|(refine thn_n ?_)|(refine k_awp ?_;first|(refine awp_seq (awp_region ?_))|(refine awp_seq ?_)|(refine awp_region ?_)|(refine k_cond ?_;first|(refine awp_cond_t' rfl (by with_reducible rfl) ?_)|(refine awp_cond_f' rfl (by with_reducible rfl) ?_))|(refine awp_block ?_)|(refine awp_ret ?_)|(refine awp_skip ?_)|(refine awp_exit ?_))|(refine thn_ret ?_)|(refine lq_exit ?_)|(refine lq_ret ?_)|(refine thn_exit ?_)|(refine inb_n ?_)|(refine inb_ret ?_)|(refine inb_here ?_))|(first|(refine k_hw ?_;first|(refine hw_s rfl ?_)|(refine hw_v (ov_move rfl) rfl ?_)|(refine hw_v (ov_assign rfl) rfl ?_)|(refine hw_v (ov_fieldAddr rfl rfl) rfl ?_)|(refine hw_v (ov_load rfl rfl) rfl ?_)|(refine hw_v (ov_load_agg rfl rfl rfl) rfl ?_)|(refine hw_v (ov_cmp rfl rfl rfl) rfl ?_)|(refine hw_v (ov_pick_t' rfl (by with_reducible rfl) rfl) rfl ?_)|(refine hw_v (ov_pick_f' rfl (by with_reducible rfl) rfl) rfl ?_)|(refine hw_v (ov_len_str rfl) rfl ?_)|(refine hw_v (ov_add rfl rfl (by (first|exact w64 (by omega) (by omega)|rfl))) rfl ?_)|(refine hw_v (ov_not_t rfl (by with_reducible rfl)) rfl ?_)|(refine hw_v (ov_not_f rfl (by with_reducible rfl)) rfl ?_))|(refine hl_op rfl ?_)|(refine k_ho ?_;first|(refine ho_n ?_)|(refine ho_gy rfl rfl (by with_reducible rfl) ?_)|(refine ho_gnf rfl rfl (by with_reducible rfl) rfl ?_))|(refine hl_nil ?_)|(refine hq_back ?_)))
              all_goals
                refine ret1 (by first | exact .inr rfl | exact .inl rfl) rfl rfl ?_
                exact ⟨by rw [hm, allF_not hp hf0], rfl⟩
            · have hfv : fieldY p = valueY p.2 := by
                rw [hfy, hny, hA.1, decide_eq_true hA.2, decide_eq_true hB, decide_eq_true hC, decide_eq_true hD]
                rfl
              cases hv : valueY p.2 with
              | false =>
                rw [hv] at h2 hfv
                repeat' (first|(first|(refine awp_held (id := 7) [] [⟨0, true, [], bl 28 0⟩, ⟨1, true, [], bl 28 1⟩, ⟨2, false, [], []⟩, ⟨3, true, [], bl 28 7⟩, ⟨4, true, [], bl 28 15⟩, ⟨5, true, [], bl 28 799⟩, ⟨6, true, [], bl 28 831⟩, ⟨8, true, [], bl 28 255⟩, ⟨9, true, [], bl 28 511⟩, ⟨7, false, [], []⟩, ⟨10, true, [], bl 28 1023⟩, ⟨11, true, [], bl 28 2047⟩, ⟨12, true, [], bl 28 4095⟩, ⟨13, true, [], bl 28 8191⟩, ⟨14, true, [], bl 28 16383⟩, ⟨15, true, [], bl 28 32767⟩, ⟨16, true, [], bl 28 65535⟩, ⟨17, true, [], bl 28 131071⟩, ⟨18, true, [], bl 28 262143⟩, ⟨19, true, [], bl 28 524287⟩, ⟨20, true, [], bl 28 1048575⟩, ⟨21, true, [], bl 28 2097151⟩, ⟨22, true, [], bl 28 4194303⟩, ⟨23, true, [], bl 28 8388607⟩, ⟨24, true, [], bl 28 16777215⟩, ⟨25, false, [], []⟩, ⟨26, true, [], bl 28 67108863⟩, ⟨27, true, [], bl 28 134217727⟩] (by kernel_rfl) (by kernel_rfl) rfl (by kernel_rfl) ?_)|(refine k_call ?_;refine al_v (ov_len_c fs.length rfl hlen) rfl ?_)|(refine al_v (ov_indexAddr rfl rfl (by omega) hrow rfl) rfl ?_)|(refine k_call ?_;refine al_call rfl rfl rfl rfl h1 ?_;rintro _ rfl)|(refine k_call ?_;refine al_call rfl rfl rfl rfl h3 ?_;rintro _ rfl)|(refine k_call ?_;refine al_call rfl rfl rfl rfl h2 ?_;rintro _ rfl)|(refine k_bin ?_;first|(refine al_v (ov_cmp_t rfl rfl rfl (by omega)) rfl ?_)|(refine al_v (ov_cmp_f rfl rfl rfl (by omega)) rfl ?_))|(refine hw_v (ov_sne_f (m := p.1) (n := p.1) rfl rfl rfl) rfl ?_)|(refine hw_v (ov_seq_f (n := clN) hC rfl rfl) rfl ?_)|(refine hw_v (ov_seq_f (n := cnN) hD rfl rfl) rfl ?_))|(refine k_al ?_;first|(refine al_v (ov_move rfl) rfl ?_)|(refine k_g ?_;first|(refine al_gy' rfl rfl (by with_reducible rfl) ?_)|(refine al_gnf rfl rfl (by with_reducible rfl) rfl ?_)|(refine al_gsp rfl rfl (fun hc => ?_) (fun hc => ?_) <;> (try (exfalso;omega))))|(refine al_v (ov_fieldAddr rfl rfl) rfl ?_)|(refine k_load ?_;first|(refine al_v (ov_load rfl rfl) rfl ?_)|(refine al_v (ov_load_agg rfl rfl rfl) rfl ?_))|(refine k_bin ?_;first|(refine al_v (ov_cmp rfl rfl rfl) rfl ?_)|(refine al_v (ov_add rfl rfl (by (first|exact w64 (by omega) (by omega)|rfl))) rfl ?_))|(refine k_pick ?_;first|(refine al_v (ov_pick_t' rfl (by with_reducible rfl) rfl) rfl ?_)|(refine al_v (ov_pick_f' rfl (by with_reducible rfl) rfl) rfl ?_))|(refine al_v (ov_assign rfl) rfl ?_)|(refine k_call ?_;first|(refine al_v (ov_len_str rfl) rfl ?_))|(refine al_nil ?_)|(refine al_box rfl rfl rfl (by first|exact ln0|exact ln1) (by repeat constructor) rfl ?_)|(refine al_alloc rfl rfl rfl (by first|exact ln0|exact ln1) (by repeat constructor) rfl ?_)|(refine al_store rfl rfl rfl rfl rfl (by repeat constructor) (by repeat constructor) ?_)|(refine al_v (ov_not_t rfl (by with_reducible rfl)) rfl ?_)|(refine al_v (ov_not_f rfl (by with_reducible rfl)) rfl ?_))|(first|(refine thn_n ?_)|(refine k_awp ?_;first|(refine awp_seq (awp_region ?_))|(refine awp_seq ?_)|(refine awp_region ?_)|(refine k_cond ?_;first|(refine awp_cond_t' rfl (by with_reducible rfl) ?_)|(refine awp_cond_f' rfl (by with_reducible rfl) ?_))|(refine awp_block ?_)|(refine awp_ret ?_)|(refine awp_skip ?_)|(refine awp_exit ?_))|(refine thn_ret ?_)|(refine lq_exit ?_)|(refine lq_ret ?_)|(refine thn_exit ?_)|(refine inb_n ?_)|(refine inb_ret ?_)|(refine inb_here ?_))|(first|(refine k_hw ?_;first|(refine hw_s rfl ?_)|(refine hw_v (ov_move rfl) rfl ?_)|(refine hw_v (ov_assign rfl) rfl ?_)|(refine hw_v (ov_fieldAddr rfl rfl) rfl ?_)|(refine hw_v (ov_load rfl rfl) rfl ?_)|(refine hw_v (ov_load_agg rfl rfl rfl) rfl ?_)|(refine hw_v (ov_cmp rfl rfl rfl) rfl ?_)|(refine hw_v (ov_pick_t' rfl (by with_reducible rfl) rfl) rfl ?_)|(refine hw_v (ov_pick_f' rfl (by with_reducible rfl) rfl) rfl ?_)|(refine hw_v (ov_len_str rfl) rfl ?_)|(refine hw_v (ov_add rfl rfl (by (first|exact w64 (by omega) (by omega)|rfl))) rfl ?_)|(refine hw_v (ov_not_t rfl (by with_reducible rfl)) rfl ?_)|(refine hw_v (ov_not_f rfl (by with_reducible rfl)) rfl ?_))|(refine hl_op rfl ?_)|(refine k_ho ?_;first|(refine ho_n ?_)|(refine ho_gy rfl rfl (by with_reducible rfl) ?_)|(refine ho_gnf rfl rfl (by with_reducible rfl) rfl ?_))|(refine hl_nil ?_)|(refine hq_back ?_)))
                all_goals
                  refine ret1 (by first | exact .inr rfl | exact .inl rfl) rfl rfl ?_
                  exact ⟨by rw [hm, allF_not hp hfv], rfl⟩
              | true =>
                rw [hv] at h2 hfv
                repeat' (first|(first|(refine awp_held (id := 7) [] [⟨0, true, [], bl 28 0⟩, ⟨1, true, [], bl 28 1⟩, ⟨2, false, [], []⟩, ⟨3, true, [], bl 28 7⟩, ⟨4, true, [], bl 28 15⟩, ⟨5, true, [], bl 28 799⟩, ⟨6, true, [], bl 28 831⟩, ⟨8, true, [], bl 28 255⟩, ⟨9, true, [], bl 28 511⟩, ⟨7, false, [], []⟩, ⟨10, true, [], bl 28 1023⟩, ⟨11, true, [], bl 28 2047⟩, ⟨12, true, [], bl 28 4095⟩, ⟨13, true, [], bl 28 8191⟩, ⟨14, true, [], bl 28 16383⟩, ⟨15, true, [], bl 28 32767⟩, ⟨16, true, [], bl 28 65535⟩, ⟨17, true, [], bl 28 131071⟩, ⟨18, true, [], bl 28 262143⟩, ⟨19, true, [], bl 28 524287⟩, ⟨20, true, [], bl 28 1048575⟩, ⟨21, true, [], bl 28 2097151⟩, ⟨22, true, [], bl 28 4194303⟩, ⟨23, true, [], bl 28 8388607⟩, ⟨24, true, [], bl 28 16777215⟩, ⟨25, false, [], []⟩, ⟨26, true, [], bl 28 67108863⟩, ⟨27, true, [], bl 28 134217727⟩] (by kernel_rfl) (by kernel_rfl) rfl (by kernel_rfl) ?_)|(refine k_call ?_;refine al_v (ov_len_c fs.length rfl hlen) rfl ?_)|(refine al_v (ov_indexAddr rfl rfl (by omega) hrow rfl) rfl ?_)|(refine k_call ?_;refine al_call rfl rfl rfl rfl h1 ?_;rintro _ rfl)|(refine k_call ?_;refine al_call rfl rfl rfl rfl h3 ?_;rintro _ rfl)|(refine k_call ?_;refine al_call rfl rfl rfl rfl h2 ?_;rintro _ rfl)|(refine k_bin ?_;first|(refine al_v (ov_cmp_t rfl rfl rfl (by omega)) rfl ?_)|(refine al_v (ov_cmp_f rfl rfl rfl (by omega)) rfl ?_))|(refine hw_v (ov_sne_f (m := p.1) (n := p.1) rfl rfl rfl) rfl ?_)|(refine hw_v (ov_seq_f (n := clN) hC rfl rfl) rfl ?_)|(refine hw_v (ov_seq_f (n := cnN) hD rfl rfl) rfl ?_))|(refine k_al ?_;first|(refine al_v (ov_move rfl) rfl ?_)|(refine k_g ?_;first|(refine al_gy' rfl rfl (by with_reducible rfl) ?_)|(refine al_gnf rfl rfl (by with_reducible rfl) rfl ?_)|(refine al_gsp rfl rfl (fun hc => ?_) (fun hc => ?_) <;> (try (exfalso;omega))))|(refine al_v (ov_fieldAddr rfl rfl) rfl ?_)|(refine k_load ?_;first|(refine al_v (ov_load rfl rfl) rfl ?_)|(refine al_v (ov_load_agg rfl rfl rfl) rfl ?_))|(refine k_bin ?_;first|(refine al_v (ov_cmp rfl rfl rfl) rfl ?_)|(refine al_v (ov_add rfl rfl (by (first|exact w64 (by omega) (by omega)|rfl))) rfl ?_))|(refine k_pick ?_;first|(refine al_v (ov_pick_t' rfl (by with_reducible rfl) rfl) rfl ?_)|(refine al_v (ov_pick_f' rfl (by with_reducible rfl) rfl) rfl ?_))|(refine al_v (ov_assign rfl) rfl ?_)|(refine k_call ?_;first|(refine al_v (ov_len_str rfl) rfl ?_))|(refine al_nil ?_)|(refine al_box rfl rfl rfl (by first|exact ln0|exact ln1) (by repeat constructor) rfl ?_)|(refine al_alloc rfl rfl rfl (by first|exact ln0|exact ln1) (by repeat constructor) rfl ?_)|(refine al_store rfl rfl rfl rfl rfl (by repeat constructor) (by repeat constructor) ?_)|(refine al_v (ov_not_t rfl (by with_reducible rfl)) rfl ?_)|(refine al_v (ov_not_f rfl (by with_reducible rfl)) rfl ?_))|(first|(refine thn_n ?_)|(refine k_awp ?_;first|(refine awp_seq (awp_region ?_))|(refine awp_seq ?_)|(refine awp_region ?_)|(refine k_cond ?_;first|(refine awp_cond_t' rfl (by with_reducible rfl) ?_)|(refine awp_cond_f' rfl (by with_reducible rfl) ?_))|(refine awp_block ?_)|(refine awp_ret ?_)|(refine awp_skip ?_)|(refine awp_exit ?_))|(refine thn_ret ?_)|(refine lq_exit ?_)|(refine lq_ret ?_)|(refine thn_exit ?_)|(refine inb_n ?_)|(refine inb_ret ?_)|(refine inb_here ?_))|(first|(refine k_hw ?_;first|(refine hw_s rfl ?_)|(refine hw_v (ov_move rfl) rfl ?_)|(refine hw_v (ov_assign rfl) rfl ?_)|(refine hw_v (ov_fieldAddr rfl rfl) rfl ?_)|(refine hw_v (ov_load rfl rfl) rfl ?_)|(refine hw_v (ov_load_agg rfl rfl rfl) rfl ?_)|(refine hw_v (ov_cmp rfl rfl rfl) rfl ?_)|(refine hw_v (ov_pick_t' rfl (by with_reducible rfl) rfl) rfl ?_)|(refine hw_v (ov_pick_f' rfl (by with_reducible rfl) rfl) rfl ?_)|(refine hw_v (ov_len_str rfl) rfl ?_)|(refine hw_v (ov_add rfl rfl (by (first|exact w64 (by omega) (by omega)|rfl))) rfl ?_)|(refine hw_v (ov_not_t rfl (by with_reducible rfl)) rfl ?_)|(refine hw_v (ov_not_f rfl (by with_reducible rfl)) rfl ?_))|(refine hl_op rfl ?_)|(refine k_ho ?_;first|(refine ho_n ?_)|(refine ho_gy rfl rfl (by with_reducible rfl) ?_)|(refine ho_gnf rfl rfl (by with_reducible rfl) rfl ?_))|(refine hl_nil ?_)|(refine hq_back ?_)))
                all_goals
                  first|refine lq_back (k + 1) (.of (.same (by repeat constructor))) ?_ ?_|refine lq_back (k + 1) (.of (wk_drop [_] rfl (by repeat constructor) rfl (by repeat constructor) rfl)) ?_ ?_|refine lq_back (k + 1) (.of (wk_drop [_, _] rfl (by repeat constructor) rfl (by repeat constructor) rfl)) ?_ ?_|refine lq_back (k + 1) (.of (wk_drop [_, _, _] rfl (by repeat constructor) rfl (by repeat constructor) rfl)) ?_ ?_
                  · exact ⟨by omega, by rw [allF_take hok hp, hfv]⟩
                  · omega
        · have hf0 : fieldY p = false := by rw [hfy, hny, decide_eq_false hB]; simp
          repeat' (first|(first|(refine awp_held (id := 7) [] [⟨0, true, [], bl 28 0⟩, ⟨1, true, [], bl 28 1⟩, ⟨2, false, [], []⟩, ⟨3, true, [], bl 28 7⟩, ⟨4, true, [], bl 28 15⟩, ⟨5, true, [], bl 28 799⟩, ⟨6, true, [], bl 28 831⟩, ⟨8, true, [], bl 28 255⟩, ⟨9, true, [], bl 28 511⟩, ⟨7, false, [], []⟩, ⟨10, true, [], bl 28 1023⟩, ⟨11, true, [], bl 28 2047⟩, ⟨12, true, [], bl 28 4095⟩, ⟨13, true, [], bl 28 8191⟩, ⟨14, true, [], bl 28 16383⟩, ⟨15, true, [], bl 28 32767⟩, ⟨16, true, [], bl 28 65535⟩, ⟨17, true, [], bl 28 131071⟩, ⟨18, true, [], bl 28 262143⟩, ⟨19, true, [], bl 28 524287⟩, ⟨20, true, [], bl 28 1048575⟩, ⟨21, true, [], bl 28 2097151⟩, ⟨22, true, [], bl 28 4194303⟩, ⟨23, true, [], bl 28 8388607⟩, ⟨24, true, [], bl 28 16777215⟩, ⟨25, false, [], []⟩, ⟨26, true, [], bl 28 67108863⟩, ⟨27, true, [], bl 28 134217727⟩] (by kernel_rfl) (by kernel_rfl) rfl (by kernel_rfl) ?_)|(refine k_call ?_;refine al_v (ov_len_c fs.length rfl hlen) rfl ?_)|(refine al_v (ov_indexAddr rfl rfl (by omega) hrow rfl) rfl ?_)|(refine k_call ?_;refine al_call rfl rfl rfl rfl h1 ?_;rintro _ rfl)|(refine k_call ?_;refine al_call rfl rfl rfl rfl h3 ?_;rintro _ rfl)|(refine k_bin ?_;first|(refine al_v (ov_cmp_t rfl rfl rfl (by omega)) rfl ?_)|(refine al_v (ov_cmp_f rfl rfl rfl (by omega)) rfl ?_))|(refine hw_v (ov_sne_t hB rfl rfl) rfl ?_))|(refine k_al ?_;first|(refine al_v (ov_move rfl) rfl ?_)|(refine k_g ?_;first|(refine al_gy' rfl rfl (by with_reducible rfl) ?_)|(refine al_gnf rfl rfl (by with_reducible rfl) rfl ?_)|(refine al_gsp rfl rfl (fun hc => ?_) (fun hc => ?_) <;> (try (exfalso;omega))))|(refine al_v (ov_fieldAddr rfl rfl) rfl ?_)|(refine k_load ?_;first|(refine al_v (ov_load rfl rfl) rfl ?_)|(refine al_v (ov_load_agg rfl rfl rfl) rfl ?_))|(refine k_bin ?_;first|(refine al_v (ov_cmp rfl rfl rfl) rfl ?_)|(refine al_v (ov_add rfl rfl (by (first|exact w64 (by omega) (by omega)|rfl))) rfl ?_))|(refine k_pick ?_;first|(refine al_v (ov_pick_t' rfl (by with_reducible rfl) rfl) rfl ?_)|(refine al_v (ov_pick_f' rfl (by with_reducible rfl) rfl) rfl ?_))|(refine al_v (ov_assign rfl) rfl ?_)|(refine k_call ?_;first|(refine al_v (ov_len_str rfl) rfl ?_))|(refine al_nil ?_)|(refine al_box rfl rfl rfl (by first|exact ln0|exact ln1) (by repeat constructor) rfl ?_)|(refine al_alloc rfl rfl rfl (by first|exact ln0|exact ln1) (by repeat constructor) rfl ?_)|(refine al_store rfl rfl rfl rfl rfl (by repeat constructor) (by repeat constructor) ?_)|(refine al_v (ov_not_t rfl (by with_reducible rfl)) rfl ?_)|(refine al_v (ov_not_f rfl (by with_reducible rfl)) rfl ?_))|(first|(refine thn_n ?_)|(refine k_awp ?_;first|(refine awp_seq (awp_region ?_))|(refine awp_seq ?_)|(refine awp_region ?_)|(refine k_cond ?_;first|(refine awp_cond_t' rfl (by with_reducible rfl) ?_)|(refine awp_cond_f' rfl (by with_reducible rfl) ?_))|(refine awp_block ?_)|(refine awp_ret ?_)|(refine awp_skip ?_)|(refine awp_exit ?_))|(refine thn_ret ?_)|(refine lq_exit ?_)|(refine lq_ret ?_)|(refine thn_exit ?_)|(refine inb_n ?_)|(refine inb_ret ?_)|(refine inb_here ?_))|(first|(refine k_hw ?_;first|(refine hw_s rfl ?_)|(refine hw_v (ov_move rfl) rfl ?_)|(refine hw_v (ov_assign rfl) rfl ?_)|(refine hw_v (ov_fieldAddr rfl rfl) rfl ?_)|(refine hw_v (ov_load rfl rfl) rfl ?_)|(refine hw_v (ov_load_agg rfl rfl rfl) rfl ?_)|(refine hw_v (ov_cmp rfl rfl rfl) rfl ?_)|(refine hw_v (ov_pick_t' rfl (by with_reducible rfl) rfl) rfl ?_)|(refine hw_v (ov_pick_f' rfl (by with_reducible rfl) rfl) rfl ?_)|(refine hw_v (ov_len_str rfl) rfl ?_)|(refine hw_v (ov_add rfl rfl (by (first|exact w64 (by omega) (by omega)|rfl))) rfl ?_)|(refine hw_v (ov_not_t rfl (by with_reducible rfl)) rfl ?_)|(refine hw_v (ov_not_f rfl (by with_reducible rfl)) rfl ?_))|(refine hl_op rfl ?_)|(refine k_ho ?_;first|(refine ho_n ?_)|(refine ho_gy rfl rfl (by with_reducible rfl) ?_)|(refine ho_gnf rfl rfl (by with_reducible rfl) rfl ?_))|(refine hl_nil ?_)|(refine hq_back ?_)))
          all_goals
            refine ret1 (by first | exact .inr rfl | exact .inl rfl) rfl rfl ?_
            exact ⟨by rw [hm, allF_not hp hf0], rfl⟩
    · rw [List.take_of_length_le (by omega)] at hok
      repeat' (first|(first|(refine k_call ?_;refine al_v (ov_len_c fs.length rfl hlen) rfl ?_)|(refine k_bin ?_;first|(refine al_v (ov_cmp_t rfl rfl rfl (by omega)) rfl ?_)|(refine al_v (ov_cmp_f rfl rfl rfl (by omega)) rfl ?_)))|(refine k_al ?_;first|(refine al_v (ov_move rfl) rfl ?_)|(refine k_g ?_;first|(refine al_gy' rfl rfl (by with_reducible rfl) ?_)|(refine al_gnf rfl rfl (by with_reducible rfl) rfl ?_)|(refine al_gsp rfl rfl (fun hc => ?_) (fun hc => ?_) <;> (try (exfalso;omega))))|(refine al_v (ov_fieldAddr rfl rfl) rfl ?_)|(refine k_load ?_;first|(refine al_v (ov_load rfl rfl) rfl ?_)|(refine al_v (ov_load_agg rfl rfl rfl) rfl ?_))|(refine k_bin ?_;first|(refine al_v (ov_cmp rfl rfl rfl) rfl ?_)|(refine al_v (ov_add rfl rfl (by (first|exact w64 (by omega) (by omega)|rfl))) rfl ?_))|(refine k_pick ?_;first|(refine al_v (ov_pick_t' rfl (by with_reducible rfl) rfl) rfl ?_)|(refine al_v (ov_pick_f' rfl (by with_reducible rfl) rfl) rfl ?_))|(refine al_v (ov_assign rfl) rfl ?_)|(refine k_call ?_;first|(refine al_v (ov_len_str rfl) rfl ?_))|(refine al_nil ?_)|(refine al_box rfl rfl rfl (by first|exact ln0|exact ln1) (by repeat constructor) rfl ?_)|(refine al_alloc rfl rfl rfl (by first|exact ln0|exact ln1) (by repeat constructor) rfl ?_)|(refine al_store rfl rfl rfl rfl rfl (by repeat constructor) (by repeat constructor) ?_)|(refine al_v (ov_not_t rfl (by with_reducible rfl)) rfl ?_)|(refine al_v (ov_not_f rfl (by with_reducible rfl)) rfl ?_))|(first|(refine thn_n ?_)|(refine k_awp ?_;first|(refine awp_seq (awp_region ?_))|(refine awp_seq ?_)|(refine awp_region ?_)|(refine k_cond ?_;first|(refine awp_cond_t' rfl (by with_reducible rfl) ?_)|(refine awp_cond_f' rfl (by with_reducible rfl) ?_))|(refine awp_block ?_)|(refine awp_ret ?_)|(refine awp_skip ?_)|(refine awp_exit ?_))|(refine thn_ret ?_)|(refine lq_exit ?_)|(refine lq_ret ?_)|(refine thn_exit ?_)|(refine inb_n ?_)|(refine inb_ret ?_)|(refine inb_here ?_)))
      refine ret1 (by first | exact .inr rfl | exact .inl rfl) rfl rfl ?_
      exact ⟨by rw [hm, hok], rfl⟩
  · have hm : mayY ⟨st, fs, body, cl⟩ = false := by
      cases hq : mayY ⟨st, fs, body, cl⟩ with
      | false => rfl
      | true =>
        unfold mayY at hq
        simp only [Bool.and_eq_true, decide_eq_true_eq] at hq
        exact absurd ⟨hq.1.1.1, hq.1.1.2, hq.1.2⟩ hg
    repeat' (first|(first|(refine k_call ?_;refine al_v (ov_len_c fs.length rfl hlen) rfl ?_)|(refine k_bin ?_;first|(refine al_v (ov_cmp_t rfl rfl rfl (by omega)) rfl ?_)|(refine al_v (ov_cmp_f rfl rfl rfl (by omega)) rfl ?_)))|(refine k_al ?_;first|(refine al_v (ov_move rfl) rfl ?_)|(refine k_g ?_;first|(refine al_gy' rfl rfl (by with_reducible rfl) ?_)|(refine al_gnf rfl rfl (by with_reducible rfl) rfl ?_)|(refine al_gsp rfl rfl (fun hc => ?_) (fun hc => ?_) <;> (try (exfalso;omega))))|(refine al_v (ov_fieldAddr rfl rfl) rfl ?_)|(refine k_load ?_;first|(refine al_v (ov_load rfl rfl) rfl ?_)|(refine al_v (ov_load_agg rfl rfl rfl) rfl ?_))|(refine k_bin ?_;first|(refine al_v (ov_cmp rfl rfl rfl) rfl ?_)|(refine al_v (ov_add rfl rfl (by (first|exact w64 (by omega) (by omega)|rfl))) rfl ?_))|(refine k_pick ?_;first|(refine al_v (ov_pick_t' rfl (by with_reducible rfl) rfl) rfl ?_)|(refine al_v (ov_pick_f' rfl (by with_reducible rfl) rfl) rfl ?_))|(refine al_v (ov_assign rfl) rfl ?_)|(refine k_call ?_;first|(refine al_v (ov_len_str rfl) rfl ?_))|(refine al_nil ?_)|(refine al_box rfl rfl rfl (by first|exact ln0|exact ln1) (by repeat constructor) rfl ?_)|(refine al_alloc rfl rfl rfl (by first|exact ln0|exact ln1) (by repeat constructor) rfl ?_)|(refine al_store rfl rfl rfl rfl rfl (by repeat constructor) (by repeat constructor) ?_)|(refine al_v (ov_not_t rfl (by with_reducible rfl)) rfl ?_)|(refine al_v (ov_not_f rfl (by with_reducible rfl)) rfl ?_))|(first|(refine thn_n ?_)|(refine k_awp ?_;first|(refine awp_seq (awp_region ?_))|(refine awp_seq ?_)|(refine awp_region ?_)|(refine k_cond ?_;first|(refine awp_cond_t' rfl (by with_reducible rfl) ?_)|(refine awp_cond_f' rfl (by with_reducible rfl) ?_))|(refine awp_block ?_)|(refine awp_ret ?_)|(refine awp_skip ?_)|(refine awp_exit ?_))|(refine thn_ret ?_)|(refine lq_exit ?_)|(refine lq_ret ?_)|(refine thn_exit ?_)|(refine inb_n ?_)|(refine inb_ret ?_)|(refine inb_here ?_)))
    all_goals
      refine ret1 (by first | exact .inr rfl | exact .inl rfl) rfl rfl ?_
      exact ⟨by rw [hm], rfl⟩
end
end Go.Proofs.YtnjolbnbpfjdiaaDoor.L

namespace Go.Proofs.YtnjolbnbpfjdiaaDoor.L
open Go Go.RowKit Go.Proofs
set_option linter.unusedVariables false
set_option linter.unusedSimpArgs false
set_option maxRecDepth 100000
attribute [local irreducible] AL QL AWp Thn InB RetQ ACalls LoopQ HL HO HW HQ NoG JmpQ MidQ HF

section
variable {w0 : World} {base : Nat}
set_option maxHeartbeats 8000000 in
theorem s_printR9 {r : Rp} (hG : Tabs w0 base) (hr : RpFit r) : PCalls (EE w0 base) 64 [.agg (rpC r)] fun rv => rv = prnY r := by
  have hM := s_mayR9 (w0 := w0) (base := base) hr
  unfold prnY
  obtain ⟨st, fs, body, cl⟩ := r
  obtain ⟨hf, he, hbd⟩ := hr
  dsimp only at hf he hbd
  have hlen : (fs.map prAV).length = fs.length := List.length_map _
  change PCalls (EE w0 base) 84 [.agg [.int .i64 st, .rs (fs.map prAV), .str body, .bool cl]] _ at hM
  change PCalls (EE w0 base) 64 [.agg [.int .i64 st, .rs (fs.map prAV), .str body, .bool cl]] _
  refine acalls_of Tryd.func64 rfl rfl rfl (.cons .nil) ?_
  cases hm : mayY ⟨st, fs, body, cl⟩ with
  | false =>
    rw [hm] at hM
    repeat' (first|((refine k_call ?_;refine al_call rfl rfl rfl rfl hM ?_;rintro _ rfl))|(refine k_al ?_;first|(refine al_v (ov_move rfl) rfl ?_)|(refine al_v (ov_fieldAddr rfl rfl) rfl ?_)|(refine k_load ?_;first|(refine al_v (ov_load rfl rfl) rfl ?_)|(refine al_v (ov_load_agg rfl rfl rfl) rfl ?_))|(refine k_bin ?_;first|(refine al_v (ov_cat rfl rfl (by first|omega|(simp only [List.length_append, List.length_cons, List.length_nil];omega)|(simp;omega))) rfl ?_)|(refine al_v (ov_add rfl rfl (by (first|exact w64 (by omega) (by omega)|rfl))) rfl ?_))|(refine al_v (ov_assign rfl) rfl ?_)|(refine k_call ?_;first|(refine al_v (ov_len_str rfl) rfl ?_))|(refine al_v (ov_extract rfl rfl) rfl ?_)|(refine al_nil ?_)|(refine al_box rfl rfl rfl (by first|exact ln0) (by repeat constructor) rfl ?_)|(refine al_v (ov_not_t rfl (by with_reducible rfl)) rfl ?_)|(refine al_v (ov_not_f rfl (by with_reducible rfl)) rfl ?_))|(first|(refine thn_n ?_)|(refine k_awp ?_;first|(refine awp_seq (awp_region ?_))|(refine awp_seq ?_)|(refine awp_region ?_)|(refine k_cond ?_;first|(refine awp_cond_t' rfl (by with_reducible rfl) ?_)|(refine awp_cond_f' rfl (by with_reducible rfl) ?_))|(refine awp_block ?_)|(refine awp_ret ?_)|(refine awp_skip ?_)|(refine awp_exit ?_))|(refine thn_ret ?_)|(refine lq_exit ?_)|(refine thn_exit ?_)|(refine inb_n ?_)|(refine inb_here ?_)))
    refine ret2 (by first | exact .inr rfl | exact .inl rfl) rfl rfl rfl ?_
    exact ⟨rfl, rfl⟩
  | true =>
    rw [hm] at hM
    obtain ⟨h1, h2, h3, h4⟩ := mayY_all hm
    dsimp only at h1 h2 h3 h4
    have hIa := s_itoaA (w0 := w0) (base := base) (n := st) hG (by omega) (by omega)
    have hIb := s_itoaA (w0 := w0) (base := base) (n := (body.length : Int)) hG (by omega) (by omega)
    have hRe := s_reasonR (w0 := w0) (base := base) (st := st)
    have hWl := words_len st
    have hia := Lib.itoa_length_le st (by omega) (by omega)
    have hib := Lib.itoa_length_le (body.length : Int) (by omega) (by omega)
    have e1 : (tx "HTTP/1.1 ").length = 9 := by decide +kernel
    have e2 : (tx "content-length: ").length = 16 := by decide +kernel
    have e3 : (tx "\r\nconnection: ").length = 14 := by decide +kernel
    have hW : ∃ e : Int, ∃ w, reaR st = .tup [.str w, .int .i64 e] ∧ ((e = 0 ∧ w = statW st) ∨ (e ≠ 0 ∧ statW st = tx "Status")) := by
      cases hw : wordsY st with
      | none => exact ⟨3, [], reaR_none hw, .inr ⟨by decide, by unfold statW; rw [hw]; rfl⟩⟩
      | some w => exact ⟨0, w, reaR_some hw, .inl ⟨rfl, by unfold statW; rw [hw]; rfl⟩⟩
    obtain ⟨e, w, hrw, hcase⟩ := hW
    rw [hrw] at hRe
    have hfl := fldsY_len he
    have hfi : ∀ i, (fldsY (fs.take i)).length ≤ fs.length * 2199023255556 := fun i => by
      have := fldsY_len (fs := fs.take i) fun p hp => he p (List.mem_of_mem_take hp)
      refine Nat.le_trans this ?_
      exact Nat.mul_le_mul_right _ (by simp only [List.length_take]; omega)
    have hmax : fs.length * 2199023255556 ≤ 32 * 2199023255556 := Nat.mul_le_mul_right _ h2
    have hy1 : (y1 st (statW st)).length ≤ 200 := by
      unfold y1
      simp only [List.length_append, List.length_cons, List.length_nil, e1]
      omega
    rcases hcase with ⟨rfl, rfl⟩ | ⟨hne, hst⟩
    all_goals
      repeat' (first|(first|(refine k_call ?_;refine al_call rfl rfl rfl rfl hM ?_;rintro _ rfl)|(refine k_call ?_;refine al_call rfl rfl rfl rfl hIa ?_;rintro _ rfl)|(refine k_call ?_;refine al_call rfl rfl rfl rfl hRe ?_;rintro _ rfl)|(refine k_bin ?_;first|(refine al_v (ov_cmp_t rfl rfl rfl (by omega)) rfl ?_)|(refine al_v (ov_cmp_f rfl rfl rfl (by omega)) rfl ?_)))|(refine k_al ?_;first|(refine al_v (ov_move rfl) rfl ?_)|(refine al_v (ov_fieldAddr rfl rfl) rfl ?_)|(refine k_load ?_;first|(refine al_v (ov_load rfl rfl) rfl ?_)|(refine al_v (ov_load_agg rfl rfl rfl) rfl ?_))|(refine k_bin ?_;first|(refine al_v (ov_cat rfl rfl (by first|omega|(simp only [List.length_append, List.length_cons, List.length_nil];omega)|(simp;omega))) rfl ?_)|(refine al_v (ov_add rfl rfl (by (first|exact w64 (by omega) (by omega)|rfl))) rfl ?_))|(refine al_v (ov_assign rfl) rfl ?_)|(refine k_call ?_;first|(refine al_v (ov_len_str rfl) rfl ?_))|(refine al_v (ov_extract rfl rfl) rfl ?_)|(refine al_nil ?_)|(refine al_box rfl rfl rfl (by first|exact ln0) (by repeat constructor) rfl ?_)|(refine al_v (ov_not_t rfl (by with_reducible rfl)) rfl ?_)|(refine al_v (ov_not_f rfl (by with_reducible rfl)) rfl ?_))|(first|(refine thn_n ?_)|(refine k_awp ?_;first|(refine awp_seq (awp_region ?_))|(refine awp_seq ?_)|(refine awp_region ?_)|(refine k_cond ?_;first|(refine awp_cond_t' rfl (by with_reducible rfl) ?_)|(refine awp_cond_f' rfl (by with_reducible rfl) ?_))|(refine awp_block ?_)|(refine awp_ret ?_)|(refine awp_skip ?_)|(refine awp_exit ?_))|(refine thn_ret ?_)|(refine lq_exit ?_)|(refine thn_exit ?_)|(refine inb_n ?_)|(refine inb_here ?_)))
      refine awp_wkn (.spell 6 (.str (y1 st (statW st))) rfl (congrArg AV.str (by first | rfl | (rw [hst]; rfl)))) ?_
      refine awp_loopq (fun q : Nat × List UInt8 => ⟨[(1, .op 0 0), (6, .str q.2), (7, .int .i64 q.1)], [.box [.int .i64 st, .rs (fs.map prAV), .str body, .bool cl]]⟩) (fun q => q.1 ≤ fs.length ∧ q.2 = y1 st (statW st) ++ fldsY (fs.take q.1)) (fun q => fs.length - q.1) (0, y1 st (statW st)) (.of (.same (by repeat constructor))) ⟨Nat.zero_le _, by rw [List.take_zero, fldsY, List.append_nil]⟩ ?_
      rintro ⟨i, l⟩ ⟨hi, hl⟩
      dsimp only at hi hl ⊢
      have hll : l.length ≤ 200 + 32 * 2199023255556 := by
        rw [hl, List.length_append]
        have := hfi i
        omega
      by_cases hlt : i < fs.length
      · obtain ⟨p, hp⟩ : ∃ p, fs[i]? = some p := ⟨_, List.getElem?_eq_getElem hlt⟩
        have hrow := prAV_row hp
        have hel := he p (List.mem_of_getElem? hp)
        have hnx := fldsY_next hp
        repeat' (first|(first|(refine k_call ?_;refine al_v (ov_len_c fs.length rfl hlen) rfl ?_)|(refine ql_v (ov_indexAddr rfl rfl (by omega) hrow rfl) rfl ?_)|(refine k_bin ?_;first|(refine al_v (ov_cmp_t rfl rfl rfl (by omega)) rfl ?_)|(refine al_v (ov_cmp_f rfl rfl rfl (by omega)) rfl ?_)))|(refine k_al ?_;first|(refine al_v (ov_move rfl) rfl ?_)|(refine al_v (ov_fieldAddr rfl rfl) rfl ?_)|(refine k_load ?_;first|(refine al_v (ov_load rfl rfl) rfl ?_)|(refine al_v (ov_load_agg rfl rfl rfl) rfl ?_))|(refine k_bin ?_;first|(refine al_v (ov_cat rfl rfl (by first|omega|(simp only [List.length_append, List.length_cons, List.length_nil];omega)|(simp;omega))) rfl ?_)|(refine al_v (ov_add rfl rfl (by (first|exact w64 (by omega) (by omega)|rfl))) rfl ?_))|(refine al_v (ov_assign rfl) rfl ?_)|(refine k_call ?_;first|(refine al_v (ov_len_str rfl) rfl ?_))|(refine al_v (ov_extract rfl rfl) rfl ?_)|(refine al_nil ?_)|(refine al_box rfl rfl rfl (by first|exact ln0) (by repeat constructor) rfl ?_)|(refine al_v (ov_not_t rfl (by with_reducible rfl)) rfl ?_)|(refine al_v (ov_not_f rfl (by with_reducible rfl)) rfl ?_))|(first|(refine thn_n ?_)|(refine k_awp ?_;first|(refine awp_seq (awp_region ?_))|(refine awp_seq ?_)|(refine awp_region ?_)|(refine k_cond ?_;first|(refine awp_cond_t' rfl (by with_reducible rfl) ?_)|(refine awp_cond_f' rfl (by with_reducible rfl) ?_))|(refine awp_block ?_)|(refine awp_ret ?_)|(refine awp_skip ?_)|(refine awp_exit ?_))|(refine thn_ret ?_)|(refine lq_exit ?_)|(refine thn_exit ?_)|(refine inb_n ?_)|(refine inb_here ?_))|(refine awp_draw (by kernel_rfl) (by kernel_rfl) ?_)|(first|(refine ql_v (ov_move rfl) rfl ?_)|(refine ql_v (ov_assign rfl) rfl ?_)|(refine ql_v (ov_fieldAddr rfl rfl) rfl ?_)|(refine ql_v (ov_load rfl rfl) rfl ?_)|(refine ql_v (ov_load_agg rfl rfl rfl) rfl ?_)|(refine ql_v (ov_len_str rfl) rfl ?_)|(refine ql_v (ov_extract rfl rfl) rfl ?_)|(refine ql_v (ov_add rfl rfl (by (first|exact w64 (by omega) (by omega)|rfl))) rfl ?_)|(refine ql_v (ov_not_t rfl (by with_reducible rfl)) rfl ?_)|(refine ql_v (ov_not_f rfl (by with_reducible rfl)) rfl ?_)|(refine ql_v (ov_cat rfl rfl (by first|omega|(simp only [List.length_append, List.length_cons, List.length_nil];omega)|(simp;omega))) rfl ?_)|(refine ql_nil ?_)))
        first | refine lq_back (i + 1, (((l ++ p.1) ++ [58, 32]) ++ p.2) ++ [13, 10]) (.of (.same (by repeat constructor))) ?_ ?_ | fail
        · refine ⟨by dsimp only; omega, ?_⟩
          dsimp only
          rw [hnx, hl]
          unfold fldY
          simp only [List.append_assoc]
        · dsimp only; omega
      · have hie : fs.take i = fs := List.take_of_length_le (by omega)
        rw [hie] at hl
        have hfin : l ++ y3 body cl = printY ⟨st, fs, body, cl⟩ := by rw [hl]; rfl
        rw [← hfin]
        have hbl := h3
        cases cl
        all_goals
          repeat' (first|(first|(refine k_call ?_;refine al_v (ov_len_c fs.length rfl hlen) rfl ?_)|(refine k_call ?_;refine al_call rfl rfl rfl rfl hIb ?_;rintro _ rfl)|(refine k_bin ?_;first|(refine al_v (ov_cmp_t rfl rfl rfl (by omega)) rfl ?_)|(refine al_v (ov_cmp_f rfl rfl rfl (by omega)) rfl ?_)|(refine al_v (ov_cat rfl rfl (by simp only [List.length_append, List.length_cons, List.length_nil];omega)) rfl ?_)))|(refine k_al ?_;first|(refine al_v (ov_move rfl) rfl ?_)|(refine al_v (ov_fieldAddr rfl rfl) rfl ?_)|(refine k_load ?_;first|(refine al_v (ov_load rfl rfl) rfl ?_)|(refine al_v (ov_load_agg rfl rfl rfl) rfl ?_))|(refine k_bin ?_;first|(refine al_v (ov_cat rfl rfl (by first|omega|(simp only [List.length_append, List.length_cons, List.length_nil];omega)|(simp;omega))) rfl ?_)|(refine al_v (ov_add rfl rfl (by (first|exact w64 (by omega) (by omega)|rfl))) rfl ?_))|(refine al_v (ov_assign rfl) rfl ?_)|(refine k_call ?_;first|(refine al_v (ov_len_str rfl) rfl ?_))|(refine al_v (ov_extract rfl rfl) rfl ?_)|(refine al_nil ?_)|(refine al_box rfl rfl rfl (by first|exact ln0) (by repeat constructor) rfl ?_)|(refine al_v (ov_not_t rfl (by with_reducible rfl)) rfl ?_)|(refine al_v (ov_not_f rfl (by with_reducible rfl)) rfl ?_))|(first|(refine thn_n ?_)|(refine k_awp ?_;first|(refine awp_seq (awp_region ?_))|(refine awp_seq ?_)|(refine awp_region ?_)|(refine k_cond ?_;first|(refine awp_cond_t' rfl (by with_reducible rfl) ?_)|(refine awp_cond_f' rfl (by with_reducible rfl) ?_))|(refine awp_block ?_)|(refine awp_ret ?_)|(refine awp_skip ?_)|(refine awp_exit ?_))|(refine thn_ret ?_)|(refine lq_exit ?_)|(refine thn_exit ?_)|(refine inb_n ?_)|(refine inb_here ?_)))
          refine ret2 (by first | exact .inr rfl | exact .inl rfl) rfl rfl rfl ?_
          refine ⟨?_, rfl⟩
          dsimp only
          rw [if_pos rfl]
          have e4 : tx "close" = "close".toUTF8.data.toList := rfl
          unfold y3 endW
          simp only [List.append_assoc]
          rfl
end
end Go.Proofs.YtnjolbnbpfjdiaaDoor.L

namespace Go.Proofs.YtnjolbnbpfjdiaaDoor.L
open Go Go.RowKit Go.Proofs
set_option linter.unusedVariables false
set_option linter.unusedSimpArgs false
set_option maxRecDepth 100000
attribute [local irreducible] AL QL AWp Thn InB RetQ ACalls LoopQ HL HO HW HQ NoG JmpQ MidQ HF

section
variable {E : Env} {sl : Slots} {H : List AO}
theorem ov_ine_nn {t t' : Nat} {ms : Array (String × TypeId)} (hu : E.P.underlying t = some (.interface ms)) {x : Operand} (hx : ev sl x = some .nilif) : OV E sl H (.binOp .neq t x (.const .nilIface) t') (.bool false) := by
  intro I ν a w hh hs
  have e1 := (ev_ok hs hx).nilif_inv
  have e2 : a.eval (.const .nilIface) = .nilIface := rfl
  refine ⟨_, .pure (.bool false), fun o w' ho _ => ?_⟩
  have h : ∀ d : Nat, (Op.equalIn (d + 1) t .nilIface .nilIface).run E.P w' = .ok true w' := fun d => by simp [Op.equalIn, run_underlying hu]
  simp [execOp, ho, e1, e2, eqGuard, binOp, Op.equal, Op.maxDepth, h 9999]
theorem ov_ine_in {t t' : Nat} {ms : Array (String × TypeId)} (hu : E.P.underlying t = some (.interface ms)) {x y : Operand} (hx : ev sl x = some .iface) (hy : ev sl y = some .nilif) : OV E sl H (.binOp .neq t x y t') (.bool true) := by
  intro I ν a w hh hs
  obtain ⟨q, u, e1⟩ := (ev_ok hs hx).iface_inv
  have e2 := (ev_ok hs hy).nilif_inv
  refine ⟨_, .pure (.bool true), fun o w' ho _ => ?_⟩
  have h : ∀ d : Nat, (Op.equalIn (d + 1) t (.iface q u) .nilIface).run E.P w' = .ok false w' := fun d => by simp [Op.equalIn, run_underlying hu]
  simp [execOp, ho, e1, e2, eqGuard, binOp, Op.equal, Op.maxDepth, h 9999]
end
/-- A response that is empty. -/
def rp0 (st : Int) (fs : Fs) : Rp := ⟨st, fs, [], false⟩
/-- What read answers. -/
def ReadY (s : List UInt8) (rv : AV) : Prop := ∃ (r : Rp) (ok : Bool), rv = .tup [.agg (rpC r), .bool ok] ∧ RpFit r ∧ ∀ r', readP s = some r' → r = r' ∧ ok = true
theorem readP_cut {s : List UInt8} {r : Rp} (h : readP s = some r) : (Lib.cut s [13, 10]).2.2 = true := by
  unfold readP at h
  split at h
  · cases h
  · rename_i hh; simpa using hh
theorem readP_three {s : List UInt8} {r : Rp} (h : readP s = some r) : ∃ a w b g, split3 (Lib.cut s [13, 10]).1 = [a, w, b] ∧ Lib.atoiAll w = .ok r.st ∧ fieldsP ((Lib.cut s [13, 10]).2.1.length + 1) (Lib.cut s [13, 10]).2.1 [] = some g ∧ r = ⟨r.st, g.1, g.2.1, g.2.2⟩ := by
  unfold readP at h
  split at h
  · cases h
  · split at h
    · split at h
      · split at h
        · rename_i e1 _ st e2 _ g e3
          injection h with h
          subst h
          exact ⟨_, _, _, g, e1, e2, e3, rfl⟩
        · cases h
      · cases h
    · cases h
/-- Where a round of reading stands. -/
structure RInv (s : List UInt8) (st : Int) (rest : List UInt8) (out : Fs) : Prop where
  len : rest.length + out.length ≤ s.length
  each : ∀ p ∈ out, p.1.length ≤ s.length ∧ p.2.length ≤ s.length
  eq : ∀ r', readP s = some r' → ∃ f g, rest.length < f ∧ fieldsP f rest out = some g ∧ r' = ⟨st, g.1, g.2.1, g.2.2⟩
section
variable {w0 : World} {base : Nat}
set_option maxHeartbeats 8000000 in
theorem s_readY {s : List UInt8} (hG : Tabs w0 base) (hs : s.length ≤ 1073741824) : PCalls (EE w0 base) 33 [.str s] (ReadY s) := by
  have hC := s_cut (w0 := w0) (base := base) (s := s) (p := [13, 10]) hG.g (by omega)
  have hroom := @cutY_room s [13, 10]
  have hnot := @cutY_not s [13, 10]
  have hpc := @readP_cut s
  have hpt := @readP_three s
  obtain ⟨first, rest0, e1, hcut⟩ : ∃ first rest e, Lib.cut s [13, 10] = (first, rest, e) := ⟨_, _, _, rfl⟩
  rw [hcut] at hC hroom hnot hpc hpt
  dsimp only at hC hroom hnot hpc hpt
  have hfl : first.length ≤ s.length := by
    cases e1 with
    | true => have := hroom rfl; omega
    | false => rw [(hnot rfl).1]; exact Nat.le_refl _
  have hSp := s_splitN3 (w0 := w0) (base := base) (s := first) hG.g (by omega)
  obtain ⟨L, hL⟩ : ∃ L, L = split3 first := ⟨_, rfl⟩
  rw [← hL] at hSp hpt
  have hlen : (txtAV L).length = L.length := txtAV_len L
  refine acalls_of Tryd.func33 rfl rfl rfl (.cons .nil) ?_
  cases e1 with
  | false =>
    repeat' (first|(first|(refine k_call ?_;refine al_call rfl rfl rfl rfl hC ?_;rintro _ rfl)|(refine k_call ?_;refine al_call rfl rfl rfl rfl hSp ?_;rintro _ rfl))|(refine k_al ?_;first|(refine al_v (ov_move rfl) rfl ?_)|(refine k_g ?_;first|(refine al_gy' rfl rfl (by with_reducible rfl) ?_)|(refine al_gnf rfl rfl (by with_reducible rfl) rfl ?_))|(refine al_v (ov_fieldAddr rfl rfl) rfl ?_)|(refine k_load ?_;first|(refine al_v (ov_load rfl rfl) rfl ?_)|(refine al_v (ov_load_agg rfl rfl rfl) rfl ?_))|(refine k_bin ?_;first|(refine al_v (ov_seq rfl rfl) rfl ?_))|(refine k_pick ?_;first|(refine al_v (ov_pick_t' rfl (by with_reducible rfl) rfl) rfl ?_)|(refine al_v (ov_pick_f' rfl (by with_reducible rfl) rfl) rfl ?_))|(refine al_v (ov_assign rfl) rfl ?_)|(refine k_call ?_;first|(refine al_v (ov_len_str rfl) rfl ?_))|(refine al_v (ov_extract rfl rfl) rfl ?_)|(refine al_nil ?_)|(refine al_alloc rfl rfl rfl (by first|exact ln0|exact ln2) (by repeat constructor) rfl ?_)|(refine al_store rfl rfl rfl rfl rfl (by repeat constructor) (by repeat constructor) ?_)|(refine al_v (ov_build rfl rfl rfl (by repeat constructor)) rfl ?_)|(refine al_buildSlice (by rfl) (by rfl) (by rfl) (by rfl) (by decide) (by decide) (by rfl) (by rfl) (by repeat constructor) (by rfl) (by repeat constructor) (by rfl) (by first|exact ln0|exact ln2) (by repeat constructor) rfl ?_)|(refine al_v (ov_not_t rfl (by with_reducible rfl)) rfl ?_)|(refine al_v (ov_not_f rfl (by with_reducible rfl)) rfl ?_))|(first|(refine thn_n ?_)|(refine k_awp ?_;first|(refine awp_seq (awp_region ?_))|(refine awp_seq ?_)|(refine awp_region ?_)|(refine k_cond ?_;first|(refine awp_cond_t' rfl (by with_reducible rfl) ?_)|(refine awp_cond_f' rfl (by with_reducible rfl) ?_))|(refine awp_block ?_)|(refine awp_ret ?_)|(refine awp_skip ?_))|(refine thn_ret ?_)|(refine lq_ret ?_)|(refine inb_n ?_)|(refine inb_ret ?_)))
    refine retq_wkn (.boxLe (id := 0) [.int .i64 0, .rs [], .str [], .bool false] rfl (.cons (.refl _) (.cons .nil (.cons (.refl _) (.cons (.refl _) .nil)))) rfl) ?_
    refine retc1 (by first | exact .inr rfl | exact .inl rfl) rfl rfl rfl rfl rfl ?_
    exact ⟨⟨rp0 0 [], false, rfl, ⟨by simp [rp0], (fun p h => by cases h), by simp [rp0]⟩, fun r' h => by have := hpc h; cases this⟩, rfl⟩
  | true =>
    have hroom := hroom rfl
    simp only [List.length_cons, List.length_nil] at hroom
    by_cases h3 : L.length = 3
    · obtain ⟨a, w, b, rfl⟩ : ∃ a w b, L = [a, w, b] := by
        match L, h3 with
        | [a, w, b], _ => exact ⟨a, w, b, rfl⟩
      have hwl : w.length ≤ first.length := by
        have hh : ∀ (k : Nat) (t x : List UInt8), x ∈ Lib.splitK [32] 0 k t → x.length ≤ t.length := by
          intro k
          induction k with
          | zero => intro t x hx; rw [Lib.splitK] at hx; rw [List.mem_singleton.1 hx]; exact Nat.le_refl _
          | succ k ih =>
            intro t x hx
            rw [Lib.splitK] at hx
            split at hx
            · rw [List.mem_singleton.1 hx]; exact Nat.le_refl _
            · rcases List.mem_cons.1 hx with rfl | hx
              · simp only [List.length_take]; omega
              · have := ih _ _ hx
                rw [List.length_drop] at this
                omega
        have hm : w ∈ split3 first := by rw [← hL]; simp
        exact hh _ _ _ hm
      have hAt := s_atoiA (w0 := w0) (base := base) (l := w) hG (by omega)
      have hA1 : PCalls (EE w0 base) 60 [.str w] fun rv => ∃ st x, rv = .tup [.int .i64 st, x] ∧ ∀ v, Lib.atoiAll w = .ok v → st = v := acalls_mono hAt fun rv os h => ⟨by
        rcases h.1 with ⟨u, h1, h2⟩ | ⟨h1, n, h2⟩
        · exact ⟨u, _, h2, fun v hv => by rw [h1] at hv; injection hv⟩
        · exact ⟨n, _, h2, fun v hv => absurd hv (h1 v)⟩, h.2⟩
      have hrow : (txtAV [a, w, b])[(1 : Int).toNat]? = some [.str w] := rfl
      repeat' (first|(first|(refine k_call ?_;refine al_call rfl rfl rfl rfl hC ?_;rintro _ rfl)|(refine k_call ?_;refine al_call rfl rfl rfl rfl hSp ?_;rintro _ rfl)|(refine k_call ?_;refine al_v (ov_len_c 3 rfl hlen) rfl ?_)|(refine k_bin ?_;first|(refine al_v (ov_cmp_t rfl rfl rfl (by omega)) rfl ?_)|(refine al_v (ov_cmp_f rfl rfl rfl (by omega)) rfl ?_))|(refine al_v (ov_indexAddr rfl rfl (by omega) hrow rfl) rfl ?_)|(refine k_call ?_;refine al_call rfl rfl rfl rfl hA1 ?_;rintro _ ⟨st, x, rfl, hst⟩))|(refine k_al ?_;first|(refine al_v (ov_move rfl) rfl ?_)|(refine k_g ?_;first|(refine al_gy' rfl rfl (by with_reducible rfl) ?_)|(refine al_gnf rfl rfl (by with_reducible rfl) rfl ?_))|(refine al_v (ov_fieldAddr rfl rfl) rfl ?_)|(refine k_load ?_;first|(refine al_v (ov_load rfl rfl) rfl ?_)|(refine al_v (ov_load_agg rfl rfl rfl) rfl ?_))|(refine k_bin ?_;first|(refine al_v (ov_seq rfl rfl) rfl ?_))|(refine k_pick ?_;first|(refine al_v (ov_pick_t' rfl (by with_reducible rfl) rfl) rfl ?_)|(refine al_v (ov_pick_f' rfl (by with_reducible rfl) rfl) rfl ?_))|(refine al_v (ov_assign rfl) rfl ?_)|(refine k_call ?_;first|(refine al_v (ov_len_str rfl) rfl ?_))|(refine al_v (ov_extract rfl rfl) rfl ?_)|(refine al_nil ?_)|(refine al_alloc rfl rfl rfl (by first|exact ln0|exact ln2) (by repeat constructor) rfl ?_)|(refine al_store rfl rfl rfl rfl rfl (by repeat constructor) (by repeat constructor) ?_)|(refine al_v (ov_build rfl rfl rfl (by repeat constructor)) rfl ?_)|(refine al_buildSlice (by rfl) (by rfl) (by rfl) (by rfl) (by decide) (by decide) (by rfl) (by rfl) (by repeat constructor) (by rfl) (by repeat constructor) (by rfl) (by first|exact ln0|exact ln2) (by repeat constructor) rfl ?_)|(refine al_v (ov_not_t rfl (by with_reducible rfl)) rfl ?_)|(refine al_v (ov_not_f rfl (by with_reducible rfl)) rfl ?_))|(first|(refine thn_n ?_)|(refine k_awp ?_;first|(refine awp_seq (awp_region ?_))|(refine awp_seq ?_)|(refine awp_region ?_)|(refine k_cond ?_;first|(refine awp_cond_t' rfl (by with_reducible rfl) ?_)|(refine awp_cond_f' rfl (by with_reducible rfl) ?_))|(refine awp_block ?_)|(refine awp_ret ?_)|(refine awp_skip ?_))|(refine thn_ret ?_)|(refine lq_ret ?_)|(refine inb_n ?_)|(refine inb_ret ?_)))
      refine awp_wkn (.adoptBox (id := 0) (k := 1) (e := 61) (sz := 2) rfl rfl (by decide) rfl rfl rfl) ?_
      refine awp_loopq (fun q : List UInt8 × Fs × Nat × List (List AV) => ⟨[(2, .op 0 0), (5, .str q.1)], [.box [.int .i64 st, .os 1 q.2.2.1, .str [], .bool false], .row 61 2 q.2.2.1 0 q.2.2.2]⟩)
        (fun q => q.2.2.2 = q.2.1.map prAV ∧ RInv s st q.1 q.2.1) (fun q => q.1.length) (rest0, [], 0, []) (.of (.same (by repeat constructor))) ⟨rfl, by simp only [List.length_nil]; omega, (fun p h => by cases h), fun r' h => by
          obtain ⟨a', w', b', g, e1, e2, e3, e4⟩ := hpt h
          injection e1 with _ e1
          injection e1 with e1 _
          subst e1
          exact ⟨_, g, Nat.lt_succ_self _, e3, by rw [hst _ e2]; exact e4⟩⟩ ?_
      rintro ⟨rest, out, ver, xs⟩ ⟨hxs, hI⟩
      dsimp only at hxs hI ⊢
      subst hxs
      obtain ⟨hIl, hIe, hIq⟩ := hI
      have hol : (out.map prAV).length = out.length := List.length_map _
      have hC2 := s_cut (w0 := w0) (base := base) (s := rest) (p := [13, 10]) hG.g (by omega)
      have hroom2 := @cutY_room rest [13, 10]
      have hnot2 := @cutY_not rest [13, 10]
      have hstep : ∀ r', readP s = some r' → ∃ f g, rest.length ≤ f ∧ fieldsP (f + 1) rest out = some g ∧ r' = ⟨st, g.1, g.2.1, g.2.2⟩ := fun r' h => by
        obtain ⟨f, g, h1, h2, h3⟩ := hIq r' h
        exact ⟨f - 1, g, by omega, by rw [Nat.sub_add_cancel (by omega)]; exact h2, h3⟩
      simp only [fieldsP] at hstep
      obtain ⟨line, rest2, e2, hcut2⟩ : ∃ x y z, Lib.cut rest [13, 10] = (x, y, z) := ⟨_, _, _, rfl⟩
      rw [hcut2] at hC2 hroom2 hnot2 hstep
      dsimp only at hC2 hroom2 hnot2 hstep
      have hfit : RpFit (rp0 st out) := ⟨by simp only [rp0]; omega, fun p h => by have := hIe p h; omega, by simp [rp0]⟩
      cases e2 with
      | false =>
        repeat' (first|(first|(refine k_call ?_;refine al_call rfl rfl rfl rfl hC2 ?_;rintro _ rfl))|(refine k_al ?_;first|(refine al_v (ov_move rfl) rfl ?_)|(refine k_g ?_;first|(refine al_gy' rfl rfl (by with_reducible rfl) ?_)|(refine al_gnf rfl rfl (by with_reducible rfl) rfl ?_))|(refine al_v (ov_fieldAddr rfl rfl) rfl ?_)|(refine k_load ?_;first|(refine al_v (ov_load rfl rfl) rfl ?_)|(refine al_v (ov_load_agg rfl rfl rfl) rfl ?_))|(refine k_bin ?_;first|(refine al_v (ov_seq rfl rfl) rfl ?_))|(refine k_pick ?_;first|(refine al_v (ov_pick_t' rfl (by with_reducible rfl) rfl) rfl ?_)|(refine al_v (ov_pick_f' rfl (by with_reducible rfl) rfl) rfl ?_))|(refine al_v (ov_assign rfl) rfl ?_)|(refine k_call ?_;first|(refine al_v (ov_len_str rfl) rfl ?_))|(refine al_v (ov_extract rfl rfl) rfl ?_)|(refine al_nil ?_)|(refine al_alloc rfl rfl rfl (by first|exact ln0|exact ln2) (by repeat constructor) rfl ?_)|(refine al_store rfl rfl rfl rfl rfl (by repeat constructor) (by repeat constructor) ?_)|(refine al_v (ov_build rfl rfl rfl (by repeat constructor)) rfl ?_)|(refine al_buildSlice (by rfl) (by rfl) (by rfl) (by rfl) (by decide) (by decide) (by rfl) (by rfl) (by repeat constructor) (by rfl) (by repeat constructor) (by rfl) (by first|exact ln0|exact ln2) (by repeat constructor) rfl ?_)|(refine al_v (ov_not_t rfl (by with_reducible rfl)) rfl ?_)|(refine al_v (ov_not_f rfl (by with_reducible rfl)) rfl ?_))|(first|(refine thn_n ?_)|(refine k_awp ?_;first|(refine awp_seq (awp_region ?_))|(refine awp_seq ?_)|(refine awp_region ?_)|(refine k_cond ?_;first|(refine awp_cond_t' rfl (by with_reducible rfl) ?_)|(refine awp_cond_f' rfl (by with_reducible rfl) ?_))|(refine awp_block ?_)|(refine awp_ret ?_)|(refine awp_skip ?_))|(refine thn_ret ?_)|(refine lq_ret ?_)|(refine inb_n ?_)|(refine inb_ret ?_)))
        refine retq_wkn (.boxFreeze (ib := 0) (k := 1) (id := 1) rfl rfl rfl rfl (by repeat constructor) rfl rfl) ?_
        refine retc1 (by first | exact .inr rfl | exact .inl rfl) rfl rfl rfl rfl rfl ?_
        exact ⟨⟨rp0 st out, false, rfl, hfit, fun r' h => by obtain ⟨f, g, _, h2, _⟩ := hstep r' h; rw [if_pos rfl] at h2; cases h2⟩, rfl⟩
      | true =>
        have hroom2 := hroom2 rfl
        simp only [List.length_cons, List.length_nil] at hroom2
        have hC3 := s_cut (w0 := w0) (base := base) (s := line) (p := [58, 32]) hG.g (by omega)
        have hroom3 := @cutY_room line [58, 32]
        have hnot3 := @cutY_not line [58, 32]
        obtain ⟨k, v, e3, hcut3⟩ : ∃ k v e, Lib.cut line [58, 32] = (k, v, e) := ⟨_, _, _, rfl⟩
        rw [hcut3] at hC3 hroom3 hnot3 hstep
        dsimp only at hC3 hroom3 hnot3 hstep
        cases e3 with
        | false =>
          repeat' (first|(first|(refine k_call ?_;refine al_call rfl rfl rfl rfl hC2 ?_;rintro _ rfl)|(refine k_call ?_;refine al_call rfl rfl rfl rfl hC3 ?_;rintro _ rfl))|(refine k_al ?_;first|(refine al_v (ov_move rfl) rfl ?_)|(refine k_g ?_;first|(refine al_gy' rfl rfl (by with_reducible rfl) ?_)|(refine al_gnf rfl rfl (by with_reducible rfl) rfl ?_))|(refine al_v (ov_fieldAddr rfl rfl) rfl ?_)|(refine k_load ?_;first|(refine al_v (ov_load rfl rfl) rfl ?_)|(refine al_v (ov_load_agg rfl rfl rfl) rfl ?_))|(refine k_bin ?_;first|(refine al_v (ov_seq rfl rfl) rfl ?_))|(refine k_pick ?_;first|(refine al_v (ov_pick_t' rfl (by with_reducible rfl) rfl) rfl ?_)|(refine al_v (ov_pick_f' rfl (by with_reducible rfl) rfl) rfl ?_))|(refine al_v (ov_assign rfl) rfl ?_)|(refine k_call ?_;first|(refine al_v (ov_len_str rfl) rfl ?_))|(refine al_v (ov_extract rfl rfl) rfl ?_)|(refine al_nil ?_)|(refine al_alloc rfl rfl rfl (by first|exact ln0|exact ln2) (by repeat constructor) rfl ?_)|(refine al_store rfl rfl rfl rfl rfl (by repeat constructor) (by repeat constructor) ?_)|(refine al_v (ov_build rfl rfl rfl (by repeat constructor)) rfl ?_)|(refine al_buildSlice (by rfl) (by rfl) (by rfl) (by rfl) (by decide) (by decide) (by rfl) (by rfl) (by repeat constructor) (by rfl) (by repeat constructor) (by rfl) (by first|exact ln0|exact ln2) (by repeat constructor) rfl ?_)|(refine al_v (ov_not_t rfl (by with_reducible rfl)) rfl ?_)|(refine al_v (ov_not_f rfl (by with_reducible rfl)) rfl ?_))|(first|(refine thn_n ?_)|(refine k_awp ?_;first|(refine awp_seq (awp_region ?_))|(refine awp_seq ?_)|(refine awp_region ?_)|(refine k_cond ?_;first|(refine awp_cond_t' rfl (by with_reducible rfl) ?_)|(refine awp_cond_f' rfl (by with_reducible rfl) ?_))|(refine awp_block ?_)|(refine awp_ret ?_)|(refine awp_skip ?_))|(refine thn_ret ?_)|(refine lq_ret ?_)|(refine inb_n ?_)|(refine inb_ret ?_)))
          refine retq_wkn (.boxFreeze (ib := 0) (k := 1) (id := 1) rfl rfl rfl rfl (by repeat constructor) rfl rfl) ?_
          refine retc1 (by first | exact .inr rfl | exact .inl rfl) rfl rfl rfl rfl rfl ?_
          exact ⟨⟨rp0 st out, false, rfl, hfit, fun r' h => by obtain ⟨f, g, _, h2, _⟩ := hstep r' h; rw [if_neg (by decide), if_pos rfl] at h2; cases h2⟩, rfl⟩
        | true =>
          have hroom3 := hroom3 rfl
          simp only [List.length_cons, List.length_nil] at hroom3
          by_cases hk : k = clN
          · have hAt2 := s_atoiA (w0 := w0) (base := base) (l := v) hG (by omega)
            have hC4 := s_cut (w0 := w0) (base := base) (s := rest2) (p := [13, 10, 13, 10]) hG.g (by omega)
            have hroom4 := @cutY_room rest2 [13, 10, 13, 10]
            have hnot4 := @cutY_not rest2 [13, 10, 13, 10]
            obtain ⟨l3, rest3, e4, hcut4⟩ : ∃ k v e, Lib.cut rest2 [13, 10, 13, 10] = (k, v, e) := ⟨_, _, _, rfl⟩
            rw [hcut4] at hC4 hroom4 hnot4 hstep
            dsimp only at hC4 hroom4 hnot4 hstep
            cases hx : Lib.atoiAll v with
            | ok n =>
              have hA2 : PCalls (EE w0 base) 60 [.str v] fun rv => rv = .tup [.int .i64 n, .nilif] := acalls_mono hAt2 fun rv os h => ⟨by
                rcases h.1 with ⟨u, h1, h2⟩ | ⟨h1, _⟩
                · rw [hx] at h1; injection h1 with h1; subst h1; exact h2
                · exact absurd hx (h1 n), h.2⟩
              by_cases hg : e4 = true ∧ 0 ≤ n ∧ n ≤ (rest3.length : Int)
              · obtain ⟨rfl, hn0, hn1⟩ := hg
                have hroom4 := hroom4 rfl
                repeat' (first|(first|(refine awp_held (id := 18) [(6, [0]), (8, [0])] [⟨0, true, [], bl 9 28⟩, ⟨1, true, [], bl 9 29⟩, ⟨2, true, [0], bl 9 107⟩, ⟨3, true, [0], bl 9 103⟩, ⟨4, true, [0], bl 9 111⟩, ⟨5, true, [], bl 9 31⟩, ⟨6, false, [], []⟩, ⟨7, true, [], bl 9 127⟩, ⟨8, false, [], []⟩] (by kernel_rfl) (by kernel_rfl) rfl (by kernel_rfl) ?_)|(refine k_call ?_;refine al_call rfl rfl rfl rfl hC2 ?_;rintro _ rfl)|(refine k_call ?_;refine al_call rfl rfl rfl rfl hC3 ?_;rintro _ rfl)|(refine k_call ?_;refine al_call rfl rfl rfl rfl hC4 ?_;rintro _ rfl)|(refine k_call ?_;refine al_call rfl rfl rfl rfl hA2 ?_;rintro _ rfl)|(refine k_bin ?_;first|(refine al_v (ov_seq_t hk rfl rfl) rfl ?_)|(refine al_v (ov_cmp_t rfl rfl rfl (by omega)) rfl ?_)|(refine al_v (ov_cmp_f rfl rfl rfl (by omega)) rfl ?_))|(refine k_bin ?_;refine al_v (ov_ine_nn Tryd.underlying56 rfl) rfl ?_)|(refine hw_v (ov_slice_hi rfl rfl (by omega) (by omega)) rfl ?_))|(refine k_al ?_;first|(refine al_v (ov_move rfl) rfl ?_)|(refine k_g ?_;first|(refine al_gy' rfl rfl (by with_reducible rfl) ?_)|(refine al_gnf rfl rfl (by with_reducible rfl) rfl ?_))|(refine al_v (ov_fieldAddr rfl rfl) rfl ?_)|(refine k_load ?_;first|(refine al_v (ov_load rfl rfl) rfl ?_)|(refine al_v (ov_load_agg rfl rfl rfl) rfl ?_))|(refine k_bin ?_;first|(refine al_v (ov_seq rfl rfl) rfl ?_))|(refine k_pick ?_;first|(refine al_v (ov_pick_t' rfl (by with_reducible rfl) rfl) rfl ?_)|(refine al_v (ov_pick_f' rfl (by with_reducible rfl) rfl) rfl ?_))|(refine al_v (ov_assign rfl) rfl ?_)|(refine k_call ?_;first|(refine al_v (ov_len_str rfl) rfl ?_))|(refine al_v (ov_extract rfl rfl) rfl ?_)|(refine al_nil ?_)|(refine al_alloc rfl rfl rfl (by first|exact ln0|exact ln2) (by repeat constructor) rfl ?_)|(refine al_store rfl rfl rfl rfl rfl (by repeat constructor) (by repeat constructor) ?_)|(refine al_v (ov_build rfl rfl rfl (by repeat constructor)) rfl ?_)|(refine al_buildSlice (by rfl) (by rfl) (by rfl) (by rfl) (by decide) (by decide) (by rfl) (by rfl) (by repeat constructor) (by rfl) (by repeat constructor) (by rfl) (by first|exact ln0|exact ln2) (by repeat constructor) rfl ?_)|(refine al_v (ov_not_t rfl (by with_reducible rfl)) rfl ?_)|(refine al_v (ov_not_f rfl (by with_reducible rfl)) rfl ?_))|(first|(refine thn_n ?_)|(refine k_awp ?_;first|(refine awp_seq (awp_region ?_))|(refine awp_seq ?_)|(refine awp_region ?_)|(refine k_cond ?_;first|(refine awp_cond_t' rfl (by with_reducible rfl) ?_)|(refine awp_cond_f' rfl (by with_reducible rfl) ?_))|(refine awp_block ?_)|(refine awp_ret ?_)|(refine awp_skip ?_))|(refine thn_ret ?_)|(refine lq_ret ?_)|(refine inb_n ?_)|(refine inb_ret ?_))|(first|(refine k_hw ?_;first|(refine hw_s rfl ?_)|(refine hw_v (ov_move rfl) rfl ?_)|(refine hw_v (ov_assign rfl) rfl ?_)|(refine hw_v (ov_fieldAddr rfl rfl) rfl ?_)|(refine hw_v (ov_load rfl rfl) rfl ?_)|(refine hw_v (ov_load_agg rfl rfl rfl) rfl ?_)|(refine hw_v (ov_pick_t' rfl (by with_reducible rfl) rfl) rfl ?_)|(refine hw_v (ov_pick_f' rfl (by with_reducible rfl) rfl) rfl ?_)|(refine hw_v (ov_len_str rfl) rfl ?_)|(refine hw_v (ov_seq rfl rfl) rfl ?_)|(refine hw_v (ov_extract rfl rfl) rfl ?_)|(refine hw_v (ov_not_t rfl (by with_reducible rfl)) rfl ?_)|(refine hw_v (ov_not_f rfl (by with_reducible rfl)) rfl ?_)|(refine hw_v (ov_build rfl rfl rfl (by repeat constructor)) rfl ?_))|(refine hl_op rfl ?_)|(refine k_ho ?_;first|(refine ho_n ?_))|(refine hl_nil ?_)|(refine hq_back ?_)))
                refine retq_wkn (.boxFreeze (ib := 0) (k := 1) (id := 1) rfl rfl rfl rfl (by repeat constructor) rfl rfl) ?_
                refine retc1 (by first | exact .inr rfl | exact .inl rfl) rfl rfl rfl rfl rfl ?_
                refine ⟨⟨⟨st, out, rest3.take n.toNat, decide (l3 = tx "connection: close")⟩, true, rfl, ⟨by dsimp only; omega, fun p h => by have := hIe p h; omega, by simp only [List.length_take, List.length_cons, List.length_nil] at *; omega⟩, fun r' h => ⟨?_, rfl⟩⟩, rfl⟩
                obtain ⟨f, g, _, h2, h3⟩ := hstep r' h
                rw [if_neg (by decide), if_neg (by decide), if_pos hk, hx] at h2
                dsimp only at h2
                rw [if_pos ⟨rfl, hn0, hn1⟩] at h2
                injection h2 with h2
                rw [h3, ← h2]
              · have hbad : ∀ r', readP s = some r' → False := fun r' h => by
                  obtain ⟨f, g, _, h2, h3⟩ := hstep r' h
                  rw [if_neg (by decide), if_neg (by decide), if_pos hk, hx] at h2
                  dsimp only at h2
                  rw [if_neg hg] at h2
                  cases h2
                cases e4 with
                | false =>
                  repeat' (first|(first|(refine awp_held (id := 18) [(6, [0]), (8, [0])] [⟨0, true, [], bl 9 28⟩, ⟨1, true, [], bl 9 29⟩, ⟨2, true, [0], bl 9 107⟩, ⟨3, true, [0], bl 9 103⟩, ⟨4, true, [0], bl 9 111⟩, ⟨5, true, [], bl 9 31⟩, ⟨6, false, [], []⟩, ⟨7, true, [], bl 9 127⟩, ⟨8, false, [], []⟩] (by kernel_rfl) (by kernel_rfl) rfl (by kernel_rfl) ?_)|(refine k_call ?_;refine al_call rfl rfl rfl rfl hC2 ?_;rintro _ rfl)|(refine k_call ?_;refine al_call rfl rfl rfl rfl hC3 ?_;rintro _ rfl)|(refine k_call ?_;refine al_call rfl rfl rfl rfl hC4 ?_;rintro _ rfl)|(refine k_call ?_;refine al_call rfl rfl rfl rfl hA2 ?_;rintro _ rfl)|(refine k_bin ?_;first|(refine al_v (ov_seq_t hk rfl rfl) rfl ?_)|(refine al_v (ov_cmp_t rfl rfl rfl (by omega)) rfl ?_)|(refine al_v (ov_cmp_f rfl rfl rfl (by omega)) rfl ?_))|(refine k_bin ?_;refine al_v (ov_ine_nn Tryd.underlying56 rfl) rfl ?_))|(refine k_al ?_;first|(refine al_v (ov_move rfl) rfl ?_)|(refine k_g ?_;first|(refine al_gy' rfl rfl (by with_reducible rfl) ?_)|(refine al_gnf rfl rfl (by with_reducible rfl) rfl ?_))|(refine al_v (ov_fieldAddr rfl rfl) rfl ?_)|(refine k_load ?_;first|(refine al_v (ov_load rfl rfl) rfl ?_)|(refine al_v (ov_load_agg rfl rfl rfl) rfl ?_))|(refine k_bin ?_;first|(refine al_v (ov_seq rfl rfl) rfl ?_))|(refine k_pick ?_;first|(refine al_v (ov_pick_t' rfl (by with_reducible rfl) rfl) rfl ?_)|(refine al_v (ov_pick_f' rfl (by with_reducible rfl) rfl) rfl ?_))|(refine al_v (ov_assign rfl) rfl ?_)|(refine k_call ?_;first|(refine al_v (ov_len_str rfl) rfl ?_))|(refine al_v (ov_extract rfl rfl) rfl ?_)|(refine al_nil ?_)|(refine al_alloc rfl rfl rfl (by first|exact ln0|exact ln2) (by repeat constructor) rfl ?_)|(refine al_store rfl rfl rfl rfl rfl (by repeat constructor) (by repeat constructor) ?_)|(refine al_v (ov_build rfl rfl rfl (by repeat constructor)) rfl ?_)|(refine al_buildSlice (by rfl) (by rfl) (by rfl) (by rfl) (by decide) (by decide) (by rfl) (by rfl) (by repeat constructor) (by rfl) (by repeat constructor) (by rfl) (by first|exact ln0|exact ln2) (by repeat constructor) rfl ?_)|(refine al_v (ov_not_t rfl (by with_reducible rfl)) rfl ?_)|(refine al_v (ov_not_f rfl (by with_reducible rfl)) rfl ?_))|(first|(refine thn_n ?_)|(refine k_awp ?_;first|(refine awp_seq (awp_region ?_))|(refine awp_seq ?_)|(refine awp_region ?_)|(refine k_cond ?_;first|(refine awp_cond_t' rfl (by with_reducible rfl) ?_)|(refine awp_cond_f' rfl (by with_reducible rfl) ?_))|(refine awp_block ?_)|(refine awp_ret ?_)|(refine awp_skip ?_))|(refine thn_ret ?_)|(refine lq_ret ?_)|(refine inb_n ?_)|(refine inb_ret ?_))|(first|(refine k_hw ?_;first|(refine hw_s rfl ?_)|(refine hw_v (ov_move rfl) rfl ?_)|(refine hw_v (ov_assign rfl) rfl ?_)|(refine hw_v (ov_fieldAddr rfl rfl) rfl ?_)|(refine hw_v (ov_load rfl rfl) rfl ?_)|(refine hw_v (ov_load_agg rfl rfl rfl) rfl ?_)|(refine hw_v (ov_pick_t' rfl (by with_reducible rfl) rfl) rfl ?_)|(refine hw_v (ov_pick_f' rfl (by with_reducible rfl) rfl) rfl ?_)|(refine hw_v (ov_len_str rfl) rfl ?_)|(refine hw_v (ov_seq rfl rfl) rfl ?_)|(refine hw_v (ov_extract rfl rfl) rfl ?_)|(refine hw_v (ov_not_t rfl (by with_reducible rfl)) rfl ?_)|(refine hw_v (ov_not_f rfl (by with_reducible rfl)) rfl ?_)|(refine hw_v (ov_build rfl rfl rfl (by repeat constructor)) rfl ?_))|(refine hl_op rfl ?_)|(refine k_ho ?_;first|(refine ho_n ?_))|(refine hl_nil ?_)|(refine hq_back ?_)))
                  all_goals
                    refine retq_wkn (.boxFreeze (ib := 0) (k := 1) (id := 1) rfl rfl rfl rfl (by repeat constructor) rfl rfl) ?_
                    refine retc1 (by first | exact .inr rfl | exact .inl rfl) rfl rfl rfl rfl rfl ?_
                    exact ⟨⟨rp0 st out, false, rfl, hfit, fun r' h => (hbad r' h).elim⟩, rfl⟩
                | true =>
                  have hg2 : n < 0 ∨ (0 ≤ n ∧ (rest3.length : Int) < n) := by
                    rcases Int.lt_or_le n 0 with h | h
                    · exact .inl h
                    · right
                      refine ⟨h, ?_⟩
                      rcases Int.lt_or_le (rest3.length : Int) n with h2 | h2
                      · exact h2
                      · exact absurd ⟨rfl, h, h2⟩ hg
                  rcases hg2 with hg2 | ⟨hg2, hg3⟩
                  all_goals
                    repeat' (first|(first|(refine awp_held (id := 18) [(6, [0]), (8, [0])] [⟨0, true, [], bl 9 28⟩, ⟨1, true, [], bl 9 29⟩, ⟨2, true, [0], bl 9 107⟩, ⟨3, true, [0], bl 9 103⟩, ⟨4, true, [0], bl 9 111⟩, ⟨5, true, [], bl 9 31⟩, ⟨6, false, [], []⟩, ⟨7, true, [], bl 9 127⟩, ⟨8, false, [], []⟩] (by kernel_rfl) (by kernel_rfl) rfl (by kernel_rfl) ?_)|(refine k_call ?_;refine al_call rfl rfl rfl rfl hC2 ?_;rintro _ rfl)|(refine k_call ?_;refine al_call rfl rfl rfl rfl hC3 ?_;rintro _ rfl)|(refine k_call ?_;refine al_call rfl rfl rfl rfl hC4 ?_;rintro _ rfl)|(refine k_call ?_;refine al_call rfl rfl rfl rfl hA2 ?_;rintro _ rfl)|(refine k_bin ?_;first|(refine al_v (ov_seq_t hk rfl rfl) rfl ?_)|(refine al_v (ov_cmp_t rfl rfl rfl (by omega)) rfl ?_)|(refine al_v (ov_cmp_f rfl rfl rfl (by omega)) rfl ?_))|(refine k_bin ?_;refine al_v (ov_ine_nn Tryd.underlying56 rfl) rfl ?_))|(refine k_al ?_;first|(refine al_v (ov_move rfl) rfl ?_)|(refine k_g ?_;first|(refine al_gy' rfl rfl (by with_reducible rfl) ?_)|(refine al_gnf rfl rfl (by with_reducible rfl) rfl ?_))|(refine al_v (ov_fieldAddr rfl rfl) rfl ?_)|(refine k_load ?_;first|(refine al_v (ov_load rfl rfl) rfl ?_)|(refine al_v (ov_load_agg rfl rfl rfl) rfl ?_))|(refine k_bin ?_;first|(refine al_v (ov_seq rfl rfl) rfl ?_))|(refine k_pick ?_;first|(refine al_v (ov_pick_t' rfl (by with_reducible rfl) rfl) rfl ?_)|(refine al_v (ov_pick_f' rfl (by with_reducible rfl) rfl) rfl ?_))|(refine al_v (ov_assign rfl) rfl ?_)|(refine k_call ?_;first|(refine al_v (ov_len_str rfl) rfl ?_))|(refine al_v (ov_extract rfl rfl) rfl ?_)|(refine al_nil ?_)|(refine al_alloc rfl rfl rfl (by first|exact ln0|exact ln2) (by repeat constructor) rfl ?_)|(refine al_store rfl rfl rfl rfl rfl (by repeat constructor) (by repeat constructor) ?_)|(refine al_v (ov_build rfl rfl rfl (by repeat constructor)) rfl ?_)|(refine al_buildSlice (by rfl) (by rfl) (by rfl) (by rfl) (by decide) (by decide) (by rfl) (by rfl) (by repeat constructor) (by rfl) (by repeat constructor) (by rfl) (by first|exact ln0|exact ln2) (by repeat constructor) rfl ?_)|(refine al_v (ov_not_t rfl (by with_reducible rfl)) rfl ?_)|(refine al_v (ov_not_f rfl (by with_reducible rfl)) rfl ?_))|(first|(refine thn_n ?_)|(refine k_awp ?_;first|(refine awp_seq (awp_region ?_))|(refine awp_seq ?_)|(refine awp_region ?_)|(refine k_cond ?_;first|(refine awp_cond_t' rfl (by with_reducible rfl) ?_)|(refine awp_cond_f' rfl (by with_reducible rfl) ?_))|(refine awp_block ?_)|(refine awp_ret ?_)|(refine awp_skip ?_))|(refine thn_ret ?_)|(refine lq_ret ?_)|(refine inb_n ?_)|(refine inb_ret ?_))|(first|(refine k_hw ?_;first|(refine hw_s rfl ?_)|(refine hw_v (ov_move rfl) rfl ?_)|(refine hw_v (ov_assign rfl) rfl ?_)|(refine hw_v (ov_fieldAddr rfl rfl) rfl ?_)|(refine hw_v (ov_load rfl rfl) rfl ?_)|(refine hw_v (ov_load_agg rfl rfl rfl) rfl ?_)|(refine hw_v (ov_pick_t' rfl (by with_reducible rfl) rfl) rfl ?_)|(refine hw_v (ov_pick_f' rfl (by with_reducible rfl) rfl) rfl ?_)|(refine hw_v (ov_len_str rfl) rfl ?_)|(refine hw_v (ov_seq rfl rfl) rfl ?_)|(refine hw_v (ov_extract rfl rfl) rfl ?_)|(refine hw_v (ov_not_t rfl (by with_reducible rfl)) rfl ?_)|(refine hw_v (ov_not_f rfl (by with_reducible rfl)) rfl ?_)|(refine hw_v (ov_build rfl rfl rfl (by repeat constructor)) rfl ?_))|(refine hl_op rfl ?_)|(refine k_ho ?_;first|(refine ho_n ?_))|(refine hl_nil ?_)|(refine hq_back ?_)))
                  all_goals
                    refine retq_wkn (.boxFreeze (ib := 0) (k := 1) (id := 1) rfl rfl rfl rfl (by repeat constructor) rfl rfl) ?_
                    refine retc1 (by first | exact .inr rfl | exact .inl rfl) rfl rfl rfl rfl rfl ?_
                    exact ⟨⟨rp0 st out, false, rfl, hfit, fun r' h => (hbad r' h).elim⟩, rfl⟩
            | _ =>
              have hA2 : PCalls (EE w0 base) 60 [.str v] fun rv => ∃ n, rv = .tup [.int .i64 n, .iface] := acalls_mono hAt2 fun rv os h => ⟨by
                rcases h.1 with ⟨u, h1, h2⟩ | ⟨_, h2⟩
                · rw [hx] at h1; cases h1
                · exact h2, h.2⟩
              have hbad : ∀ r', readP s = some r' → False := fun r' h => by
                obtain ⟨f, g, _, h2, h3⟩ := hstep r' h
                rw [if_neg (by decide), if_neg (by decide), if_pos hk, hx] at h2
                cases h2
              repeat' (first|(first|(refine awp_held (id := 18) [(6, [0]), (8, [0])] [⟨0, true, [], bl 9 28⟩, ⟨1, true, [], bl 9 29⟩, ⟨2, true, [0], bl 9 107⟩, ⟨3, true, [0], bl 9 103⟩, ⟨4, true, [0], bl 9 111⟩, ⟨5, true, [], bl 9 31⟩, ⟨6, false, [], []⟩, ⟨7, true, [], bl 9 127⟩, ⟨8, false, [], []⟩] (by kernel_rfl) (by kernel_rfl) rfl (by kernel_rfl) ?_)|(refine k_call ?_;refine al_call rfl rfl rfl rfl hC2 ?_;rintro _ rfl)|(refine k_call ?_;refine al_call rfl rfl rfl rfl hC3 ?_;rintro _ rfl)|(refine k_call ?_;refine al_call rfl rfl rfl rfl hC4 ?_;rintro _ rfl)|(refine k_call ?_;refine al_call rfl rfl rfl rfl hA2 ?_;rintro _ ⟨n, rfl⟩)|(refine k_bin ?_;first|(refine al_v (ov_seq_t hk rfl rfl) rfl ?_))|(refine k_bin ?_;refine al_v (ov_ine_in Tryd.underlying56 rfl rfl) rfl ?_))|(refine k_al ?_;first|(refine al_v (ov_move rfl) rfl ?_)|(refine k_g ?_;first|(refine al_gy' rfl rfl (by with_reducible rfl) ?_)|(refine al_gnf rfl rfl (by with_reducible rfl) rfl ?_))|(refine al_v (ov_fieldAddr rfl rfl) rfl ?_)|(refine k_load ?_;first|(refine al_v (ov_load rfl rfl) rfl ?_)|(refine al_v (ov_load_agg rfl rfl rfl) rfl ?_))|(refine k_bin ?_;first|(refine al_v (ov_seq rfl rfl) rfl ?_))|(refine k_pick ?_;first|(refine al_v (ov_pick_t' rfl (by with_reducible rfl) rfl) rfl ?_)|(refine al_v (ov_pick_f' rfl (by with_reducible rfl) rfl) rfl ?_))|(refine al_v (ov_assign rfl) rfl ?_)|(refine k_call ?_;first|(refine al_v (ov_len_str rfl) rfl ?_))|(refine al_v (ov_extract rfl rfl) rfl ?_)|(refine al_nil ?_)|(refine al_alloc rfl rfl rfl (by first|exact ln0|exact ln2) (by repeat constructor) rfl ?_)|(refine al_store rfl rfl rfl rfl rfl (by repeat constructor) (by repeat constructor) ?_)|(refine al_v (ov_build rfl rfl rfl (by repeat constructor)) rfl ?_)|(refine al_buildSlice (by rfl) (by rfl) (by rfl) (by rfl) (by decide) (by decide) (by rfl) (by rfl) (by repeat constructor) (by rfl) (by repeat constructor) (by rfl) (by first|exact ln0|exact ln2) (by repeat constructor) rfl ?_)|(refine al_v (ov_not_t rfl (by with_reducible rfl)) rfl ?_)|(refine al_v (ov_not_f rfl (by with_reducible rfl)) rfl ?_))|(first|(refine thn_n ?_)|(refine k_awp ?_;first|(refine awp_seq (awp_region ?_))|(refine awp_seq ?_)|(refine awp_region ?_)|(refine k_cond ?_;first|(refine awp_cond_t' rfl (by with_reducible rfl) ?_)|(refine awp_cond_f' rfl (by with_reducible rfl) ?_))|(refine awp_block ?_)|(refine awp_ret ?_)|(refine awp_skip ?_))|(refine thn_ret ?_)|(refine lq_ret ?_)|(refine inb_n ?_)|(refine inb_ret ?_))|(first|(refine k_hw ?_;first|(refine hw_s rfl ?_)|(refine hw_v (ov_move rfl) rfl ?_)|(refine hw_v (ov_assign rfl) rfl ?_)|(refine hw_v (ov_fieldAddr rfl rfl) rfl ?_)|(refine hw_v (ov_load rfl rfl) rfl ?_)|(refine hw_v (ov_load_agg rfl rfl rfl) rfl ?_)|(refine hw_v (ov_pick_t' rfl (by with_reducible rfl) rfl) rfl ?_)|(refine hw_v (ov_pick_f' rfl (by with_reducible rfl) rfl) rfl ?_)|(refine hw_v (ov_len_str rfl) rfl ?_)|(refine hw_v (ov_seq rfl rfl) rfl ?_)|(refine hw_v (ov_extract rfl rfl) rfl ?_)|(refine hw_v (ov_not_t rfl (by with_reducible rfl)) rfl ?_)|(refine hw_v (ov_not_f rfl (by with_reducible rfl)) rfl ?_)|(refine hw_v (ov_build rfl rfl rfl (by repeat constructor)) rfl ?_))|(refine hl_op rfl ?_)|(refine k_ho ?_;first|(refine ho_n ?_))|(refine hl_nil ?_)|(refine hq_back ?_)))
              all_goals
                refine retq_wkn (.boxFreeze (ib := 0) (k := 1) (id := 1) rfl rfl rfl rfl (by repeat constructor) rfl rfl) ?_
                refine retc1 (by first | exact .inr rfl | exact .inl rfl) rfl rfl rfl rfl rfl ?_
                exact ⟨⟨rp0 st out, false, rfl, hfit, fun r' h => (hbad r' h).elim⟩, rfl⟩
          · repeat' (first|(first|(refine k_call ?_;refine al_call rfl rfl rfl rfl hC2 ?_;rintro _ rfl)|(refine k_call ?_;refine al_call rfl rfl rfl rfl hC3 ?_;rintro _ rfl)|(refine k_bin ?_;first|(refine al_v (ov_seq_f hk rfl rfl) rfl ?_))|(refine k_call ?_;refine al_append rfl rfl (by repeat constructor) (src_os rfl rfl) rfl (by decide) (by simp only [List.length_cons, List.length_nil];omega) rfl ?_))|(refine k_al ?_;first|(refine al_v (ov_move rfl) rfl ?_)|(refine k_g ?_;first|(refine al_gy' rfl rfl (by with_reducible rfl) ?_)|(refine al_gnf rfl rfl (by with_reducible rfl) rfl ?_))|(refine al_v (ov_fieldAddr rfl rfl) rfl ?_)|(refine k_load ?_;first|(refine al_v (ov_load rfl rfl) rfl ?_)|(refine al_v (ov_load_agg rfl rfl rfl) rfl ?_))|(refine k_bin ?_;first|(refine al_v (ov_seq rfl rfl) rfl ?_))|(refine k_pick ?_;first|(refine al_v (ov_pick_t' rfl (by with_reducible rfl) rfl) rfl ?_)|(refine al_v (ov_pick_f' rfl (by with_reducible rfl) rfl) rfl ?_))|(refine al_v (ov_assign rfl) rfl ?_)|(refine k_call ?_;first|(refine al_v (ov_len_str rfl) rfl ?_))|(refine al_v (ov_extract rfl rfl) rfl ?_)|(refine al_nil ?_)|(refine al_alloc rfl rfl rfl (by first|exact ln0|exact ln2) (by repeat constructor) rfl ?_)|(refine al_store rfl rfl rfl rfl rfl (by repeat constructor) (by repeat constructor) ?_)|(refine al_v (ov_build rfl rfl rfl (by repeat constructor)) rfl ?_)|(refine al_buildSlice (by rfl) (by rfl) (by rfl) (by rfl) (by decide) (by decide) (by rfl) (by rfl) (by repeat constructor) (by rfl) (by repeat constructor) (by rfl) (by first|exact ln0|exact ln2) (by repeat constructor) rfl ?_)|(refine al_v (ov_not_t rfl (by with_reducible rfl)) rfl ?_)|(refine al_v (ov_not_f rfl (by with_reducible rfl)) rfl ?_))|(first|(refine thn_n ?_)|(refine k_awp ?_;first|(refine awp_seq (awp_region ?_))|(refine awp_seq ?_)|(refine awp_region ?_)|(refine k_cond ?_;first|(refine awp_cond_t' rfl (by with_reducible rfl) ?_)|(refine awp_cond_f' rfl (by with_reducible rfl) ?_))|(refine awp_block ?_)|(refine awp_ret ?_)|(refine awp_skip ?_))|(refine thn_ret ?_)|(refine lq_ret ?_)|(refine inb_n ?_)|(refine inb_ret ?_)))
            refine lq_back (rest2, out ++ [(k, v)], ver + 1, _) (.of (wk_drop [_] rfl (by repeat constructor) rfl (by repeat constructor) rfl)) ?_ ?_
            · refine ⟨by rw [List.map_append]; rfl, by simp only [List.length_append, List.length_cons, List.length_nil]; omega, ?_, ?_⟩
              · intro p hp
                rcases List.mem_append.1 hp with hp | hp
                · exact hIe p hp
                · rw [List.mem_singleton.1 hp]
                  exact ⟨by dsimp only; omega, by dsimp only; omega⟩
              · intro r' h
                obtain ⟨f, g, h1, h2, h3⟩ := hstep r' h
                rw [if_neg (by decide), if_neg (by decide), if_neg hk] at h2
                exact ⟨f, g, by dsimp only; omega, h2, h3⟩
            · dsimp only; omega
    · repeat' (first|(first|(refine k_call ?_;refine al_call rfl rfl rfl rfl hC ?_;rintro _ rfl)|(refine k_call ?_;refine al_call rfl rfl rfl rfl hSp ?_;rintro _ rfl)|(refine k_call ?_;refine al_v (ov_len_c L.length rfl hlen) rfl ?_)|(refine k_bin ?_;first|(refine al_v (ov_cmp_t rfl rfl rfl (by omega)) rfl ?_)|(refine al_v (ov_cmp_f rfl rfl rfl (by omega)) rfl ?_)))|(refine k_al ?_;first|(refine al_v (ov_move rfl) rfl ?_)|(refine k_g ?_;first|(refine al_gy' rfl rfl (by with_reducible rfl) ?_)|(refine al_gnf rfl rfl (by with_reducible rfl) rfl ?_))|(refine al_v (ov_fieldAddr rfl rfl) rfl ?_)|(refine k_load ?_;first|(refine al_v (ov_load rfl rfl) rfl ?_)|(refine al_v (ov_load_agg rfl rfl rfl) rfl ?_))|(refine k_bin ?_;first|(refine al_v (ov_seq rfl rfl) rfl ?_))|(refine k_pick ?_;first|(refine al_v (ov_pick_t' rfl (by with_reducible rfl) rfl) rfl ?_)|(refine al_v (ov_pick_f' rfl (by with_reducible rfl) rfl) rfl ?_))|(refine al_v (ov_assign rfl) rfl ?_)|(refine k_call ?_;first|(refine al_v (ov_len_str rfl) rfl ?_))|(refine al_v (ov_extract rfl rfl) rfl ?_)|(refine al_nil ?_)|(refine al_alloc rfl rfl rfl (by first|exact ln0|exact ln2) (by repeat constructor) rfl ?_)|(refine al_store rfl rfl rfl rfl rfl (by repeat constructor) (by repeat constructor) ?_)|(refine al_v (ov_build rfl rfl rfl (by repeat constructor)) rfl ?_)|(refine al_buildSlice (by rfl) (by rfl) (by rfl) (by rfl) (by decide) (by decide) (by rfl) (by rfl) (by repeat constructor) (by rfl) (by repeat constructor) (by rfl) (by first|exact ln0|exact ln2) (by repeat constructor) rfl ?_)|(refine al_v (ov_not_t rfl (by with_reducible rfl)) rfl ?_)|(refine al_v (ov_not_f rfl (by with_reducible rfl)) rfl ?_))|(first|(refine thn_n ?_)|(refine k_awp ?_;first|(refine awp_seq (awp_region ?_))|(refine awp_seq ?_)|(refine awp_region ?_)|(refine k_cond ?_;first|(refine awp_cond_t' rfl (by with_reducible rfl) ?_)|(refine awp_cond_f' rfl (by with_reducible rfl) ?_))|(refine awp_block ?_)|(refine awp_ret ?_)|(refine awp_skip ?_))|(refine thn_ret ?_)|(refine lq_ret ?_)|(refine inb_n ?_)|(refine inb_ret ?_)))
      refine retq_wkn (.boxLe (id := 0) [.int .i64 0, .rs [], .str [], .bool false] rfl (.cons (.refl _) (.cons .nil (.cons (.refl _) (.cons (.refl _) .nil)))) rfl) ?_
      refine retc1 (by first | exact .inr rfl | exact .inl rfl) rfl rfl rfl rfl rfl ?_
      exact ⟨⟨rp0 0 [], false, rfl, ⟨by simp [rp0], (fun p h => by cases h), by simp [rp0]⟩, fun r' h => by obtain ⟨a', w', b', g, e1, _⟩ := hpt h; rw [e1] at h3; exact absurd rfl h3⟩, rfl⟩
end
end Go.Proofs.YtnjolbnbpfjdiaaDoor.L

namespace Go.Proofs.YtnjolbnbpfjdiaaDoor.L
open Go Go.RowKit Go.Proofs
set_option linter.unusedVariables false
set_option linter.unusedSimpArgs false
set_option maxRecDepth 100000
attribute [local irreducible] AL QL AWp Thn InB RetQ ACalls LoopQ HL HO HW HQ NoG JmpQ MidQ HF

section
variable {E : Env} {N : Nat} {sl : Slots} {H : List AO}
theorem ov_beq_t {t t' : Nat} {n b : Nat} {z : Value} [ti : TI E.P t .bool n b z] {x y : Operand} {p q : Bool} (h : p = q) (hx : ev sl x = some (.bool p)) (hy : ev sl y = some (.bool q)) : OV E sl H (.binOp .eql t x y t') (.bool true) := by
  have := ov_beq (E := E) (H := H) (t := t) (t' := t') hx hy
  rwa [decide_eq_true h] at this
end
/-- What Parse answers. -/
def prsY (s : List UInt8) : AV := match parseP s with
  | some r => .tup [.agg (rpC r), .int .i64 ((printY r).length : Int), .int .i64 0]
  | none => .tup [.agg (rpC (rp0 0 [])), .int .i64 0, .int .i64 90]
def awY : List UInt8 := tx "HTTP/1.1 200 OK\r\ncontent-length: 2\r\nconnection: keep-alive\r\n\r\nhi"
section
variable {w0 : World} {base : Nat}
set_option maxHeartbeats 4000000 in
theorem s_parseY {s : List UInt8} (hG : Tabs w0 base) (hs : s.length ≤ 1073741824) : PCalls (EE w0 base) 11 [.str s] fun rv => rv = prsY s := by
  have hR := s_readY (w0 := w0) (base := base) hG hs
  refine acalls_of Tryd.func11 rfl rfl rfl (.cons .nil) ?_
  repeat' (first|((refine k_call ?_;refine al_call rfl rfl rfl rfl hR ?_;rintro _ ⟨r, ok, rfl, hfit, hrd⟩;have hP := s_printY (w0 := w0) (base := base) hG hfit))|(refine k_al ?_;first|(refine al_v (ov_move rfl) rfl ?_)|(refine k_g ?_;first|(refine al_gy' rfl rfl (by with_reducible rfl) ?_)|(refine al_gnf rfl rfl (by with_reducible rfl) rfl ?_)|(refine al_gsp rfl rfl (fun hc => ?_) (fun hc => ?_) <;> (try (exfalso;omega))))|(refine k_load ?_;first|(refine al_v (ov_load_agg rfl rfl rfl) rfl ?_))|(refine k_bin ?_;first|(refine al_v (ov_cmp rfl rfl rfl) rfl ?_))|(refine k_pick ?_;first|(refine al_v (ov_pick_t' rfl (by with_reducible rfl) rfl) rfl ?_)|(refine al_v (ov_pick_f' rfl (by with_reducible rfl) rfl) rfl ?_))|(refine al_v (ov_assign rfl) rfl ?_)|(refine k_call ?_;first|(refine al_v (ov_len_str rfl) rfl ?_))|(refine al_v (ov_extract rfl rfl) rfl ?_)|(refine al_nil ?_)|(refine al_alloc rfl rfl rfl (by first|exact ln0|exact ln1) (by repeat constructor) rfl ?_)|(refine al_store rfl rfl rfl rfl rfl (by repeat constructor) (by repeat constructor) ?_)|(refine al_v (ov_build rfl rfl rfl (by repeat constructor)) rfl ?_)|(refine al_v (ov_not_t rfl (by with_reducible rfl)) rfl ?_)|(refine al_v (ov_not_f rfl (by with_reducible rfl)) rfl ?_))|(first|(refine thn_n ?_)|(refine k_awp ?_;first|(refine awp_seq (awp_region ?_))|(refine awp_seq ?_)|(refine awp_region ?_)|(refine k_cond ?_;first|(refine awp_cond_t' rfl (by with_reducible rfl) ?_)|(refine awp_cond_f' rfl (by with_reducible rfl) ?_))|(refine awp_ret ?_)|(refine awp_skip ?_))|(refine thn_ret ?_)))
  have hnone : (∀ r', readP s = some r' → mayY r' = true → Lib.hasPrefix s (printY r') = true → False) → prsY s = .tup [.agg (rpC (rp0 0 [])), .int .i64 0, .int .i64 90] := fun h => by
    unfold prsY
    have : parseP s = none := by
      unfold parseP
      cases hq : readP s with
      | none => rfl
      | some r' =>
        dsimp only
        split
        · rename_i g; exact (h r' hq g.1 g.2).elim
        · rfl
    rw [this]
  cases hm : mayY r with
  | false =>
    have hn := hnone fun r' h1 h2 h3 => by
      have := (hrd r' h1).1
      subst this
      rw [hm] at h2
      cases h2
    have hP1 : PCalls (EE w0 base) 10 [.agg (rpC r)] fun rv => rv = .tup [.str [], .int .i64 90] := acalls_mono hP fun rv os h => ⟨by rw [h.1]; unfold prnY; rw [hm]; rfl, h.2⟩
    cases ok
    all_goals
      repeat' (first|((refine k_call ?_;refine al_call rfl rfl rfl rfl hP1 ?_;rintro _ rfl))|(refine k_al ?_;first|(refine al_v (ov_move rfl) rfl ?_)|(refine k_g ?_;first|(refine al_gy' rfl rfl (by with_reducible rfl) ?_)|(refine al_gnf rfl rfl (by with_reducible rfl) rfl ?_)|(refine al_gsp rfl rfl (fun hc => ?_) (fun hc => ?_) <;> (try (exfalso;omega))))|(refine k_load ?_;first|(refine al_v (ov_load_agg rfl rfl rfl) rfl ?_))|(refine k_bin ?_;first|(refine al_v (ov_cmp rfl rfl rfl) rfl ?_))|(refine k_pick ?_;first|(refine al_v (ov_pick_t' rfl (by with_reducible rfl) rfl) rfl ?_)|(refine al_v (ov_pick_f' rfl (by with_reducible rfl) rfl) rfl ?_))|(refine al_v (ov_assign rfl) rfl ?_)|(refine k_call ?_;first|(refine al_v (ov_len_str rfl) rfl ?_))|(refine al_v (ov_extract rfl rfl) rfl ?_)|(refine al_nil ?_)|(refine al_alloc rfl rfl rfl (by first|exact ln0|exact ln1) (by repeat constructor) rfl ?_)|(refine al_store rfl rfl rfl rfl rfl (by repeat constructor) (by repeat constructor) ?_)|(refine al_v (ov_build rfl rfl rfl (by repeat constructor)) rfl ?_)|(refine al_v (ov_not_t rfl (by with_reducible rfl)) rfl ?_)|(refine al_v (ov_not_f rfl (by with_reducible rfl)) rfl ?_))|(first|(refine thn_n ?_)|(refine k_awp ?_;first|(refine awp_seq (awp_region ?_))|(refine awp_seq ?_)|(refine awp_region ?_)|(refine k_cond ?_;first|(refine awp_cond_t' rfl (by with_reducible rfl) ?_)|(refine awp_cond_f' rfl (by with_reducible rfl) ?_))|(refine awp_ret ?_)|(refine awp_skip ?_))|(refine thn_ret ?_)))
      refine retq_wkn (.boxLe (id := 0) [.int .i64 0, .rs [], .str [], .bool false] rfl (.cons (.refl _) (.cons .nil (.cons (.refl _) (.cons (.refl _) .nil)))) rfl) ?_
      refine retc2 (by first | exact .inr rfl | exact .inl rfl) rfl rfl rfl rfl rfl rfl ?_
      exact ⟨hn.symm, rfl⟩
  | true =>
    have hP1 : PCalls (EE w0 base) 10 [.agg (rpC r)] fun rv => rv = .tup [.str (printY r), .int .i64 0] := acalls_mono hP fun rv os h => ⟨by rw [h.1]; unfold prnY; rw [hm]; rfl, h.2⟩
    have hH := s_hasPrefix (w0 := w0) (base := base) (s := s) (p := printY r)
    cases ok with
    | false =>
      have hn := hnone fun r' h1 h2 h3 => by have := (hrd r' h1).2; cases this
      repeat' (first|((refine k_call ?_;refine al_call rfl rfl rfl rfl hP1 ?_;rintro _ rfl))|(refine k_al ?_;first|(refine al_v (ov_move rfl) rfl ?_)|(refine k_g ?_;first|(refine al_gy' rfl rfl (by with_reducible rfl) ?_)|(refine al_gnf rfl rfl (by with_reducible rfl) rfl ?_)|(refine al_gsp rfl rfl (fun hc => ?_) (fun hc => ?_) <;> (try (exfalso;omega))))|(refine k_load ?_;first|(refine al_v (ov_load_agg rfl rfl rfl) rfl ?_))|(refine k_bin ?_;first|(refine al_v (ov_cmp rfl rfl rfl) rfl ?_))|(refine k_pick ?_;first|(refine al_v (ov_pick_t' rfl (by with_reducible rfl) rfl) rfl ?_)|(refine al_v (ov_pick_f' rfl (by with_reducible rfl) rfl) rfl ?_))|(refine al_v (ov_assign rfl) rfl ?_)|(refine k_call ?_;first|(refine al_v (ov_len_str rfl) rfl ?_))|(refine al_v (ov_extract rfl rfl) rfl ?_)|(refine al_nil ?_)|(refine al_alloc rfl rfl rfl (by first|exact ln0|exact ln1) (by repeat constructor) rfl ?_)|(refine al_store rfl rfl rfl rfl rfl (by repeat constructor) (by repeat constructor) ?_)|(refine al_v (ov_build rfl rfl rfl (by repeat constructor)) rfl ?_)|(refine al_v (ov_not_t rfl (by with_reducible rfl)) rfl ?_)|(refine al_v (ov_not_f rfl (by with_reducible rfl)) rfl ?_))|(first|(refine thn_n ?_)|(refine k_awp ?_;first|(refine awp_seq (awp_region ?_))|(refine awp_seq ?_)|(refine awp_region ?_)|(refine k_cond ?_;first|(refine awp_cond_t' rfl (by with_reducible rfl) ?_)|(refine awp_cond_f' rfl (by with_reducible rfl) ?_))|(refine awp_ret ?_)|(refine awp_skip ?_))|(refine thn_ret ?_)))
      refine retq_wkn (.boxLe (id := 0) [.int .i64 0, .rs [], .str [], .bool false] rfl (.cons (.refl _) (.cons .nil (.cons (.refl _) (.cons (.refl _) .nil)))) rfl) ?_
      refine retc2 (by first | exact .inr rfl | exact .inl rfl) rfl rfl rfl rfl rfl rfl ?_
      exact ⟨hn.symm, rfl⟩
    | true =>
      cases hp : Lib.hasPrefix s (printY r) with
      | false =>
        rw [hp] at hH
        have hn := hnone fun r' h1 h2 h3 => by
          have := (hrd r' h1).1
          subst this
          rw [hp] at h3
          cases h3
        repeat' (first|(first|(refine k_call ?_;refine al_call rfl rfl rfl rfl hP1 ?_;rintro _ rfl)|(refine k_call ?_;refine al_call rfl rfl rfl rfl hH ?_;rintro _ rfl))|(refine k_al ?_;first|(refine al_v (ov_move rfl) rfl ?_)|(refine k_g ?_;first|(refine al_gy' rfl rfl (by with_reducible rfl) ?_)|(refine al_gnf rfl rfl (by with_reducible rfl) rfl ?_)|(refine al_gsp rfl rfl (fun hc => ?_) (fun hc => ?_) <;> (try (exfalso;omega))))|(refine k_load ?_;first|(refine al_v (ov_load_agg rfl rfl rfl) rfl ?_))|(refine k_bin ?_;first|(refine al_v (ov_cmp rfl rfl rfl) rfl ?_))|(refine k_pick ?_;first|(refine al_v (ov_pick_t' rfl (by with_reducible rfl) rfl) rfl ?_)|(refine al_v (ov_pick_f' rfl (by with_reducible rfl) rfl) rfl ?_))|(refine al_v (ov_assign rfl) rfl ?_)|(refine k_call ?_;first|(refine al_v (ov_len_str rfl) rfl ?_))|(refine al_v (ov_extract rfl rfl) rfl ?_)|(refine al_nil ?_)|(refine al_alloc rfl rfl rfl (by first|exact ln0|exact ln1) (by repeat constructor) rfl ?_)|(refine al_store rfl rfl rfl rfl rfl (by repeat constructor) (by repeat constructor) ?_)|(refine al_v (ov_build rfl rfl rfl (by repeat constructor)) rfl ?_)|(refine al_v (ov_not_t rfl (by with_reducible rfl)) rfl ?_)|(refine al_v (ov_not_f rfl (by with_reducible rfl)) rfl ?_))|(first|(refine thn_n ?_)|(refine k_awp ?_;first|(refine awp_seq (awp_region ?_))|(refine awp_seq ?_)|(refine awp_region ?_)|(refine k_cond ?_;first|(refine awp_cond_t' rfl (by with_reducible rfl) ?_)|(refine awp_cond_f' rfl (by with_reducible rfl) ?_))|(refine awp_ret ?_)|(refine awp_skip ?_))|(refine thn_ret ?_)))
        refine retq_wkn (.boxLe (id := 0) [.int .i64 0, .rs [], .str [], .bool false] rfl (.cons (.refl _) (.cons .nil (.cons (.refl _) (.cons (.refl _) .nil)))) rfl) ?_
        refine retc2 (by first | exact .inr rfl | exact .inl rfl) rfl rfl rfl rfl rfl rfl ?_
        exact ⟨hn.symm, rfl⟩
      | true =>
        rw [hp] at hH
        have hy : prsY s = .tup [.agg (rpC r), .int .i64 ((printY r).length : Int), .int .i64 0] := by
          unfold prsY
          rw [parseP_iff.2 ⟨hm, hp⟩]
        rw [hy]
        repeat' (first|(first|(refine k_call ?_;refine al_call rfl rfl rfl rfl hP1 ?_;rintro _ rfl)|(refine k_call ?_;refine al_call rfl rfl rfl rfl hH ?_;rintro _ rfl))|(refine k_al ?_;first|(refine al_v (ov_move rfl) rfl ?_)|(refine k_g ?_;first|(refine al_gy' rfl rfl (by with_reducible rfl) ?_)|(refine al_gnf rfl rfl (by with_reducible rfl) rfl ?_)|(refine al_gsp rfl rfl (fun hc => ?_) (fun hc => ?_) <;> (try (exfalso;omega))))|(refine k_load ?_;first|(refine al_v (ov_load_agg rfl rfl rfl) rfl ?_))|(refine k_bin ?_;first|(refine al_v (ov_cmp rfl rfl rfl) rfl ?_))|(refine k_pick ?_;first|(refine al_v (ov_pick_t' rfl (by with_reducible rfl) rfl) rfl ?_)|(refine al_v (ov_pick_f' rfl (by with_reducible rfl) rfl) rfl ?_))|(refine al_v (ov_assign rfl) rfl ?_)|(refine k_call ?_;first|(refine al_v (ov_len_str rfl) rfl ?_))|(refine al_v (ov_extract rfl rfl) rfl ?_)|(refine al_nil ?_)|(refine al_alloc rfl rfl rfl (by first|exact ln0|exact ln1) (by repeat constructor) rfl ?_)|(refine al_store rfl rfl rfl rfl rfl (by repeat constructor) (by repeat constructor) ?_)|(refine al_v (ov_build rfl rfl rfl (by repeat constructor)) rfl ?_)|(refine al_v (ov_not_t rfl (by with_reducible rfl)) rfl ?_)|(refine al_v (ov_not_f rfl (by with_reducible rfl)) rfl ?_))|(first|(refine thn_n ?_)|(refine k_awp ?_;first|(refine awp_seq (awp_region ?_))|(refine awp_seq ?_)|(refine awp_region ?_)|(refine k_cond ?_;first|(refine awp_cond_t' rfl (by with_reducible rfl) ?_)|(refine awp_cond_f' rfl (by with_reducible rfl) ?_))|(refine awp_ret ?_)|(refine awp_skip ?_))|(refine thn_ret ?_)))
        refine retc2 (by first | exact .inr rfl | exact .inl rfl) rfl rfl rfl rfl rfl rfl ?_
        exact ⟨rfl, rfl⟩
end
end Go.Proofs.YtnjolbnbpfjdiaaDoor.L

namespace Go.Proofs.YtnjolbnbpfjdiaaDoor.L
open Go Go.RowKit Go.Proofs
set_option linter.unusedVariables false
set_option linter.unusedSimpArgs false
set_option maxRecDepth 100000
attribute [local irreducible] AL QL AWp Thn InB RetQ ACalls LoopQ HL HO HW HQ NoG JmpQ MidQ HF

theorem cutY_eq {l p a b : List UInt8} (h : Lib.cut l p = (a, b, true)) : l = a ++ (p ++ b) := by
  unfold Lib.cut at h
  split at h
  · rename_i hi
    rcases Lib.index_spec l p with ⟨h1, _⟩ | ⟨i, h1, h2, h3, _⟩
    · omega
    · rw [h1] at h
      have e1 : ((i : Nat) : Int).toNat = i := rfl
      rw [e1] at h
      injection h with ha hb
      injection hb with hb _
      unfold Lib.occAt at h3
      obtain ⟨t, ht⟩ := List.isPrefixOf_iff_prefix.1 h3
      rw [← List.drop_drop, ← ht, List.drop_left] at hb
      rw [← ha, ← hb, ht, List.take_append_drop]
  · cases h
/-- A response's text stands ahead. -/
def PrP (s : List UInt8) (r : Rp) : Prop := mayY r = true ∧ ∃ tail, s = printY r ++ tail
theorem prs_none {s : List UInt8} (h : ∀ r, PrP s r → False) : prsY s = .tup [.agg (rpC (rp0 0 [])), .int .i64 0, .int .i64 90] := by
  unfold prsY
  rw [parseP_none fun r hr => h r ⟨hr.1, pre_iff.1 hr.2⟩]
theorem prs_some {s : List UInt8} {r : Rp} (h : PrP s r) : prsY s = .tup [.agg (rpC r), .int .i64 ((printY r).length : Int), .int .i64 0] := by
  unfold prsY
  rw [parseP_iff.2 ⟨h.1, pre_iff.2 h.2⟩]
theorem itoa3 {v : Int} (h0 : 200 ≤ v) (h1 : v ≤ 599) : (Lib.itoa v).length = 3 ∧ digR (Lib.itoa v) = v := by
  have h : ∀ k : Fin 400, (Lib.itoa (((k.1 + 200 : Nat) : Int))).length = 3 := by decide +kernel
  have h2 := h ⟨(v - 200).toNat, by omega⟩
  have e : (((v - 200).toNat + 200 : Nat) : Int) = v := by omega
  rw [e] at h2
  refine ⟨h2, ?_⟩
  obtain ⟨n, rfl⟩ := Int.eq_ofNat_of_zero_le (show 0 ≤ v by omega)
  exact digR_itoa (by omega)
/-- How a response's text begins. -/
theorem prp_first {s : List UInt8} {r : Rp} (h : PrP s r) : 13 ≤ s.length ∧ s.take 9 = tx "HTTP/1.1 " ∧ digR ((s.take 12).drop 9) = r.st ∧ ∃ tail line, Lib.cut s [13, 10] = (line, fldsY r.fs ++ (y3 r.body r.cl ++ tail), true) := by
  obtain ⟨hm, tail, hs⟩ := h
  obtain ⟨h1, h2, h3, h4⟩ := mayY_all hm
  have e : s = y1 r.st (statW r.st) ++ (fldsY r.fs ++ (y3 r.body r.cl ++ tail)) := by
    rw [hs]
    unfold printY
    simp only [List.append_assoc]
  obtain ⟨h5, h6⟩ := itoa3 h1.1 h1.2
  have e9 : (tx "HTTP/1.1 ").length = 9 := by decide +kernel
  have e2 : s = tx "HTTP/1.1 " ++ (Lib.itoa r.st ++ ([32] ++ (statW r.st ++ ([13, 10] ++ (fldsY r.fs ++ (y3 r.body r.cl ++ tail)))))) := by
    rw [e]
    unfold y1
    simp only [List.append_assoc]
  refine ⟨?_, ?_, ?_, tail, _, by rw [e]; exact first_cut (by omega)⟩
  · rw [e2]
    simp only [List.length_append, List.length_cons, List.length_nil, e9, h5]
    omega
  · rw [e2, ← e9, List.take_left]
  · have e3 : s.take 12 = tx "HTTP/1.1 " ++ Lib.itoa r.st := by
      rw [e2, ← List.append_assoc]
      have : (tx "HTTP/1.1 " ++ Lib.itoa r.st).length = 12 := by rw [List.length_append, e9, h5]
      rw [← this, List.take_left]
    rw [e3, ← e9, List.drop_left]
    exact h6
/-- The first colon of a line. -/
def ColA (line : List UInt8) (k : Nat) : Prop := k ≤ line.length ∧ (∀ (j : Nat) (c : UInt8), j < k → line[j]? = some c → c ≠ 58) ∧ ∀ c, line[k]? = some c → c = 58
theorem col_is {a b : List UInt8} {k : Nat} (ha : (58 : UInt8) ∉ a) (h : ColA (a ++ (58 :: b)) k) : k = a.length := by
  obtain ⟨h1, h2, h3⟩ := h
  rcases Nat.lt_trichotomy k a.length with hk | hk | hk
  · exfalso
    have := h3 a[k] (by rw [List.getElem?_append_left hk, List.getElem?_eq_getElem hk])
    exact ha (this ▸ List.getElem_mem hk)
  · exact hk
  · exact absurd rfl (h2 a.length 58 hk (by rw [List.getElem?_append_right (Nat.le_refl _), Nat.sub_self]; rfl))
/-- Where a round of the document's reading stands. -/
structure QInv (s : List UInt8) (st : Int) (at' : Nat) (out : Fs) : Prop where
  le : at' ≤ s.length
  len : out.length ≤ at'
  each : ∀ p ∈ out, p.1.length ≤ s.length ∧ p.2.length ≤ s.length
  eq : ∀ r, PrP s r → st = r.st ∧ r.body.length ≤ 1048576 ∧ ∃ rf tail, r.fs = out ++ rf ∧ rf.all fieldY = true ∧ s.drop at' = fldsY rf ++ (y3 r.body r.cl ++ tail)
/-- The next line of a response's text. -/
theorem qinv_line {s : List UInt8} {st : Int} {at' : Nat} {out : Fs} {r : Rp} (h : QInv s st at' out) (hr : PrP s r) : (Lib.cut (s.drop at') [13, 10]).2.2 = true ∧ ∀ line rest, Lib.cut (s.drop at') [13, 10] = (line, rest, true) →
    (r.fs = out ∧ line = clN ++ (58 :: ([32] ++ Lib.itoa (r.body.length : Int))) ∧ ∃ tail, rest = (tx "connection: " ++ endW r.cl) ++ ([13, 10, 13, 10] ++ (r.body ++ tail))) ∨
    ∃ p rf tail, r.fs = (out ++ [p]) ++ rf ∧ rf.all fieldY = true ∧ fieldY p = true ∧ line = p.1 ++ (58 :: ([32] ++ p.2)) ∧ rest = fldsY rf ++ (y3 r.body r.cl ++ tail) := by
  obtain ⟨h1, hb, rf, tail, h2, h3, h4⟩ := h.eq r hr
  cases rf with
  | nil =>
    rw [fldsY, List.nil_append] at h4
    rw [h4, end_cut]
    refine ⟨rfl, fun line rest hc => .inl ?_⟩
    injection hc with hc1 hc2
    injection hc2 with hc2 _
    refine ⟨by rw [h2, List.append_nil], ?_, tail, hc2.symm⟩
    rw [← hc1]
    have e2 : tx "content-length: " = clN ++ [58, 32] := by decide +kernel
    rw [e2]
    simp only [List.append_assoc, List.cons_append, List.nil_append]
  | cons p rf =>
    rw [List.all_cons, Bool.and_eq_true] at h3
    rw [fldsY, List.append_assoc] at h4
    rw [h4, fld_cut h3.1]
    refine ⟨rfl, fun line rest hc => .inr ⟨p, rf, tail, by rw [h2, List.append_assoc]; rfl, h3.2, h3.1, ?_, ?_⟩⟩
    · injection hc with hc1 hc2
      rw [← hc1]
      simp only [List.append_assoc, List.cons_append, List.nil_append]
    · injection hc with hc1 hc2
      injection hc2 with hc2 _
      exact hc2.symm
theorem fieldY_name {p : List UInt8 × List UInt8} (h : fieldY p = true) : (58 : UInt8) ∉ p.1 ∧ p.1 ≠ clN := by
  unfold fieldY at h
  rw [Bool.and_eq_true] at h
  exact ⟨all_notin (nameY_all h.1).1 (by decide +kernel), (nameY_all h.1).2.2.1⟩
theorem clN_no : (58 : UInt8) ∉ clN := by decide +kernel
/-- What the line of a length tells. -/
structure EndP (s : List UInt8) (at' : Nat) (n : Int) (r : Rp) (out : Fs) : Prop where
  fs : r.fs = out
  n : n = (r.body.length : Int)
  cut : ∃ tail, Lib.cut (s.drop at') [13, 10] = (tx "connection: " ++ endW r.cl, [13, 10] ++ (r.body ++ tail), true)
theorem qinv_end {s : List UInt8} {st : Int} {at' k : Nat} {out : Fs} {r : Rp} {line rest : List UInt8} (h : QInv s st at' out) (hr : PrP s r) (hc : Lib.cut (s.drop at') [13, 10] = (line, rest, true)) (hk : ColA line k) :
    k + 2 ≤ line.length ∧ (line.take k = clN → EndP s (at' + line.length + 2) (digR (line.drop (k + 2))) r out) ∧
      (line.take k ≠ clN → ∃ rf tail, r.fs = (out ++ [(line.take k, line.drop (k + 2))]) ++ rf ∧ rf.all fieldY = true ∧ s.drop (at' + line.length + 2) = fldsY rf ++ (y3 r.body r.cl ++ tail)) := by
  have heq := cutY_eq hc
  have hdr : s.drop (at' + line.length + 2) = rest := by
    rw [Nat.add_assoc, ← List.drop_drop, heq, ← List.drop_drop, List.drop_left]
    rfl
  rcases (qinv_line h hr).2 line rest hc with ⟨h1, h2, tail, h3⟩ | ⟨p, rf, tail, h1, h2, h3, h4, h5⟩
  · have hkk := col_is (b := [32] ++ Lib.itoa (r.body.length : Int)) clN_no (by rw [← h2]; exact hk)
    have ht : line.take k = clN := by rw [h2, hkk, List.take_left]
    have hl : line.length = clN.length + (1 + (1 + (Lib.itoa (r.body.length : Int)).length)) := by
      rw [h2]; simp only [List.length_append, List.length_cons, List.length_nil]; omega
    refine ⟨by omega, fun _ => ⟨h1, ?_, tail, ?_⟩, fun hn => absurd ht hn⟩
    · have hd2 : line.drop (k + 2) = Lib.itoa (r.body.length : Int) := by
        rw [h2, hkk, ← List.drop_drop, List.drop_left]
        rfl
      rw [hd2]
      exact digR_itoa (h.eq r hr).2.1
    · rw [hdr, h3]
      have e : (tx "connection: " ++ endW r.cl) ++ ([13, 10, 13, 10] ++ (r.body ++ tail)) = (tx "connection: " ++ endW r.cl) ++ ([13, 10] ++ ([13, 10] ++ (r.body ++ tail))) := by simp only [List.append_assoc, List.cons_append, List.nil_append]
      rw [e]
      exact cut_app 13 [10] (by cases r.cl <;> decide +kernel)
  · have hp := fieldY_name h3
    have hkk := col_is (b := [32] ++ p.2) hp.1 (by rw [← h4]; exact hk)
    have ht : line.take k = p.1 := by rw [h4, hkk, List.take_left]
    have hd2 : line.drop (k + 2) = p.2 := by
      rw [h4, hkk, ← List.drop_drop, List.drop_left]
      rfl
    have hl : line.length = p.1.length + (1 + (1 + p.2.length)) := by
      rw [h4]; simp only [List.length_append, List.length_cons, List.length_nil]; omega
    refine ⟨by omega, fun hn => absurd (ht.symm.trans hn) hp.2, fun _ => ⟨rf, tail, ?_, h2, ?_⟩⟩
    · rw [ht, hd2]; exact h1
    · rw [hdr, h5]
/-- The end of a line, from a place on. -/
theorem endI_cut {s line rest : List UInt8} {at' : Nat} {e : Bool} (h : Lib.cut (s.drop at') [13, 10] = (line, rest, e)) : endI s at' = if e then ((at' + line.length : Nat) : Int) else -1 := by
  unfold endI
  rw [h]
theorem slice_cut {s line rest : List UInt8} {at' : Nat} (h : Lib.cut (s.drop at') [13, 10] = (line, rest, true)) (ha : at' ≤ s.length) : at' + line.length + 2 ≤ s.length ∧ (s.take (at' + line.length)).drop at' = line := by
  have heq := cutY_eq h
  have hl : (s.drop at').length = line.length + (2 + rest.length) := by
    rw [heq]; simp only [List.length_append, List.length_cons, List.length_nil]
  rw [List.length_drop] at hl
  refine ⟨by omega, ?_⟩
  rw [List.drop_take, heq]
  have : at' + line.length - at' = line.length := by omega
  rw [this, List.take_left]
end Go.Proofs.YtnjolbnbpfjdiaaDoor.L

namespace Go.Proofs.YtnjolbnbpfjdiaaDoor.L
open Go Go.RowKit Go.Proofs
set_option linter.unusedVariables false
set_option linter.unusedSimpArgs false
set_option maxRecDepth 100000
attribute [local irreducible] AL QL AWp Thn InB RetQ ACalls LoopQ HL HO HW HQ NoG JmpQ MidQ HF

section
variable {w0 : World} {base : Nat}
end
end Go.Proofs.YtnjolbnbpfjdiaaDoor.L

namespace Go.Proofs.YtnjolbnbpfjdiaaDoor.L
open Go Go.RowKit Go.Proofs
set_option linter.unusedVariables false
set_option linter.unusedSimpArgs false
set_option maxRecDepth 100000
attribute [local irreducible] AL QL AWp Thn InB RetQ ACalls LoopQ HL HO HW HQ NoG JmpQ MidQ HF

section
variable {E : Env} {sl : Slots} {H : List AO}
theorem ov_sliceT {t : Nat} {n b : Nat} {z : Value} [ti : TI E.P t .string n b z] {x lo hi : Operand} {s T : List UInt8} {k k' : IntKind} {l h : Int}
    (hx : ev sl x = some (.str s)) (hlo : ev sl lo = some (.int k l)) (hhi : ev sl hi = some (.int k' h)) (h0 : 0 ≤ l) (h1 : l ≤ h) (h2 : h ≤ (s.length : Int)) (he : (s.take h.toNat).drop l.toNat = T) : OV E sl H (.slice t x (some lo) (some hi) none) (.str T) := he ▸ ov_slice hx hlo hhi h0 h1 h2
end
/-- The lines from a place on. -/
def restL (s : List UInt8) (a : Nat) : List (List UInt8) := if a ≤ s.length then splitB 10 (s.drop a) else []
section
variable {w0 : World} {base : Nat}
end
end Go.Proofs.YtnjolbnbpfjdiaaDoor.L

namespace Go.Proofs.YtnjolbnbpfjdiaaDoor.L
open Go Go.RowKit Go.Proofs
set_option linter.unusedVariables false
set_option linter.unusedSimpArgs false
set_option maxRecDepth 100000
attribute [local irreducible] AL QL AWp Thn InB RetQ ACalls LoopQ HL HO HW HQ NoG JmpQ MidQ HF

section
variable {w0 : World} {base : Nat}
abbrev noneC : List AV := [.int .i64 0, .nilsl, .str [], .bool false]
abbrev qSt (s : List UInt8) (at' : Nat) (st : Int) (ver : Nat) (xs : List (List AV)) : St :=
  ⟨[(0, .str s), (2, .op 0 0), (5, .op 1 0), (6, .op 2 0), (7, .int .i64 at')], [.box noneC, .box noneC, .box [.int .i64 st, .os 3 ver, .str [], .bool false], .row 61 2 ver 0 xs]⟩
set_option maxHeartbeats 16000000 in
theorem s_parseR9 {s : List UInt8} (hG : Tabs w0 base) (hs : s.length ≤ 1073741824) : PCalls (EE w0 base) 37 [.str s] fun rv => rv = prsY s := by
  have hbox : ∀ r, PrP s r → 13 ≤ s.length ∧ s.take 9 = tx "HTTP/1.1 " ∧ digR ((s.take 12).drop 9) = r.st ∧ ∃ tail line, Lib.cut s [13, 10] = (line, fldsY r.fs ++ (y3 r.body r.cl ++ tail), true) := fun r h => prp_first h
  have hE0 := s_end (w0 := w0) (base := base) (s := s) (at' := 0) (by omega) (Nat.zero_le _)
  refine acalls_of Tryd.func37 rfl rfl rfl (.cons .nil) ?_
  by_cases h13 : s.length < 13
  · rw [prs_none fun r h => by have := (hbox r h).1; omega]
    repeat' (first|((refine k_bin ?_;first|(refine al_v (ov_cmp_t rfl rfl rfl (by omega)) rfl ?_)|(refine al_v (ov_cmp_f rfl rfl rfl (by omega)) rfl ?_)))|(refine k_al ?_;first|(refine al_v (ov_move rfl) rfl ?_)|(refine k_g ?_;first|(refine al_gy' rfl rfl (by with_reducible rfl) ?_)|(refine al_gnt rfl rfl (by with_reducible rfl) rfl ?_)|(refine al_gnf rfl rfl (by with_reducible rfl) rfl ?_))|(refine al_v (ov_fieldAddr rfl rfl) rfl ?_)|(refine k_load ?_;first|(refine al_v (ov_load rfl rfl) rfl ?_)|(refine al_v (ov_load_agg rfl rfl rfl) rfl ?_))|(refine k_bin ?_;first|(refine al_v (ov_add rfl rfl (by (first|exact w64 (by omega) (by omega)|rfl))) rfl ?_)|(refine al_v (ov_sub rfl rfl (by (first|exact w64 (by omega) (by omega)|rfl))) rfl ?_)|(refine al_v (ov_seq rfl rfl) rfl ?_))|(refine k_pick ?_;first|(refine al_v (ov_pick_t' rfl (by with_reducible rfl) rfl) rfl ?_)|(refine al_v (ov_pick_f' rfl (by with_reducible rfl) rfl) rfl ?_))|(refine al_v (ov_assign rfl) rfl ?_)|(refine k_call ?_;first|(refine al_v (ov_len_str rfl) rfl ?_))|(refine al_v (ov_extract rfl rfl) rfl ?_)|(refine al_nil ?_)|(refine al_alloc rfl rfl rfl (by first|exact ln0|exact ln1|exact ln2|exact ln4) (by repeat constructor) rfl ?_)|(refine al_store rfl rfl rfl rfl rfl (by repeat constructor) (by repeat constructor) ?_)|(refine al_v (ov_build rfl rfl rfl (by repeat constructor)) rfl ?_)|(refine al_buildSlice (by rfl) (by rfl) (by rfl) (by rfl) (by decide) (by decide) (by rfl) (by rfl) (by repeat constructor) (by rfl) (by repeat constructor) (by rfl) (by first|exact ln0|exact ln1|exact ln2|exact ln4) (by repeat constructor) rfl ?_)|(refine al_v (ov_index rfl rfl (by omega) (by omega)) rfl ?_))|(first|(refine thn_n ?_)|(refine k_awp ?_;first|(refine awp_seq (awp_region ?_))|(refine awp_seq ?_)|(refine awp_region ?_)|(refine k_cond ?_;first|(refine awp_cond_t' rfl (by with_reducible rfl) ?_)|(refine awp_cond_f' rfl (by with_reducible rfl) ?_))|(refine awp_block ?_)|(refine awp_ret ?_)|(refine awp_skip ?_)|(refine awp_exit ?_))|(refine thn_ret ?_)|(refine lq_exit ?_)|(refine lq_ret ?_)|(refine thn_exit ?_)|(refine inb_n ?_)|(refine inb_ret ?_)|(refine inb_here ?_)|(refine inb_out rfl ?_)))
    refine retq_wkn (.boxLe (id := 0) [.int .i64 0, .rs [], .str [], .bool false] rfl (.cons (.refl _) (.cons .nil (.cons (.refl _) (.cons (.refl _) .nil)))) rfl) ?_
    refine retc2 (by first | exact .inr rfl | exact .inl rfl) rfl rfl rfl rfl rfl rfl ?_
    exact ⟨rfl, rfl⟩
  obtain ⟨T, hT⟩ : ∃ T, s.take (9 : Int).toNat = T := ⟨_, rfl⟩
  have hT9 : s.take 9 = T := hT
  by_cases h9 : ¬ T = tx "HTTP/1.1 "
  · rw [prs_none fun r h => h9 (by rw [← hT9]; exact (hbox r h).2.1)]
    repeat' (first | (first | (refine al_v (ov_slice_hiT (T := T) rfl rfl (by omega) (by omega) hT) rfl ?_) | (refine k_bin ?_; first | (refine al_v (ov_cmp_t rfl rfl rfl (by omega)) rfl ?_) | (refine al_v (ov_cmp_f rfl rfl rfl (by omega)) rfl ?_) | (refine al_v (ov_sne_t (n := tx "HTTP/1.1 ") h9 rfl rfl) rfl ?_))) | (refine k_al ?_; first | (refine al_v (ov_move rfl) rfl ?_) | (refine k_g ?_; first | (refine al_gy' rfl rfl (by with_reducible rfl) ?_) | (refine al_gnt rfl rfl (by with_reducible rfl) rfl ?_) | (refine al_gnf rfl rfl (by with_reducible rfl) rfl ?_)) | (refine al_v (ov_fieldAddr rfl rfl) rfl ?_) | (refine k_load ?_; first | (refine al_v (ov_load rfl rfl) rfl ?_) | (refine al_v (ov_load_agg rfl rfl rfl) rfl ?_)) | (refine k_bin ?_; first | (refine al_v (ov_add rfl rfl (by (first | exact w64 (by omega) (by omega) | rfl))) rfl ?_) | (refine al_v (ov_sub rfl rfl (by (first | exact w64 (by omega) (by omega) | rfl))) rfl ?_) | (refine al_v (ov_seq rfl rfl) rfl ?_)) | (refine k_pick ?_; first | (refine al_v (ov_pick_t' rfl (by with_reducible rfl) rfl) rfl ?_) | (refine al_v (ov_pick_f' rfl (by with_reducible rfl) rfl) rfl ?_)) | (refine al_v (ov_assign rfl) rfl ?_) | (refine k_call ?_; first | (refine al_v (ov_len_str rfl) rfl ?_)) | (refine al_v (ov_extract rfl rfl) rfl ?_) | (refine al_nil ?_) | (refine al_alloc rfl rfl rfl (by first | exact ln0 | exact ln1 | exact ln2 | exact ln4) (by repeat constructor) rfl ?_) | (refine al_store rfl rfl rfl rfl rfl (by repeat constructor) (by repeat constructor) ?_) | (refine al_v (ov_build rfl rfl rfl (by repeat constructor)) rfl ?_) | (refine al_buildSlice (by rfl) (by rfl) (by rfl) (by rfl) (by decide) (by decide) (by rfl) (by rfl) (by repeat constructor) (by rfl) (by repeat constructor) (by rfl) (by first | exact ln0 | exact ln1 | exact ln2 | exact ln4) (by repeat constructor) rfl ?_) | (refine al_v (ov_index rfl rfl (by omega) (by omega)) rfl ?_)) | (first | (refine thn_n ?_) | (refine k_awp ?_; first | (refine awp_seq (awp_region ?_)) | (refine awp_seq ?_) | (refine awp_region ?_) | (refine k_cond ?_; first | (refine awp_cond_t' rfl (by with_reducible rfl) ?_) | (refine awp_cond_f' rfl (by with_reducible rfl) ?_)) | (refine awp_block ?_) | (refine awp_ret ?_) | (refine awp_skip ?_) | (refine awp_exit ?_)) | (refine thn_ret ?_) | (refine lq_exit ?_) | (refine lq_ret ?_) | (refine thn_exit ?_) | (refine inb_n ?_) | (refine inb_ret ?_) | (refine inb_here ?_) | (refine inb_out rfl ?_)))
    refine retq_wkn (.boxLe (id := 0) [.int .i64 0, .rs [], .str [], .bool false] rfl (.cons (.refl _) (.cons .nil (.cons (.refl _) (.cons (.refl _) .nil)))) rfl) ?_
    refine retc2 (by first | exact .inr rfl | exact .inl rfl) rfl rfl rfl rfl rfl rfl ?_
    exact ⟨rfl, rfl⟩
  have h9 : T = tx "HTTP/1.1 " := Classical.not_not.1 h9
  have hD := s_digits (w0 := w0) (base := base) (s := (s.take 12).drop 9) (by simp only [List.length_drop, List.length_take]; omega)
  have hbd := digR_bound ((s.take 12).drop 9)
  obtain ⟨st, hst⟩ : ∃ st, digR ((s.take 12).drop 9) = st := ⟨_, rfl⟩
  rw [hst] at hD hbd
  have hD2 : (s.take (12 : Int).toNat).drop (9 : Int).toNat = (s.take 12).drop 9 := rfl
  obtain ⟨line0, rest0, e0, hcut0⟩ : ∃ x y z, Lib.cut (s.drop 0) [13, 10] = (x, y, z) := ⟨_, _, _, rfl⟩
  rw [endI_cut hcut0] at hE0
  cases e0 with
  | false =>
    rw [if_neg (by decide)] at hE0
    rw [prs_none fun r h => by
      obtain ⟨_, _, _, tail, line, hc⟩ := hbox r h
      rw [List.drop_zero, hc] at hcut0
      injection hcut0 with _ h2
      injection h2 with _ h2
      cases h2]
    repeat' (first | (first | (refine al_v (ov_slice_hiT (T := T) rfl rfl (by omega) (by omega) hT) rfl ?_) | (refine al_v (ov_sliceT rfl rfl rfl (by omega) (by omega) (by omega) hD2) rfl ?_) | (refine k_call ?_; refine al_call rfl rfl rfl rfl hD ?_; rintro _ rfl) | (refine k_call ?_; refine al_call rfl rfl rfl rfl hE0 ?_; rintro _ rfl) | (refine k_bin ?_; first | (refine al_v (ov_cmp_t rfl rfl rfl (by omega)) rfl ?_) | (refine al_v (ov_cmp_f rfl rfl rfl (by omega)) rfl ?_) | (refine al_v (ov_sne_f (n := tx "HTTP/1.1 ") h9 rfl rfl) rfl ?_))) | (refine k_al ?_; first | (refine al_v (ov_move rfl) rfl ?_) | (refine k_g ?_; first | (refine al_gy' rfl rfl (by with_reducible rfl) ?_) | (refine al_gnt rfl rfl (by with_reducible rfl) rfl ?_) | (refine al_gnf rfl rfl (by with_reducible rfl) rfl ?_)) | (refine al_v (ov_fieldAddr rfl rfl) rfl ?_) | (refine k_load ?_; first | (refine al_v (ov_load rfl rfl) rfl ?_) | (refine al_v (ov_load_agg rfl rfl rfl) rfl ?_)) | (refine k_bin ?_; first | (refine al_v (ov_add rfl rfl (by (first | exact w64 (by omega) (by omega) | rfl))) rfl ?_) | (refine al_v (ov_sub rfl rfl (by (first | exact w64 (by omega) (by omega) | rfl))) rfl ?_) | (refine al_v (ov_seq rfl rfl) rfl ?_)) | (refine k_pick ?_; first | (refine al_v (ov_pick_t' rfl (by with_reducible rfl) rfl) rfl ?_) | (refine al_v (ov_pick_f' rfl (by with_reducible rfl) rfl) rfl ?_)) | (refine al_v (ov_assign rfl) rfl ?_) | (refine k_call ?_; first | (refine al_v (ov_len_str rfl) rfl ?_)) | (refine al_v (ov_extract rfl rfl) rfl ?_) | (refine al_nil ?_) | (refine al_alloc rfl rfl rfl (by first | exact ln0 | exact ln1 | exact ln2 | exact ln4) (by repeat constructor) rfl ?_) | (refine al_store rfl rfl rfl rfl rfl (by repeat constructor) (by repeat constructor) ?_) | (refine al_v (ov_build rfl rfl rfl (by repeat constructor)) rfl ?_) | (refine al_buildSlice (by rfl) (by rfl) (by rfl) (by rfl) (by decide) (by decide) (by rfl) (by rfl) (by repeat constructor) (by rfl) (by repeat constructor) (by rfl) (by first | exact ln0 | exact ln1 | exact ln2 | exact ln4) (by repeat constructor) rfl ?_) | (refine al_v (ov_index rfl rfl (by omega) (by omega)) rfl ?_)) | (first | (refine thn_n ?_) | (refine k_awp ?_; first | (refine awp_seq (awp_region ?_)) | (refine awp_seq ?_) | (refine awp_region ?_) | (refine k_cond ?_; first | (refine awp_cond_t' rfl (by with_reducible rfl) ?_) | (refine awp_cond_f' rfl (by with_reducible rfl) ?_)) | (refine awp_block ?_) | (refine awp_ret ?_) | (refine awp_skip ?_) | (refine awp_exit ?_)) | (refine thn_ret ?_) | (refine lq_exit ?_) | (refine lq_ret ?_) | (refine thn_exit ?_) | (refine inb_n ?_) | (refine inb_ret ?_) | (refine inb_here ?_) | (refine inb_out rfl ?_)))
    refine retq_wkn (.boxLe (id := 0) [.int .i64 0, .rs [], .str [], .bool false] rfl (.cons (.refl _) (.cons .nil (.cons (.refl _) (.cons (.refl _) .nil)))) rfl) ?_
    refine retc2 (by first | exact .inr rfl | exact .inl rfl) rfl rfl rfl rfl rfl rfl ?_
    exact ⟨rfl, rfl⟩
  | true =>
    rw [if_pos rfl, Nat.zero_add] at hE0
    obtain ⟨hr0, _⟩ := slice_cut hcut0 (Nat.zero_le _)
    have heq0 := cutY_eq hcut0
    rw [List.drop_zero] at heq0 hcut0
    repeat' (first | (first | (refine al_v (ov_slice_hiT (T := T) rfl rfl (by omega) (by omega) hT) rfl ?_) | (refine al_v (ov_sliceT rfl rfl rfl (by omega) (by omega) (by omega) hD2) rfl ?_) | (refine k_call ?_; refine al_call rfl rfl rfl rfl hD ?_; rintro _ rfl) | (refine k_call ?_; refine al_call rfl rfl rfl rfl hE0 ?_; rintro _ rfl) | (refine k_bin ?_; first | (refine al_v (ov_cmp_t rfl rfl rfl (by omega)) rfl ?_) | (refine al_v (ov_cmp_f rfl rfl rfl (by omega)) rfl ?_) | (refine al_v (ov_sne_f (n := tx "HTTP/1.1 ") h9 rfl rfl) rfl ?_))) | (refine k_al ?_; first | (refine al_v (ov_move rfl) rfl ?_) | (refine k_g ?_; first | (refine al_gy' rfl rfl (by with_reducible rfl) ?_) | (refine al_gnt rfl rfl (by with_reducible rfl) rfl ?_) | (refine al_gnf rfl rfl (by with_reducible rfl) rfl ?_)) | (refine al_v (ov_fieldAddr rfl rfl) rfl ?_) | (refine k_load ?_; first | (refine al_v (ov_load rfl rfl) rfl ?_) | (refine al_v (ov_load_agg rfl rfl rfl) rfl ?_)) | (refine k_bin ?_; first | (refine al_v (ov_add rfl rfl (by (first | exact w64 (by omega) (by omega) | rfl))) rfl ?_) | (refine al_v (ov_sub rfl rfl (by (first | exact w64 (by omega) (by omega) | rfl))) rfl ?_) | (refine al_v (ov_seq rfl rfl) rfl ?_)) | (refine k_pick ?_; first | (refine al_v (ov_pick_t' rfl (by with_reducible rfl) rfl) rfl ?_) | (refine al_v (ov_pick_f' rfl (by with_reducible rfl) rfl) rfl ?_)) | (refine al_v (ov_assign rfl) rfl ?_) | (refine k_call ?_; first | (refine al_v (ov_len_str rfl) rfl ?_)) | (refine al_v (ov_extract rfl rfl) rfl ?_) | (refine al_nil ?_) | (refine al_alloc rfl rfl rfl (by first | exact ln0 | exact ln1 | exact ln2 | exact ln4) (by repeat constructor) rfl ?_) | (refine al_store rfl rfl rfl rfl rfl (by repeat constructor) (by repeat constructor) ?_) | (refine al_v (ov_build rfl rfl rfl (by repeat constructor)) rfl ?_) | (refine al_buildSlice (by rfl) (by rfl) (by rfl) (by rfl) (by decide) (by decide) (by rfl) (by rfl) (by repeat constructor) (by rfl) (by repeat constructor) (by rfl) (by first | exact ln0 | exact ln1 | exact ln2 | exact ln4) (by repeat constructor) rfl ?_) | (refine al_v (ov_index rfl rfl (by omega) (by omega)) rfl ?_)) | (first | (refine thn_n ?_) | (refine k_awp ?_; first | (refine awp_seq (awp_region ?_)) | (refine awp_seq ?_) | (refine awp_region ?_) | (refine k_cond ?_; first | (refine awp_cond_t' rfl (by with_reducible rfl) ?_) | (refine awp_cond_f' rfl (by with_reducible rfl) ?_)) | (refine awp_block ?_) | (refine awp_ret ?_) | (refine awp_skip ?_) | (refine awp_exit ?_)) | (refine thn_ret ?_) | (refine lq_exit ?_) | (refine lq_ret ?_) | (refine thn_exit ?_) | (refine inb_n ?_) | (refine inb_ret ?_) | (refine inb_here ?_) | (refine inb_out rfl ?_)))
    refine awp_wkn (.adoptBox (id := 2) (k := 1) (e := 61) (sz := 2) rfl rfl (by decide) rfl rfl rfl) ?_
    refine awp_wkn (.spell 7 (.int .i64 ((line0.length + 2 : Nat) : Int)) rfl (congrArg (AV.int .i64) (by omega))) ?_
    refine awp_loopq (fun q : Nat × Fs × Nat × List (List AV) => qSt s q.1 st q.2.2.1 q.2.2.2) (fun q => q.2.2.2 = q.2.1.map prAV ∧ QInv s st q.1 q.2.1) (fun q => s.length - q.1) (line0.length + 2, [], 0, []) (.of (.same (by repeat constructor))) ⟨rfl, by dsimp only; omega, Nat.zero_le _, (fun p h => by cases h), fun r h => by
      obtain ⟨_, _, h3, tail, line, hc⟩ := hbox r h
      obtain ⟨m1, m2, m3, m4⟩ := mayY_all h.1
      rw [hcut0] at hc
      injection hc with hc1 hc2
      injection hc2 with hc2 _
      refine ⟨by rw [← hst, h3], m3, r.fs, tail, rfl, m4, ?_⟩
      dsimp only
      rw [heq0, ← List.drop_drop, List.drop_left]
      exact hc2⟩ ?_
    rintro ⟨at', out, ver, xs⟩ ⟨hxs, hI⟩
    dsimp only at hxs hI ⊢
    subst hxs
    have hIle := hI.le
    have hIlen := hI.len
    have hol : (out.map prAV).length = out.length := List.length_map _
    have hE1 := s_end (w0 := w0) (base := base) (s := s) (at' := at') (by omega) hIle
    obtain ⟨line, rest, e, hcut⟩ : ∃ x y z, Lib.cut (s.drop at') [13, 10] = (x, y, z) := ⟨_, _, _, rfl⟩
    rw [endI_cut hcut] at hE1
    cases e with
    | false =>
      rw [if_neg (by decide)] at hE1
      rw [prs_none fun r h => by
        have := (qinv_line hI h).1
        rw [hcut] at this
        cases this]
      repeat' (first|(first|(refine k_call ?_;refine al_call rfl rfl rfl rfl hE1 ?_;rintro _ rfl)|(refine k_bin ?_;first|(refine al_v (ov_cmp_t rfl rfl rfl (by omega)) rfl ?_)))|(refine k_al ?_;first|(refine al_v (ov_move rfl) rfl ?_)|(refine k_g ?_;first|(refine al_gy' rfl rfl (by with_reducible rfl) ?_)|(refine al_gnt rfl rfl (by with_reducible rfl) rfl ?_)|(refine al_gnf rfl rfl (by with_reducible rfl) rfl ?_))|(refine al_v (ov_fieldAddr rfl rfl) rfl ?_)|(refine k_load ?_;first|(refine al_v (ov_load rfl rfl) rfl ?_)|(refine al_v (ov_load_agg rfl rfl rfl) rfl ?_))|(refine k_bin ?_;first|(refine al_v (ov_add rfl rfl (by (first|exact w64 (by omega) (by omega)|rfl))) rfl ?_)|(refine al_v (ov_sub rfl rfl (by (first|exact w64 (by omega) (by omega)|rfl))) rfl ?_)|(refine al_v (ov_seq rfl rfl) rfl ?_))|(refine k_pick ?_;first|(refine al_v (ov_pick_t' rfl (by with_reducible rfl) rfl) rfl ?_)|(refine al_v (ov_pick_f' rfl (by with_reducible rfl) rfl) rfl ?_))|(refine al_v (ov_assign rfl) rfl ?_)|(refine k_call ?_;first|(refine al_v (ov_len_str rfl) rfl ?_))|(refine al_v (ov_extract rfl rfl) rfl ?_)|(refine al_nil ?_)|(refine al_alloc rfl rfl rfl (by first|exact ln0|exact ln1|exact ln2|exact ln4) (by repeat constructor) rfl ?_)|(refine al_store rfl rfl rfl rfl rfl (by repeat constructor) (by repeat constructor) ?_)|(refine al_v (ov_build rfl rfl rfl (by repeat constructor)) rfl ?_)|(refine al_buildSlice (by rfl) (by rfl) (by rfl) (by rfl) (by decide) (by decide) (by rfl) (by rfl) (by repeat constructor) (by rfl) (by repeat constructor) (by rfl) (by first|exact ln0|exact ln1|exact ln2|exact ln4) (by repeat constructor) rfl ?_)|(refine al_v (ov_index rfl rfl (by omega) (by omega)) rfl ?_))|(first|(refine thn_n ?_)|(refine k_awp ?_;first|(refine awp_seq (awp_region ?_))|(refine awp_seq ?_)|(refine awp_region ?_)|(refine k_cond ?_;first|(refine awp_cond_t' rfl (by with_reducible rfl) ?_)|(refine awp_cond_f' rfl (by with_reducible rfl) ?_))|(refine awp_block ?_)|(refine awp_ret ?_)|(refine awp_skip ?_)|(refine awp_exit ?_))|(refine thn_ret ?_)|(refine lq_exit ?_)|(refine lq_ret ?_)|(refine thn_exit ?_)|(refine inb_n ?_)|(refine inb_ret ?_)|(refine inb_here ?_)|(refine inb_out rfl ?_)))
      refine retq_wkn (.boxLe (id := 0) [.int .i64 0, .rs [], .str [], .bool false] rfl (.cons (.refl _) (.cons .nil (.cons (.refl _) (.cons (.refl _) .nil)))) rfl) ?_
      refine retc2 (by first | exact .inr rfl | exact .inl rfl) rfl rfl rfl rfl rfl rfl ?_
      exact ⟨rfl, rfl⟩
    | true =>
      rw [if_pos rfl] at hE1
      obtain ⟨hroom, hsl⟩ := slice_cut hcut hIle
      have hsl2 : (s.take ((at' + line.length : Nat) : Int).toNat).drop ((at' : Nat) : Int).toNat = line := hsl
      repeat' (first|(first|(refine k_call ?_;refine al_call rfl rfl rfl rfl hE1 ?_;rintro _ rfl)|(refine k_bin ?_;first|(refine al_v (ov_cmp_t rfl rfl rfl (by omega)) rfl ?_)|(refine al_v (ov_cmp_f rfl rfl rfl (by omega)) rfl ?_))|(refine al_v (ov_sliceT (T := line) rfl rfl rfl (by omega) (by omega) (by omega) hsl2) rfl ?_))|(refine k_al ?_;first|(refine al_v (ov_move rfl) rfl ?_)|(refine k_g ?_;first|(refine al_gy' rfl rfl (by with_reducible rfl) ?_)|(refine al_gnt rfl rfl (by with_reducible rfl) rfl ?_)|(refine al_gnf rfl rfl (by with_reducible rfl) rfl ?_))|(refine al_v (ov_fieldAddr rfl rfl) rfl ?_)|(refine k_load ?_;first|(refine al_v (ov_load rfl rfl) rfl ?_)|(refine al_v (ov_load_agg rfl rfl rfl) rfl ?_))|(refine k_bin ?_;first|(refine al_v (ov_add rfl rfl (by (first|exact w64 (by omega) (by omega)|rfl))) rfl ?_)|(refine al_v (ov_sub rfl rfl (by (first|exact w64 (by omega) (by omega)|rfl))) rfl ?_)|(refine al_v (ov_seq rfl rfl) rfl ?_))|(refine k_pick ?_;first|(refine al_v (ov_pick_t' rfl (by with_reducible rfl) rfl) rfl ?_)|(refine al_v (ov_pick_f' rfl (by with_reducible rfl) rfl) rfl ?_))|(refine al_v (ov_assign rfl) rfl ?_)|(refine k_call ?_;first|(refine al_v (ov_len_str rfl) rfl ?_))|(refine al_v (ov_extract rfl rfl) rfl ?_)|(refine al_nil ?_)|(refine al_alloc rfl rfl rfl (by first|exact ln0|exact ln1|exact ln2|exact ln4) (by repeat constructor) rfl ?_)|(refine al_store rfl rfl rfl rfl rfl (by repeat constructor) (by repeat constructor) ?_)|(refine al_v (ov_build rfl rfl rfl (by repeat constructor)) rfl ?_)|(refine al_buildSlice (by rfl) (by rfl) (by rfl) (by rfl) (by decide) (by decide) (by rfl) (by rfl) (by repeat constructor) (by rfl) (by repeat constructor) (by rfl) (by first|exact ln0|exact ln1|exact ln2|exact ln4) (by repeat constructor) rfl ?_)|(refine al_v (ov_index rfl rfl (by omega) (by omega)) rfl ?_))|(first|(refine thn_n ?_)|(refine k_awp ?_;first|(refine awp_seq (awp_region ?_))|(refine awp_seq ?_)|(refine awp_region ?_)|(refine k_cond ?_;first|(refine awp_cond_t' rfl (by with_reducible rfl) ?_)|(refine awp_cond_f' rfl (by with_reducible rfl) ?_))|(refine awp_block ?_)|(refine awp_ret ?_)|(refine awp_skip ?_)|(refine awp_exit ?_))|(refine thn_ret ?_)|(refine lq_exit ?_)|(refine lq_ret ?_)|(refine thn_exit ?_)|(refine inb_n ?_)|(refine inb_ret ?_)|(refine inb_here ?_)|(refine inb_out rfl ?_)))
      refine awp_loopq (fun k : Nat => ⟨[(0, .str s), (2, .op 0 0), (5, .op 1 0), (6, .op 2 0), (7, .int .i64 at'), (8, .int .i64 ((at' + line.length : Nat) : Int)), (9, .str line), (10, .int .i64 k)], (qSt s at' st ver (out.map prAV)).objs⟩) (fun k => k ≤ line.length ∧ ∀ (j : Nat) (c : UInt8), j < k → line[j]? = some c → c ≠ 58) (fun k => line.length - k) 0 (.of (.same (by repeat constructor))) ⟨Nat.zero_le _, fun j c h => absurd h (Nat.not_lt_zero _)⟩ ?_
      rintro k ⟨hk, hno⟩
      try dsimp only
      by_cases hcol : k < line.length ∧ ¬ byteAt line (k : Int) = 58
      · obtain ⟨hkl, hk58⟩ := hcol
        repeat' (first|((refine k_bin ?_;first|(refine al_v (ov_cmp_t rfl rfl rfl (by omega)) rfl ?_)|(refine al_v (ov_cmp_f rfl rfl rfl (by omega)) rfl ?_)))|(refine k_al ?_;first|(refine al_v (ov_move rfl) rfl ?_)|(refine k_g ?_;first|(refine al_gy' rfl rfl (by with_reducible rfl) ?_)|(refine al_gnt rfl rfl (by with_reducible rfl) rfl ?_)|(refine al_gnf rfl rfl (by with_reducible rfl) rfl ?_))|(refine al_v (ov_fieldAddr rfl rfl) rfl ?_)|(refine k_load ?_;first|(refine al_v (ov_load rfl rfl) rfl ?_)|(refine al_v (ov_load_agg rfl rfl rfl) rfl ?_))|(refine k_bin ?_;first|(refine al_v (ov_add rfl rfl (by (first|exact w64 (by omega) (by omega)|rfl))) rfl ?_)|(refine al_v (ov_sub rfl rfl (by (first|exact w64 (by omega) (by omega)|rfl))) rfl ?_)|(refine al_v (ov_seq rfl rfl) rfl ?_))|(refine k_pick ?_;first|(refine al_v (ov_pick_t' rfl (by with_reducible rfl) rfl) rfl ?_)|(refine al_v (ov_pick_f' rfl (by with_reducible rfl) rfl) rfl ?_))|(refine al_v (ov_assign rfl) rfl ?_)|(refine k_call ?_;first|(refine al_v (ov_len_str rfl) rfl ?_))|(refine al_v (ov_extract rfl rfl) rfl ?_)|(refine al_nil ?_)|(refine al_alloc rfl rfl rfl (by first|exact ln0|exact ln1|exact ln2|exact ln4) (by repeat constructor) rfl ?_)|(refine al_store rfl rfl rfl rfl rfl (by repeat constructor) (by repeat constructor) ?_)|(refine al_v (ov_build rfl rfl rfl (by repeat constructor)) rfl ?_)|(refine al_buildSlice (by rfl) (by rfl) (by rfl) (by rfl) (by decide) (by decide) (by rfl) (by rfl) (by repeat constructor) (by rfl) (by repeat constructor) (by rfl) (by first|exact ln0|exact ln1|exact ln2|exact ln4) (by repeat constructor) rfl ?_)|(refine al_v (ov_index rfl rfl (by omega) (by omega)) rfl ?_))|(first|(refine thn_n ?_)|(refine k_awp ?_;first|(refine awp_seq (awp_region ?_))|(refine awp_seq ?_)|(refine awp_region ?_)|(refine k_cond ?_;first|(refine awp_cond_t' rfl (by with_reducible rfl) ?_)|(refine awp_cond_f' rfl (by with_reducible rfl) ?_))|(refine awp_block ?_)|(refine awp_ret ?_)|(refine awp_skip ?_)|(refine awp_exit ?_))|(refine thn_ret ?_)|(refine lq_exit ?_)|(refine lq_ret ?_)|(refine thn_exit ?_)|(refine inb_n ?_)|(refine inb_ret ?_)|(refine inb_here ?_)|(refine inb_out rfl ?_)))
        first|refine lq_back (k + 1) (.of (.same (by repeat constructor))) ?_ ?_|refine lq_back (k + 1) (.of (wk_drop [_] rfl (by repeat constructor) rfl (by repeat constructor) rfl)) ?_ ?_|refine lq_back (k + 1) (.of (wk_drop [_, _] rfl (by repeat constructor) rfl (by repeat constructor) rfl)) ?_ ?_|refine lq_back (k + 1) (.of (wk_drop [_, _, _] rfl (by repeat constructor) rfl (by repeat constructor) rfl)) ?_ ?_
        · refine ⟨by omega, fun j c hj hc => ?_⟩
          rcases Nat.lt_or_ge j k with h | h
          · exact hno j c h hc
          · obtain rfl : j = k := by omega
            rintro rfl
            exact hk58 (byte_at hc)
        · omega
      have hCol : ColA line k := ⟨hk, hno, fun c hc => by
        have hkl := (List.getElem?_eq_some_iff.1 hc).1
        have h58 : byteAt line (k : Int) = 58 := Classical.byContradiction fun h => hcol ⟨hkl, h⟩
        rw [byte_at hc] at h58
        exact UInt8.toNat_inj.1 (by have e : (58 : UInt8).toNat = 58 := rfl; omega)⟩
      have hQ := fun r (h : PrP s r) => qinv_end hI h hcut hCol
      have hcol2 : ¬ k < line.length ∨ (k < line.length ∧ byteAt line (k : Int) = 58) := by
        by_cases h1 : k < line.length
        · exact .inr ⟨h1, Classical.byContradiction fun h => hcol ⟨h1, h⟩⟩
        · exact .inl h1
      by_cases hk2 : line.length < k + 2
      · rw [prs_none fun r h => by have := (hQ r h).1; omega]
        rcases hcol2 with hc1 | ⟨hc1, hc2⟩
        all_goals
          repeat' (first|((refine k_bin ?_;first|(refine al_v (ov_cmp_t rfl rfl rfl (by omega)) rfl ?_)|(refine al_v (ov_cmp_f rfl rfl rfl (by omega)) rfl ?_)))|(refine k_al ?_;first|(refine al_v (ov_move rfl) rfl ?_)|(refine k_g ?_;first|(refine al_gy' rfl rfl (by with_reducible rfl) ?_)|(refine al_gnt rfl rfl (by with_reducible rfl) rfl ?_)|(refine al_gnf rfl rfl (by with_reducible rfl) rfl ?_))|(refine al_v (ov_fieldAddr rfl rfl) rfl ?_)|(refine k_load ?_;first|(refine al_v (ov_load rfl rfl) rfl ?_)|(refine al_v (ov_load_agg rfl rfl rfl) rfl ?_))|(refine k_bin ?_;first|(refine al_v (ov_add rfl rfl (by (first|exact w64 (by omega) (by omega)|rfl))) rfl ?_)|(refine al_v (ov_sub rfl rfl (by (first|exact w64 (by omega) (by omega)|rfl))) rfl ?_)|(refine al_v (ov_seq rfl rfl) rfl ?_))|(refine k_pick ?_;first|(refine al_v (ov_pick_t' rfl (by with_reducible rfl) rfl) rfl ?_)|(refine al_v (ov_pick_f' rfl (by with_reducible rfl) rfl) rfl ?_))|(refine al_v (ov_assign rfl) rfl ?_)|(refine k_call ?_;first|(refine al_v (ov_len_str rfl) rfl ?_))|(refine al_v (ov_extract rfl rfl) rfl ?_)|(refine al_nil ?_)|(refine al_alloc rfl rfl rfl (by first|exact ln0|exact ln1|exact ln2|exact ln4) (by repeat constructor) rfl ?_)|(refine al_store rfl rfl rfl rfl rfl (by repeat constructor) (by repeat constructor) ?_)|(refine al_v (ov_build rfl rfl rfl (by repeat constructor)) rfl ?_)|(refine al_buildSlice (by rfl) (by rfl) (by rfl) (by rfl) (by decide) (by decide) (by rfl) (by rfl) (by repeat constructor) (by rfl) (by repeat constructor) (by rfl) (by first|exact ln0|exact ln1|exact ln2|exact ln4) (by repeat constructor) rfl ?_)|(refine al_v (ov_index rfl rfl (by omega) (by omega)) rfl ?_))|(first|(refine thn_n ?_)|(refine k_awp ?_;first|(refine awp_seq (awp_region ?_))|(refine awp_seq ?_)|(refine awp_region ?_)|(refine k_cond ?_;first|(refine awp_cond_t' rfl (by with_reducible rfl) ?_)|(refine awp_cond_f' rfl (by with_reducible rfl) ?_))|(refine awp_block ?_)|(refine awp_ret ?_)|(refine awp_skip ?_)|(refine awp_exit ?_))|(refine thn_ret ?_)|(refine lq_exit ?_)|(refine lq_ret ?_)|(refine thn_exit ?_)|(refine inb_n ?_)|(refine inb_ret ?_)|(refine inb_here ?_)|(refine inb_out rfl ?_)))
          refine retq_wkn (.boxLe (id := 0) [.int .i64 0, .rs [], .str [], .bool false] rfl (.cons (.refl _) (.cons .nil (.cons (.refl _) (.cons (.refl _) .nil)))) rfl) ?_
          refine retc2 (by first | exact .inr rfl | exact .inl rfl) rfl rfl rfl rfl rfl rfl ?_
          exact ⟨rfl, rfl⟩
      have hc58 : k < line.length ∧ byteAt line (k : Int) = 58 := by
        rcases hcol2 with h | h
        · omega
        · exact h
      obtain ⟨hkl, hk58⟩ := hc58
      obtain ⟨nm, hnm⟩ : ∃ nm, line.take ((k : Nat) : Int).toNat = nm := ⟨_, rfl⟩
      have hnm2 : line.take k = nm := hnm
      obtain ⟨vl, hvl⟩ : ∃ vl, line.drop (((k : Nat) : Int) + 2).toNat = vl := ⟨_, rfl⟩
      have hvl2 : line.drop (k + 2) = vl := hvl
      rw [hnm2, hvl2] at hQ
      have hnml : nm.length ≤ line.length := by rw [← hnm2, List.length_take]; omega
      have hvll : vl.length ≤ line.length := by rw [← hvl2, List.length_drop]; omega
      by_cases hcl : nm = clN
      · have hDv := s_digits (w0 := w0) (base := base) (s := vl) (by omega)
        have hdb := digR_bound vl
        obtain ⟨n, hn⟩ : ∃ n, digR vl = n := ⟨_, rfl⟩
        rw [hn] at hDv hdb hQ
        have hE2 := s_end (w0 := w0) (base := base) (s := s) (at' := at' + line.length + 2) (by omega) (by omega)
        obtain ⟨l2, rest2, e2, hcut2⟩ : ∃ x y z, Lib.cut (s.drop (at' + line.length + 2)) [13, 10] = (x, y, z) := ⟨_, _, _, rfl⟩
        rw [endI_cut hcut2] at hE2
        have hEP := fun r (h : PrP s r) => (hQ r h).2.1 hcl
        cases e2 with
        | false =>
          rw [if_neg (by decide)] at hE2
          rw [prs_none fun r h => by
            obtain ⟨tail, hc⟩ := (hEP r h).cut
            rw [hcut2] at hc
            injection hc with _ hc
            injection hc with _ hc
            cases hc]
          have hn2 : n < 0 ∨ 0 ≤ n := by omega
          rcases hn2 with hn2 | hn2
          all_goals
            repeat' (first|(first|(refine k_call ?_;refine al_call rfl rfl rfl rfl hDv ?_;rintro _ rfl)|(refine k_call ?_;refine al_call rfl rfl rfl rfl hE2 ?_;rintro _ rfl)|(refine k_bin ?_;first|(refine al_v (ov_cmp_t rfl rfl rfl (by omega)) rfl ?_)|(refine al_v (ov_cmp_f rfl rfl rfl (by omega)) rfl ?_)|(refine al_v (ov_seq_t (n := clN) hcl rfl rfl) rfl ?_))|(refine al_v (ov_slice_hiT rfl rfl (by omega) (by omega) hnm) rfl ?_)|(refine al_v (ov_slice_loT rfl rfl (by omega) (by omega) hvl) rfl ?_))|(refine k_al ?_;first|(refine al_v (ov_move rfl) rfl ?_)|(refine k_g ?_;first|(refine al_gy' rfl rfl (by with_reducible rfl) ?_)|(refine al_gnt rfl rfl (by with_reducible rfl) rfl ?_)|(refine al_gnf rfl rfl (by with_reducible rfl) rfl ?_))|(refine al_v (ov_fieldAddr rfl rfl) rfl ?_)|(refine k_load ?_;first|(refine al_v (ov_load rfl rfl) rfl ?_)|(refine al_v (ov_load_agg rfl rfl rfl) rfl ?_))|(refine k_bin ?_;first|(refine al_v (ov_add rfl rfl (by (first|exact w64 (by omega) (by omega)|rfl))) rfl ?_)|(refine al_v (ov_sub rfl rfl (by (first|exact w64 (by omega) (by omega)|rfl))) rfl ?_)|(refine al_v (ov_seq rfl rfl) rfl ?_))|(refine k_pick ?_;first|(refine al_v (ov_pick_t' rfl (by with_reducible rfl) rfl) rfl ?_)|(refine al_v (ov_pick_f' rfl (by with_reducible rfl) rfl) rfl ?_))|(refine al_v (ov_assign rfl) rfl ?_)|(refine k_call ?_;first|(refine al_v (ov_len_str rfl) rfl ?_))|(refine al_v (ov_extract rfl rfl) rfl ?_)|(refine al_nil ?_)|(refine al_alloc rfl rfl rfl (by first|exact ln0|exact ln1|exact ln2|exact ln4) (by repeat constructor) rfl ?_)|(refine al_store rfl rfl rfl rfl rfl (by repeat constructor) (by repeat constructor) ?_)|(refine al_v (ov_build rfl rfl rfl (by repeat constructor)) rfl ?_)|(refine al_buildSlice (by rfl) (by rfl) (by rfl) (by rfl) (by decide) (by decide) (by rfl) (by rfl) (by repeat constructor) (by rfl) (by repeat constructor) (by rfl) (by first|exact ln0|exact ln1|exact ln2|exact ln4) (by repeat constructor) rfl ?_)|(refine al_v (ov_index rfl rfl (by omega) (by omega)) rfl ?_))|(first|(refine thn_n ?_)|(refine k_awp ?_;first|(refine awp_seq (awp_region ?_))|(refine awp_seq ?_)|(refine awp_region ?_)|(refine k_cond ?_;first|(refine awp_cond_t' rfl (by with_reducible rfl) ?_)|(refine awp_cond_f' rfl (by with_reducible rfl) ?_))|(refine awp_block ?_)|(refine awp_ret ?_)|(refine awp_skip ?_)|(refine awp_exit ?_))|(refine thn_ret ?_)|(refine lq_exit ?_)|(refine lq_ret ?_)|(refine thn_exit ?_)|(refine inb_n ?_)|(refine inb_ret ?_)|(refine inb_here ?_)|(refine inb_out rfl ?_)))
            refine retq_wkn (.boxLe (id := 0) [.int .i64 0, .rs [], .str [], .bool false] rfl (.cons (.refl _) (.cons .nil (.cons (.refl _) (.cons (.refl _) .nil)))) rfl) ?_
            refine retc2 (by first | exact .inr rfl | exact .inl rfl) rfl rfl rfl rfl rfl rfl ?_
            exact ⟨rfl, rfl⟩
        | true =>
          rw [if_pos rfl] at hE2
          obtain ⟨hroom2, hsl3⟩ := slice_cut hcut2 (by omega)
          by_cases hgood : ¬ (0 ≤ n ∧ n ≤ (s.length : Int) - ((at' + line.length + 2 + l2.length : Nat) : Int) - 4)
          · rw [prs_none fun r h => by
              obtain ⟨h1, h2, tail, hc⟩ := hEP r h
              have hq := cutY_eq hc
              have hlq : (s.drop (at' + line.length + 2)).length = (tx "connection: " ++ endW r.cl).length + (2 + (2 + (r.body.length + tail.length))) := by
                rw [hq]; simp only [List.length_append, List.length_cons, List.length_nil]
              rw [hcut2] at hc
              injection hc with hc _
              rw [← hc, List.length_drop] at hlq
              exact hgood ⟨by omega, by omega⟩]
            have hn2 : n < 0 ∨ 0 ≤ n := by omega
            rcases hn2 with hn2 | hn2
            all_goals
              repeat' (first|(first|(refine k_call ?_;refine al_call rfl rfl rfl rfl hDv ?_;rintro _ rfl)|(refine k_call ?_;refine al_call rfl rfl rfl rfl hE2 ?_;rintro _ rfl)|(refine k_bin ?_;first|(refine al_v (ov_cmp_t rfl rfl rfl (by omega)) rfl ?_)|(refine al_v (ov_cmp_f rfl rfl rfl (by omega)) rfl ?_)|(refine al_v (ov_seq_t (n := clN) hcl rfl rfl) rfl ?_))|(refine al_v (ov_slice_hiT rfl rfl (by omega) (by omega) hnm) rfl ?_)|(refine al_v (ov_slice_loT rfl rfl (by omega) (by omega) hvl) rfl ?_))|(refine k_al ?_;first|(refine al_v (ov_move rfl) rfl ?_)|(refine k_g ?_;first|(refine al_gy' rfl rfl (by with_reducible rfl) ?_)|(refine al_gnt rfl rfl (by with_reducible rfl) rfl ?_)|(refine al_gnf rfl rfl (by with_reducible rfl) rfl ?_))|(refine al_v (ov_fieldAddr rfl rfl) rfl ?_)|(refine k_load ?_;first|(refine al_v (ov_load rfl rfl) rfl ?_)|(refine al_v (ov_load_agg rfl rfl rfl) rfl ?_))|(refine k_bin ?_;first|(refine al_v (ov_add rfl rfl (by (first|exact w64 (by omega) (by omega)|rfl))) rfl ?_)|(refine al_v (ov_sub rfl rfl (by (first|exact w64 (by omega) (by omega)|rfl))) rfl ?_)|(refine al_v (ov_seq rfl rfl) rfl ?_))|(refine k_pick ?_;first|(refine al_v (ov_pick_t' rfl (by with_reducible rfl) rfl) rfl ?_)|(refine al_v (ov_pick_f' rfl (by with_reducible rfl) rfl) rfl ?_))|(refine al_v (ov_assign rfl) rfl ?_)|(refine k_call ?_;first|(refine al_v (ov_len_str rfl) rfl ?_))|(refine al_v (ov_extract rfl rfl) rfl ?_)|(refine al_nil ?_)|(refine al_alloc rfl rfl rfl (by first|exact ln0|exact ln1|exact ln2|exact ln4) (by repeat constructor) rfl ?_)|(refine al_store rfl rfl rfl rfl rfl (by repeat constructor) (by repeat constructor) ?_)|(refine al_v (ov_build rfl rfl rfl (by repeat constructor)) rfl ?_)|(refine al_buildSlice (by rfl) (by rfl) (by rfl) (by rfl) (by decide) (by decide) (by rfl) (by rfl) (by repeat constructor) (by rfl) (by repeat constructor) (by rfl) (by first|exact ln0|exact ln1|exact ln2|exact ln4) (by repeat constructor) rfl ?_)|(refine al_v (ov_index rfl rfl (by omega) (by omega)) rfl ?_))|(first|(refine thn_n ?_)|(refine k_awp ?_;first|(refine awp_seq (awp_region ?_))|(refine awp_seq ?_)|(refine awp_region ?_)|(refine k_cond ?_;first|(refine awp_cond_t' rfl (by with_reducible rfl) ?_)|(refine awp_cond_f' rfl (by with_reducible rfl) ?_))|(refine awp_block ?_)|(refine awp_ret ?_)|(refine awp_skip ?_)|(refine awp_exit ?_))|(refine thn_ret ?_)|(refine lq_exit ?_)|(refine lq_ret ?_)|(refine thn_exit ?_)|(refine inb_n ?_)|(refine inb_ret ?_)|(refine inb_here ?_)|(refine inb_out rfl ?_)))
              refine retq_wkn (.boxLe (id := 0) [.int .i64 0, .rs [], .str [], .bool false] rfl (.cons (.refl _) (.cons .nil (.cons (.refl _) (.cons (.refl _) .nil)))) rfl) ?_
              refine retc2 (by first | exact .inr rfl | exact .inl rfl) rfl rfl rfl rfl rfl rfl ?_
              exact ⟨rfl, rfl⟩
          obtain ⟨hg1, hg2⟩ := Classical.not_not.1 hgood
          obtain ⟨N, rfl⟩ := Int.eq_ofNat_of_zero_le hg1
          obtain ⟨body, hbody⟩ : ∃ b, (s.take (((at' + line.length + 2 + l2.length : Nat) : Int) + 4 + (N : Int)).toNat).drop (((at' + line.length + 2 + l2.length : Nat) : Int) + 4).toNat = b := ⟨_, rfl⟩
          have hsl4 : (s.take ((at' + line.length + 2 + l2.length : Nat) : Int).toNat).drop (((at' + line.length : Nat) : Int) + 2).toNat = l2 := hsl3
          have hbl : body.length ≤ s.length := by rw [← hbody]; simp only [List.length_drop, List.length_take]; omega
          have hfit : RpFit ⟨st, out, body, decide (l2 = tx "connection: close")⟩ := ⟨by dsimp only; omega, fun p h => by have := hI.each p h; omega, by dsimp only; omega⟩
          have hguess : ∀ r, PrP s r → (⟨st, out, body, decide (l2 = tx "connection: close")⟩ : Rp) = r := fun r h => by
            obtain ⟨h1, h2, tail, hc⟩ := hEP r h
            have hq := cutY_eq hc
            have hl2 : l2 = tx "connection: " ++ endW r.cl := by
              rw [hcut2] at hc
              injection hc
            have hb : body = r.body := by
              have e1 : (((at' + line.length + 2 + l2.length : Nat) : Int) + 4 + (N : Int)).toNat = (at' + line.length + 2) + (l2.length + 4 + N) := by omega
              have e2 : (((at' + line.length + 2 + l2.length : Nat) : Int) + 4).toNat = (at' + line.length + 2) + (l2.length + 4) := by omega
              rw [← hbody, e1, e2, List.drop_take, ← List.drop_drop, hq, ← hl2]
              have e3 : l2 ++ ([13, 10] ++ ([13, 10] ++ (r.body ++ tail))) = (l2 ++ [13, 10, 13, 10]) ++ (r.body ++ tail) := by simp only [List.append_assoc, List.cons_append, List.nil_append]
              have e4 : l2.length + 4 = (l2 ++ [13, 10, 13, 10]).length := by simp
              have e5 : at' + line.length + 2 + (l2.length + 4 + N) - (at' + line.length + 2 + (l2.length + 4)) = r.body.length := by omega
              rw [e3, e5, e4, List.drop_left, List.take_left]
            have h3 := (hI.eq r h).1
            obtain ⟨rst, rfs, rb, rcl⟩ := r
            dsimp only at h1 h2 h3 hb hl2
            rw [h3, h1, hb, hl2, end_cl]
          have hP := s_printR9 (w0 := w0) (base := base) hG hfit
          obtain ⟨cl, hclq⟩ : ∃ cl, decide (l2 = tx "connection: close") = cl := ⟨_, rfl⟩
          rw [hclq] at hP hguess hfit
          have hseq : ∀ (t t' : TypeId) (sl : Slots) (H : List AO) (x y : Operand), ev sl x = some (.str l2) → ev sl y = some (.str (tx "connection: close")) → OV ((EE w0 base).at ([] : List AO).length) sl H (.binOp .eql t x y t') (.bool cl) := fun t t' sl H x y h1 h2 => by
            have := ov_seq (E := (EE w0 base).at ([] : List AO).length) (H := H) (t := t) (t' := t') h1 h2
            rwa [hclq] at this
          cases hm : mayY ⟨st, out, body, cl⟩ with
          | false =>
            rw [prs_none fun r h => by
              have := hguess r h
              rw [this] at hm
              rw [h.1] at hm
              cases hm]
            have hP1 : PCalls (EE w0 base) 64 [.agg (rpC ⟨st, out, body, cl⟩)] fun rv => rv = .tup [.str [], .int .i64 90] := acalls_mono hP fun rv os h => ⟨by rw [h.1]; unfold prnY; rw [hm]; rfl, h.2⟩
            repeat' (first|(first|(refine k_call ?_;refine al_call rfl rfl rfl rfl hDv ?_;rintro _ rfl)|(refine k_call ?_;refine al_call rfl rfl rfl rfl hE2 ?_;rintro _ rfl)|(refine k_call ?_;refine al_call rfl rfl rfl rfl hP1 ?_;rintro _ rfl)|(refine k_bin ?_;first|(refine al_v (ov_cmp_t rfl rfl rfl (by omega)) rfl ?_)|(refine al_v (ov_cmp_f rfl rfl rfl (by omega)) rfl ?_)|(refine al_v (ov_seq_t (m := nm) (n := clN) hcl rfl rfl) rfl ?_)|(refine al_v (hseq _ _ _ _ _ _ rfl rfl) rfl ?_))|(refine al_v (ov_sliceT (T := l2) rfl rfl rfl (by omega) (by omega) (by omega) hsl4) rfl ?_)|(refine al_v (ov_sliceT (T := body) rfl rfl rfl (by omega) (by omega) (by omega) hbody) rfl ?_)|(refine al_v (ov_slice_hiT (T := nm) rfl rfl (by omega) (by omega) hnm) rfl ?_)|(refine al_v (ov_slice_loT (T := vl) rfl rfl (by omega) (by omega) hvl) rfl ?_)|(refine al_wkn (.boxFreeze (ib := 2) (k := 1) (id := 3) rfl rfl rfl rfl (by repeat constructor) rfl rfl) ?_;refine al_v (ov_load_agg (p := .tmp 6) rfl rfl rfl) rfl ?_))|(refine k_al ?_;first|(refine al_v (ov_move rfl) rfl ?_)|(refine k_g ?_;first|(refine al_gy' rfl rfl (by with_reducible rfl) ?_)|(refine al_gnt rfl rfl (by with_reducible rfl) rfl ?_)|(refine al_gnf rfl rfl (by with_reducible rfl) rfl ?_))|(refine al_v (ov_fieldAddr rfl rfl) rfl ?_)|(refine k_load ?_;first|(refine al_v (ov_load rfl rfl) rfl ?_)|(refine al_v (ov_load_agg rfl rfl rfl) rfl ?_))|(refine k_bin ?_;first|(refine al_v (ov_add rfl rfl (by (first|exact w64 (by omega) (by omega)|rfl))) rfl ?_)|(refine al_v (ov_sub rfl rfl (by (first|exact w64 (by omega) (by omega)|rfl))) rfl ?_)|(refine al_v (ov_seq rfl rfl) rfl ?_))|(refine k_pick ?_;first|(refine al_v (ov_pick_t' rfl (by with_reducible rfl) rfl) rfl ?_)|(refine al_v (ov_pick_f' rfl (by with_reducible rfl) rfl) rfl ?_))|(refine al_v (ov_assign rfl) rfl ?_)|(refine k_call ?_;first|(refine al_v (ov_len_str rfl) rfl ?_))|(refine al_v (ov_extract rfl rfl) rfl ?_)|(refine al_nil ?_)|(refine al_alloc rfl rfl rfl (by first|exact ln0|exact ln1|exact ln2|exact ln4) (by repeat constructor) rfl ?_)|(refine al_store rfl rfl rfl rfl rfl (by repeat constructor) (by repeat constructor) ?_)|(refine al_v (ov_build rfl rfl rfl (by repeat constructor)) rfl ?_)|(refine al_buildSlice (by rfl) (by rfl) (by rfl) (by rfl) (by decide) (by decide) (by rfl) (by rfl) (by repeat constructor) (by rfl) (by repeat constructor) (by rfl) (by first|exact ln0|exact ln1|exact ln2|exact ln4) (by repeat constructor) rfl ?_)|(refine al_v (ov_index rfl rfl (by omega) (by omega)) rfl ?_))|(first|(refine thn_n ?_)|(refine k_awp ?_;first|(refine awp_seq (awp_region ?_))|(refine awp_seq ?_)|(refine awp_region ?_)|(refine k_cond ?_;first|(refine awp_cond_t' rfl (by with_reducible rfl) ?_)|(refine awp_cond_f' rfl (by with_reducible rfl) ?_))|(refine awp_block ?_)|(refine awp_ret ?_)|(refine awp_skip ?_)|(refine awp_exit ?_))|(refine thn_ret ?_)|(refine lq_exit ?_)|(refine lq_ret ?_)|(refine thn_exit ?_)|(refine inb_n ?_)|(refine inb_ret ?_)|(refine inb_here ?_)|(refine inb_out rfl ?_)))
            refine retq_wkn (.boxLe (id := 0) [.int .i64 0, .rs [], .str [], .bool false] rfl (.cons (.refl _) (.cons .nil (.cons (.refl _) (.cons (.refl _) .nil)))) rfl) ?_
            refine retc2 (by first | exact .inr rfl | exact .inl rfl) rfl rfl rfl rfl rfl rfl ?_
            exact ⟨rfl, rfl⟩
          | true =>
            have hP1 : PCalls (EE w0 base) 64 [.agg (rpC ⟨st, out, body, cl⟩)] fun rv => rv = .tup [.str (printY ⟨st, out, body, cl⟩), .int .i64 0] := acalls_mono hP fun rv os h => ⟨by rw [h.1]; unfold prnY; rw [hm]; rfl, h.2⟩
            obtain ⟨pt, hpt⟩ : ∃ pt, printY ⟨st, out, body, cl⟩ = pt := ⟨_, rfl⟩
            rw [hpt] at hP1
            by_cases hbig : s.length < pt.length
            · rw [prs_none fun r h => by
                have h1 := hguess r h
                obtain ⟨_, tail, h2⟩ := h
                rw [← h1, hpt] at h2
                rw [h2, List.length_append] at hbig
                omega]
              repeat' (first|(first|(refine k_call ?_;refine al_call rfl rfl rfl rfl hDv ?_;rintro _ rfl)|(refine k_call ?_;refine al_call rfl rfl rfl rfl hE2 ?_;rintro _ rfl)|(refine k_call ?_;refine al_call rfl rfl rfl rfl hP1 ?_;rintro _ rfl)|(refine k_bin ?_;first|(refine al_v (ov_cmp_t rfl rfl rfl (by omega)) rfl ?_)|(refine al_v (ov_cmp_f rfl rfl rfl (by omega)) rfl ?_)|(refine al_v (ov_seq_t (m := nm) (n := clN) hcl rfl rfl) rfl ?_)|(refine al_v (hseq _ _ _ _ _ _ rfl rfl) rfl ?_))|(refine al_v (ov_sliceT (T := l2) rfl rfl rfl (by omega) (by omega) (by omega) hsl4) rfl ?_)|(refine al_v (ov_sliceT (T := body) rfl rfl rfl (by omega) (by omega) (by omega) hbody) rfl ?_)|(refine al_v (ov_slice_hiT (T := nm) rfl rfl (by omega) (by omega) hnm) rfl ?_)|(refine al_v (ov_slice_loT (T := vl) rfl rfl (by omega) (by omega) hvl) rfl ?_)|(refine al_wkn (.boxFreeze (ib := 2) (k := 1) (id := 3) rfl rfl rfl rfl (by repeat constructor) rfl rfl) ?_;refine al_v (ov_load_agg (p := .tmp 6) rfl rfl rfl) rfl ?_))|(refine k_al ?_;first|(refine al_v (ov_move rfl) rfl ?_)|(refine k_g ?_;first|(refine al_gy' rfl rfl (by with_reducible rfl) ?_)|(refine al_gnt rfl rfl (by with_reducible rfl) rfl ?_)|(refine al_gnf rfl rfl (by with_reducible rfl) rfl ?_))|(refine al_v (ov_fieldAddr rfl rfl) rfl ?_)|(refine k_load ?_;first|(refine al_v (ov_load rfl rfl) rfl ?_)|(refine al_v (ov_load_agg rfl rfl rfl) rfl ?_))|(refine k_bin ?_;first|(refine al_v (ov_add rfl rfl (by (first|exact w64 (by omega) (by omega)|rfl))) rfl ?_)|(refine al_v (ov_sub rfl rfl (by (first|exact w64 (by omega) (by omega)|rfl))) rfl ?_)|(refine al_v (ov_seq rfl rfl) rfl ?_))|(refine k_pick ?_;first|(refine al_v (ov_pick_t' rfl (by with_reducible rfl) rfl) rfl ?_)|(refine al_v (ov_pick_f' rfl (by with_reducible rfl) rfl) rfl ?_))|(refine al_v (ov_assign rfl) rfl ?_)|(refine k_call ?_;first|(refine al_v (ov_len_str rfl) rfl ?_))|(refine al_v (ov_extract rfl rfl) rfl ?_)|(refine al_nil ?_)|(refine al_alloc rfl rfl rfl (by first|exact ln0|exact ln1|exact ln2|exact ln4) (by repeat constructor) rfl ?_)|(refine al_store rfl rfl rfl rfl rfl (by repeat constructor) (by repeat constructor) ?_)|(refine al_v (ov_build rfl rfl rfl (by repeat constructor)) rfl ?_)|(refine al_buildSlice (by rfl) (by rfl) (by rfl) (by rfl) (by decide) (by decide) (by rfl) (by rfl) (by repeat constructor) (by rfl) (by repeat constructor) (by rfl) (by first|exact ln0|exact ln1|exact ln2|exact ln4) (by repeat constructor) rfl ?_)|(refine al_v (ov_index rfl rfl (by omega) (by omega)) rfl ?_))|(first|(refine thn_n ?_)|(refine k_awp ?_;first|(refine awp_seq (awp_region ?_))|(refine awp_seq ?_)|(refine awp_region ?_)|(refine k_cond ?_;first|(refine awp_cond_t' rfl (by with_reducible rfl) ?_)|(refine awp_cond_f' rfl (by with_reducible rfl) ?_))|(refine awp_block ?_)|(refine awp_ret ?_)|(refine awp_skip ?_)|(refine awp_exit ?_))|(refine thn_ret ?_)|(refine lq_exit ?_)|(refine lq_ret ?_)|(refine thn_exit ?_)|(refine inb_n ?_)|(refine inb_ret ?_)|(refine inb_here ?_)|(refine inb_out rfl ?_)))
              refine retq_wkn (.boxLe (id := 0) [.int .i64 0, .rs [], .str [], .bool false] rfl (.cons (.refl _) (.cons .nil (.cons (.refl _) (.cons (.refl _) .nil)))) rfl) ?_
              refine retc2 (by first | exact .inr rfl | exact .inl rfl) rfl rfl rfl rfl rfl rfl ?_
              exact ⟨rfl, rfl⟩
            · obtain ⟨TT, hTT⟩ : ∃ TT, s.take ((pt.length : Nat) : Int).toNat = TT := ⟨_, rfl⟩
              by_cases heq : TT = pt
              · have hpr : PrP s ⟨st, out, body, cl⟩ := ⟨hm, s.drop pt.length, by
                  rw [hpt]
                  have hTT2 : s.take pt.length = TT := hTT
                  have := List.take_append_drop pt.length s
                  rw [hTT2, heq] at this
                  exact this.symm⟩
                rw [prs_some hpr, hpt]
                repeat' (first|(first|(refine k_call ?_;refine al_call rfl rfl rfl rfl hDv ?_;rintro _ rfl)|(refine k_call ?_;refine al_call rfl rfl rfl rfl hE2 ?_;rintro _ rfl)|(refine k_call ?_;refine al_call rfl rfl rfl rfl hP1 ?_;rintro _ rfl)|(refine k_bin ?_;first|(refine al_v (ov_cmp_t rfl rfl rfl (by omega)) rfl ?_)|(refine al_v (ov_cmp_f rfl rfl rfl (by omega)) rfl ?_)|(refine al_v (ov_seq_t (m := nm) (n := clN) hcl rfl rfl) rfl ?_)|(refine al_v (ov_sne_f (m := TT) (n := pt) heq rfl rfl) rfl ?_)|(refine al_v (hseq _ _ _ _ _ _ rfl rfl) rfl ?_))|(refine al_v (ov_sliceT (T := l2) rfl rfl rfl (by omega) (by omega) (by omega) hsl4) rfl ?_)|(refine al_v (ov_sliceT (T := body) rfl rfl rfl (by omega) (by omega) (by omega) hbody) rfl ?_)|(refine al_v (ov_slice_hiT (T := TT) rfl rfl (by omega) (by omega) hTT) rfl ?_)|(refine al_v (ov_slice_hiT (T := nm) rfl rfl (by omega) (by omega) hnm) rfl ?_)|(refine al_v (ov_slice_loT (T := vl) rfl rfl (by omega) (by omega) hvl) rfl ?_)|(refine al_wkn (.boxFreeze (ib := 2) (k := 1) (id := 3) rfl rfl rfl rfl (by repeat constructor) rfl rfl) ?_;refine al_v (ov_load_agg (p := .tmp 6) rfl rfl rfl) rfl ?_))|(refine k_al ?_;first|(refine al_v (ov_move rfl) rfl ?_)|(refine k_g ?_;first|(refine al_gy' rfl rfl (by with_reducible rfl) ?_)|(refine al_gnt rfl rfl (by with_reducible rfl) rfl ?_)|(refine al_gnf rfl rfl (by with_reducible rfl) rfl ?_))|(refine al_v (ov_fieldAddr rfl rfl) rfl ?_)|(refine k_load ?_;first|(refine al_v (ov_load rfl rfl) rfl ?_)|(refine al_v (ov_load_agg rfl rfl rfl) rfl ?_))|(refine k_bin ?_;first|(refine al_v (ov_add rfl rfl (by (first|exact w64 (by omega) (by omega)|rfl))) rfl ?_)|(refine al_v (ov_sub rfl rfl (by (first|exact w64 (by omega) (by omega)|rfl))) rfl ?_)|(refine al_v (ov_seq rfl rfl) rfl ?_))|(refine k_pick ?_;first|(refine al_v (ov_pick_t' rfl (by with_reducible rfl) rfl) rfl ?_)|(refine al_v (ov_pick_f' rfl (by with_reducible rfl) rfl) rfl ?_))|(refine al_v (ov_assign rfl) rfl ?_)|(refine k_call ?_;first|(refine al_v (ov_len_str rfl) rfl ?_))|(refine al_v (ov_extract rfl rfl) rfl ?_)|(refine al_nil ?_)|(refine al_alloc rfl rfl rfl (by first|exact ln0|exact ln1|exact ln2|exact ln4) (by repeat constructor) rfl ?_)|(refine al_store rfl rfl rfl rfl rfl (by repeat constructor) (by repeat constructor) ?_)|(refine al_v (ov_build rfl rfl rfl (by repeat constructor)) rfl ?_)|(refine al_buildSlice (by rfl) (by rfl) (by rfl) (by rfl) (by decide) (by decide) (by rfl) (by rfl) (by repeat constructor) (by rfl) (by repeat constructor) (by rfl) (by first|exact ln0|exact ln1|exact ln2|exact ln4) (by repeat constructor) rfl ?_)|(refine al_v (ov_index rfl rfl (by omega) (by omega)) rfl ?_))|(first|(refine thn_n ?_)|(refine k_awp ?_;first|(refine awp_seq (awp_region ?_))|(refine awp_seq ?_)|(refine awp_region ?_)|(refine k_cond ?_;first|(refine awp_cond_t' rfl (by with_reducible rfl) ?_)|(refine awp_cond_f' rfl (by with_reducible rfl) ?_))|(refine awp_block ?_)|(refine awp_ret ?_)|(refine awp_skip ?_)|(refine awp_exit ?_))|(refine thn_ret ?_)|(refine lq_exit ?_)|(refine lq_ret ?_)|(refine thn_exit ?_)|(refine inb_n ?_)|(refine inb_ret ?_)|(refine inb_here ?_)|(refine inb_out rfl ?_)))
                refine retc2 (by first | exact .inr rfl | exact .inl rfl) rfl rfl rfl rfl rfl rfl ?_
                exact ⟨rfl, rfl⟩
              · rw [prs_none fun r h => by
                  have h1 := hguess r h
                  obtain ⟨_, tail, h2⟩ := h
                  rw [← h1, hpt] at h2
                  have hTT2 : s.take pt.length = TT := hTT
                  rw [h2, List.take_left] at hTT2
                  exact heq hTT2.symm]
                repeat' (first|(first|(refine k_call ?_;refine al_call rfl rfl rfl rfl hDv ?_;rintro _ rfl)|(refine k_call ?_;refine al_call rfl rfl rfl rfl hE2 ?_;rintro _ rfl)|(refine k_call ?_;refine al_call rfl rfl rfl rfl hP1 ?_;rintro _ rfl)|(refine k_bin ?_;first|(refine al_v (ov_cmp_t rfl rfl rfl (by omega)) rfl ?_)|(refine al_v (ov_cmp_f rfl rfl rfl (by omega)) rfl ?_)|(refine al_v (ov_seq_t (m := nm) (n := clN) hcl rfl rfl) rfl ?_)|(refine al_v (ov_sne_t (m := TT) (n := pt) heq rfl rfl) rfl ?_)|(refine al_v (hseq _ _ _ _ _ _ rfl rfl) rfl ?_))|(refine al_v (ov_sliceT (T := l2) rfl rfl rfl (by omega) (by omega) (by omega) hsl4) rfl ?_)|(refine al_v (ov_sliceT (T := body) rfl rfl rfl (by omega) (by omega) (by omega) hbody) rfl ?_)|(refine al_v (ov_slice_hiT (T := TT) rfl rfl (by omega) (by omega) hTT) rfl ?_)|(refine al_v (ov_slice_hiT (T := nm) rfl rfl (by omega) (by omega) hnm) rfl ?_)|(refine al_v (ov_slice_loT (T := vl) rfl rfl (by omega) (by omega) hvl) rfl ?_)|(refine al_wkn (.boxFreeze (ib := 2) (k := 1) (id := 3) rfl rfl rfl rfl (by repeat constructor) rfl rfl) ?_;refine al_v (ov_load_agg (p := .tmp 6) rfl rfl rfl) rfl ?_))|(refine k_al ?_;first|(refine al_v (ov_move rfl) rfl ?_)|(refine k_g ?_;first|(refine al_gy' rfl rfl (by with_reducible rfl) ?_)|(refine al_gnt rfl rfl (by with_reducible rfl) rfl ?_)|(refine al_gnf rfl rfl (by with_reducible rfl) rfl ?_))|(refine al_v (ov_fieldAddr rfl rfl) rfl ?_)|(refine k_load ?_;first|(refine al_v (ov_load rfl rfl) rfl ?_)|(refine al_v (ov_load_agg rfl rfl rfl) rfl ?_))|(refine k_bin ?_;first|(refine al_v (ov_add rfl rfl (by (first|exact w64 (by omega) (by omega)|rfl))) rfl ?_)|(refine al_v (ov_sub rfl rfl (by (first|exact w64 (by omega) (by omega)|rfl))) rfl ?_)|(refine al_v (ov_seq rfl rfl) rfl ?_))|(refine k_pick ?_;first|(refine al_v (ov_pick_t' rfl (by with_reducible rfl) rfl) rfl ?_)|(refine al_v (ov_pick_f' rfl (by with_reducible rfl) rfl) rfl ?_))|(refine al_v (ov_assign rfl) rfl ?_)|(refine k_call ?_;first|(refine al_v (ov_len_str rfl) rfl ?_))|(refine al_v (ov_extract rfl rfl) rfl ?_)|(refine al_nil ?_)|(refine al_alloc rfl rfl rfl (by first|exact ln0|exact ln1|exact ln2|exact ln4) (by repeat constructor) rfl ?_)|(refine al_store rfl rfl rfl rfl rfl (by repeat constructor) (by repeat constructor) ?_)|(refine al_v (ov_build rfl rfl rfl (by repeat constructor)) rfl ?_)|(refine al_buildSlice (by rfl) (by rfl) (by rfl) (by rfl) (by decide) (by decide) (by rfl) (by rfl) (by repeat constructor) (by rfl) (by repeat constructor) (by rfl) (by first|exact ln0|exact ln1|exact ln2|exact ln4) (by repeat constructor) rfl ?_)|(refine al_v (ov_index rfl rfl (by omega) (by omega)) rfl ?_))|(first|(refine thn_n ?_)|(refine k_awp ?_;first|(refine awp_seq (awp_region ?_))|(refine awp_seq ?_)|(refine awp_region ?_)|(refine k_cond ?_;first|(refine awp_cond_t' rfl (by with_reducible rfl) ?_)|(refine awp_cond_f' rfl (by with_reducible rfl) ?_))|(refine awp_block ?_)|(refine awp_ret ?_)|(refine awp_skip ?_)|(refine awp_exit ?_))|(refine thn_ret ?_)|(refine lq_exit ?_)|(refine lq_ret ?_)|(refine thn_exit ?_)|(refine inb_n ?_)|(refine inb_ret ?_)|(refine inb_here ?_)|(refine inb_out rfl ?_)))
                refine retq_wkn (.boxLe (id := 0) [.int .i64 0, .rs [], .str [], .bool false] rfl (.cons (.refl _) (.cons .nil (.cons (.refl _) (.cons (.refl _) .nil)))) rfl) ?_
                refine retc2 (by first | exact .inr rfl | exact .inl rfl) rfl rfl rfl rfl rfl rfl ?_
                exact ⟨rfl, rfl⟩
      · repeat' (first|(first|(refine awp_held (id := 26) [(11, [3, 4]), (13, [2])] [⟨0, true, [], bl 14 2044⟩, ⟨1, true, [], bl 14 2045⟩, ⟨2, true, [], bl 14 491⟩, ⟨3, true, [], bl 14 487⟩, ⟨4, true, [], bl 14 495⟩, ⟨5, true, [], bl 14 223⟩, ⟨6, true, [], bl 14 63⟩, ⟨7, true, [], bl 14 127⟩, ⟨8, true, [], bl 14 255⟩, ⟨9, true, [], bl 14 511⟩, ⟨10, false, [], []⟩, ⟨11, false, [], []⟩, ⟨12, true, [], bl 14 4095⟩, ⟨13, false, [], []⟩] (by kernel_rfl) (by kernel_rfl) rfl (by kernel_rfl) ?_)|(refine k_bin ?_;first|(refine al_v (ov_cmp_t rfl rfl rfl (by omega)) rfl ?_)|(refine al_v (ov_cmp_f rfl rfl rfl (by omega)) rfl ?_)|(refine al_v (ov_seq_f (m := nm) (n := clN) hcl rfl rfl) rfl ?_))|(refine al_v (ov_slice_hiT (T := nm) rfl rfl (by omega) (by omega) hnm) rfl ?_)|(refine hw_v (ov_slice_hiT (T := nm) rfl rfl (by omega) (by omega) hnm) rfl ?_)|(refine hw_v (ov_slice_loT (T := vl) rfl rfl (by omega) (by omega) hvl) rfl ?_)|(refine k_call ?_;refine al_append rfl rfl (by repeat constructor) (src_os rfl rfl) rfl (by decide) (by simp only [List.length_cons, List.length_nil];omega) rfl ?_))|(refine k_al ?_;first|(refine al_v (ov_move rfl) rfl ?_)|(refine k_g ?_;first|(refine al_gy' rfl rfl (by with_reducible rfl) ?_)|(refine al_gnt rfl rfl (by with_reducible rfl) rfl ?_)|(refine al_gnf rfl rfl (by with_reducible rfl) rfl ?_))|(refine al_v (ov_fieldAddr rfl rfl) rfl ?_)|(refine k_load ?_;first|(refine al_v (ov_load rfl rfl) rfl ?_)|(refine al_v (ov_load_agg rfl rfl rfl) rfl ?_))|(refine k_bin ?_;first|(refine al_v (ov_add rfl rfl (by (first|exact w64 (by omega) (by omega)|rfl))) rfl ?_)|(refine al_v (ov_sub rfl rfl (by (first|exact w64 (by omega) (by omega)|rfl))) rfl ?_)|(refine al_v (ov_seq rfl rfl) rfl ?_))|(refine k_pick ?_;first|(refine al_v (ov_pick_t' rfl (by with_reducible rfl) rfl) rfl ?_)|(refine al_v (ov_pick_f' rfl (by with_reducible rfl) rfl) rfl ?_))|(refine al_v (ov_assign rfl) rfl ?_)|(refine k_call ?_;first|(refine al_v (ov_len_str rfl) rfl ?_))|(refine al_v (ov_extract rfl rfl) rfl ?_)|(refine al_nil ?_)|(refine al_alloc rfl rfl rfl (by first|exact ln0|exact ln1|exact ln2|exact ln4) (by repeat constructor) rfl ?_)|(refine al_store rfl rfl rfl rfl rfl (by repeat constructor) (by repeat constructor) ?_)|(refine al_v (ov_build rfl rfl rfl (by repeat constructor)) rfl ?_)|(refine al_buildSlice (by rfl) (by rfl) (by rfl) (by rfl) (by decide) (by decide) (by rfl) (by rfl) (by repeat constructor) (by rfl) (by repeat constructor) (by rfl) (by first|exact ln0|exact ln1|exact ln2|exact ln4) (by repeat constructor) rfl ?_)|(refine al_v (ov_index rfl rfl (by omega) (by omega)) rfl ?_))|(first|(refine thn_n ?_)|(refine k_awp ?_;first|(refine awp_seq (awp_region ?_))|(refine awp_seq ?_)|(refine awp_region ?_)|(refine k_cond ?_;first|(refine awp_cond_t' rfl (by with_reducible rfl) ?_)|(refine awp_cond_f' rfl (by with_reducible rfl) ?_))|(refine awp_block ?_)|(refine awp_ret ?_)|(refine awp_skip ?_)|(refine awp_exit ?_))|(refine thn_ret ?_)|(refine lq_exit ?_)|(refine lq_ret ?_)|(refine thn_exit ?_)|(refine inb_n ?_)|(refine inb_ret ?_)|(refine inb_here ?_)|(refine inb_out rfl ?_))|(first|(refine k_hw ?_;first|(refine hw_s rfl ?_)|(refine hw_v (ov_move rfl) rfl ?_)|(refine hw_v (ov_assign rfl) rfl ?_)|(refine hw_v (ov_fieldAddr rfl rfl) rfl ?_)|(refine hw_v (ov_load rfl rfl) rfl ?_)|(refine hw_v (ov_load_agg rfl rfl rfl) rfl ?_)|(refine hw_v (ov_pick_t' rfl (by with_reducible rfl) rfl) rfl ?_)|(refine hw_v (ov_pick_f' rfl (by with_reducible rfl) rfl) rfl ?_)|(refine hw_v (ov_len_str rfl) rfl ?_)|(refine hw_v (ov_seq rfl rfl) rfl ?_)|(refine hw_v (ov_extract rfl rfl) rfl ?_)|(refine hw_v (ov_index rfl rfl (by omega) (by omega)) rfl ?_)|(refine hw_v (ov_add rfl rfl (by (first|exact w64 (by omega) (by omega)|rfl))) rfl ?_)|(refine hw_v (ov_sub rfl rfl (by (first|exact w64 (by omega) (by omega)|rfl))) rfl ?_)|(refine hw_v (ov_build rfl rfl rfl (by repeat constructor)) rfl ?_))|(refine hl_op rfl ?_)|(refine k_ho ?_;first|(refine ho_n ?_))|(refine hl_nil ?_)|(refine hq_back ?_)))
        refine lq_back (at' + line.length + 2, out ++ [(nm, vl)], ver + 1, _) ((Wkn.spell 7 (.int .i64 ((at' + line.length + 2 : Nat) : Int)) rfl (congrArg (AV.int .i64) (by omega))).trans (.of (wk_drop [_] rfl (by repeat constructor) rfl (by repeat constructor) rfl))) ?_ ?_
        · refine ⟨by rw [List.map_append]; rfl, hroom, by simp only [List.length_append, List.length_cons, List.length_nil]; omega, ?_, ?_⟩
          · intro p hp
            rcases List.mem_append.1 hp with hp | hp
            · exact hI.each p hp
            · rw [List.mem_singleton.1 hp]
              exact ⟨by dsimp only; omega, by dsimp only; omega⟩
          · intro r h
            obtain ⟨h1, h2, _⟩ := hI.eq r h
            obtain ⟨rf, tail, h3, h4, h5⟩ := (hQ r h).2.2 hcl
            exact ⟨h1, h2, rf, tail, h3, h4, h5⟩
        · dsimp only; omega
end
end Go.Proofs.YtnjolbnbpfjdiaaDoor.L

namespace Go.Proofs.YtnjolbnbpfjdiaaDoor.L
open Go Go.RowKit Go.Proofs
set_option linter.unusedVariables false
set_option maxRecDepth 100000
attribute [local irreducible] AL QL AWp Thn InB RetQ ACalls LoopQ HL HO HW HQ NoG JmpQ MidQ HF

def mayB (u : List (List AV)) (asks fuel : Int) : Bool := decide (1 ≤ u.length ∧ u.length ≤ 16 ∧ 1 ≤ fuel ∧ fuel ≤ 1048576 ∧ 1 ≤ asks ∧ asks ≤ 64)
abbrev cfgAV (u dr co : List (List AV)) (im : List UInt8) (ro : List (List AV)) (conns asks quota fuel : Int) : AV :=
  .agg [.rs u, .rs dr, .rs co, .str im, .rs ro, .int .i64 conns, .int .i64 asks, .int .i64 quota, .int .i64 fuel]

section
variable {w0 : World} {base : Nat} {u dr co : List (List AV)} {im : List UInt8} {ro : List (List AV)} {conns asks quota fuel : Int}
theorem s_may21 : PCalls (EE w0 base) 65 [cfgAV u dr co im ro conns asks quota fuel] fun rv => rv = .bool (mayB u asks fuel) := by
  refine acalls_of Tryd.func65 rfl rfl rfl (.cons .nil) ?_
  repeat' (first|(refine k_al ?_;first|(refine al_v (ov_move rfl) rfl ?_)|(refine k_g ?_;first|(refine al_gy' rfl rfl (by with_reducible rfl) ?_)|(refine al_gnt rfl rfl (by with_reducible rfl) rfl ?_)|(refine al_gsp rfl rfl (fun hc => ?_) (fun hc => ?_) <;> (try (exfalso;omega))))|(refine al_v (ov_fieldAddr rfl rfl) rfl ?_)|(refine k_load ?_;first|(refine al_v (ov_load rfl rfl) rfl ?_))|(refine k_bin ?_;first|(refine al_v (ov_cmp rfl rfl rfl) rfl ?_))|(refine k_pick ?_;first|(refine al_v (ov_pick_t' rfl (by with_reducible rfl) rfl) rfl ?_)|(refine al_v (ov_pick_f' rfl (by with_reducible rfl) rfl) rfl ?_))|(refine al_v (ov_assign rfl) rfl ?_)|(refine k_call ?_;first|(refine al_v (ov_len_rs rfl) rfl ?_))|(refine al_nil ?_)|(refine al_box rfl rfl rfl (by first|exact ln0) (by repeat constructor) rfl ?_))|(first|(refine thn_n ?_)|(refine k_awp ?_;first|(refine awp_seq (awp_region ?_))|(refine awp_seq ?_)|(refine awp_region ?_)|(refine awp_ret ?_)))|fail)
  all_goals
    refine ret1 (by first | exact .inr rfl | exact .inl rfl) rfl rfl ?_
    refine ⟨?_, rfl⟩
    unfold mayB
    congr 1
    rw [Bool.eq_iff_iff]
    simp
    omega
theorem may_facts21 (h : mayB u asks fuel = true) : 1 ≤ (u.length : Int) ∧ (u.length : Int) ≤ 16 ∧ 1 ≤ fuel ∧ fuel ≤ 1048576 ∧ 1 ≤ asks ∧ asks ≤ 64 := by
  unfold mayB at h
  simp at h
  omega
def boundR (u : List (List AV)) (asks fuel a b : Int) : List AV :=
  if mayB u asks fuel = true then (if a < 0 ∨ 65536 < a ∨ b < 0 ∨ 65536 < b then [.int .i64 0, .int .i64 1] else [.int .i64 (IntKind.i64.wrap (IntKind.i64.wrap ((b + 1) * a) * (IntKind.i64.wrap (IntKind.i64.wrap (asks * (2 * fuel + 2)) + 3)))), .int .i64 0]) else [.int .i64 0, .int .i64 190]
theorem s_bound21 {a b : Int} : PCalls (EE w0 base) 38 [cfgAV u dr co im ro conns asks quota fuel, .int .i64 a, .int .i64 b] fun rv => rv = .tup (boundR u asks fuel a b) := by
  unfold boundR
  by_cases h : mayB u asks fuel = true
  · obtain ⟨f1, f2, f3, f4, f5, f6⟩ := may_facts21 h
    refine acalls_of Tryd.func38 rfl rfl rfl (.cons (.cons (.cons .nil))) ?_
    repeat' (first|(refine k_call ?_;refine al_call rfl rfl rfl rfl s_may21 ?_;rintro _ rfl;rw [h])|(refine k_al ?_;first|(refine al_v (ov_move rfl) rfl ?_)|(refine k_g ?_;first|(refine al_gy' rfl rfl (by with_reducible rfl) ?_)|(refine al_gnf rfl rfl (by with_reducible rfl) rfl ?_)|(refine al_gsp rfl rfl (fun hc => ?_) (fun hc => ?_) <;> (try (exfalso;omega))))|(refine al_v (ov_fieldAddr rfl rfl) rfl ?_)|(refine k_load ?_;first|(refine al_v (ov_load rfl rfl) rfl ?_)|(refine al_v (ov_load_agg rfl rfl rfl) rfl ?_))|(refine k_bin ?_;first|(refine al_v (ov_cmp rfl rfl rfl) rfl ?_)|(refine al_v (ov_add rfl rfl (by (first|exact w64 (by omega) (by omega)|rfl))) rfl ?_)|(refine al_v (ov_mul rfl rfl (by (first|exact w64 (by omega) (by omega)|rfl))) rfl ?_))|(refine k_pick ?_;first|(refine al_v (ov_pick_t' rfl (by with_reducible rfl) rfl) rfl ?_)|(refine al_v (ov_pick_f' rfl (by with_reducible rfl) rfl) rfl ?_))|(refine al_v (ov_assign rfl) rfl ?_)|(refine al_nil ?_)|(refine al_box rfl rfl rfl (by first|exact ln0) (by repeat constructor) rfl ?_)|(refine al_v (ov_not_t rfl (by with_reducible rfl)) rfl ?_)|(refine al_v (ov_not_f rfl (by with_reducible rfl)) rfl ?_))|(first|(refine thn_n ?_)|(refine k_awp ?_;first|(refine awp_seq (awp_region ?_))|(refine awp_seq ?_)|(refine awp_region ?_)|(refine k_cond ?_;first|(refine awp_cond_t' rfl (by with_reducible rfl) ?_)|(refine awp_cond_f' rfl (by with_reducible rfl) ?_)|(refine awp_cond_p rfl (fun hc => ?_) (fun hc => ?_) <;> (try (exfalso;omega))))|(refine awp_ret ?_)|(refine awp_skip ?_))|(refine thn_ret ?_)))
    all_goals
      refine ret2 (by first | exact .inr rfl | exact .inl rfl) rfl rfl rfl ?_
      refine ⟨?_, rfl⟩
      dsimp only
      rw [if_pos rfl]
      first | rw [if_pos (by omega)] | rw [if_neg (by omega)]
  · rw [if_neg h]
    have h' : mayB u asks fuel = false := by simpa using h
    refine acalls_of Tryd.func38 rfl rfl rfl (.cons (.cons (.cons .nil))) ?_
    repeat' (first|(refine k_call ?_;refine al_call rfl rfl rfl rfl s_may21 ?_;rintro _ rfl;rw [h'])|(refine k_al ?_;first|(refine al_v (ov_move rfl) rfl ?_)|(refine k_g ?_;first|(refine al_gy' rfl rfl (by with_reducible rfl) ?_)|(refine al_gnf rfl rfl (by with_reducible rfl) rfl ?_)|(refine al_gsp rfl rfl (fun hc => ?_) (fun hc => ?_) <;> (try (exfalso;omega))))|(refine al_v (ov_fieldAddr rfl rfl) rfl ?_)|(refine k_load ?_;first|(refine al_v (ov_load rfl rfl) rfl ?_)|(refine al_v (ov_load_agg rfl rfl rfl) rfl ?_))|(refine k_bin ?_;first|(refine al_v (ov_cmp rfl rfl rfl) rfl ?_)|(refine al_v (ov_add rfl rfl (by (first|exact w64 (by omega) (by omega)|rfl))) rfl ?_)|(refine al_v (ov_mul rfl rfl (by (first|exact w64 (by omega) (by omega)|rfl))) rfl ?_))|(refine k_pick ?_;first|(refine al_v (ov_pick_t' rfl (by with_reducible rfl) rfl) rfl ?_)|(refine al_v (ov_pick_f' rfl (by with_reducible rfl) rfl) rfl ?_))|(refine al_v (ov_assign rfl) rfl ?_)|(refine al_nil ?_)|(refine al_box rfl rfl rfl (by first|exact ln0) (by repeat constructor) rfl ?_)|(refine al_v (ov_not_t rfl (by with_reducible rfl)) rfl ?_)|(refine al_v (ov_not_f rfl (by with_reducible rfl)) rfl ?_))|(first|(refine thn_n ?_)|(refine k_awp ?_;first|(refine awp_seq (awp_region ?_))|(refine awp_seq ?_)|(refine awp_region ?_)|(refine k_cond ?_;first|(refine awp_cond_t' rfl (by with_reducible rfl) ?_)|(refine awp_cond_f' rfl (by with_reducible rfl) ?_)|(refine awp_cond_p rfl (fun hc => ?_) (fun hc => ?_) <;> (try (exfalso;omega))))|(refine awp_ret ?_)|(refine awp_skip ?_))|(refine thn_ret ?_)))
    refine ret2 (by first | exact .inr rfl | exact .inl rfl) rfl rfl rfl ?_
    exact ⟨rfl, rfl⟩
def stepRow (k i t : Int) : List AV := [.int .i64 k, .int .i64 i, .str [], .int .i64 t]
def firstRows (n : Nat) : List (List AV) := (List.range n).flatMap fun (i : Nat) => [stepRow 3 i 0, stepRow 4 i 0]
def lastRows (ticks : Int) (n : Nat) : List (List AV) := (List.range n).flatMap fun (i : Nat) => [stepRow 5 i ticks, stepRow 6 i 0]
theorem firstRows_succ (n : Nat) : firstRows (n + 1) = firstRows n ++ [stepRow 3 n 0, stepRow 4 n 0] := by simp [firstRows, List.range_succ, List.flatMap_append]
theorem lastRows_succ (ticks : Int) (n : Nat) : lastRows ticks (n + 1) = lastRows ticks n ++ [stepRow 5 n ticks, stepRow 6 n 0] := by simp [lastRows, List.range_succ, List.flatMap_append]
theorem firstRows_len (n : Nat) : (firstRows n).length = 2 * n := by
  induction n with
  | zero => rfl
  | succ n ih => rw [firstRows_succ]; simp [ih]; omega
theorem lastRows_len (ticks : Int) (n : Nat) : (lastRows ticks n).length = 2 * n := by
  induction n with
  | zero => rfl
  | succ n ih => rw [lastRows_succ]; simp [ih]; omega
def unitsR (u : List (List AV)) (asks fuel n ticks : Int) : List (List AV) × Int :=
  if mayB u asks fuel = true then (if n < 0 ∨ 64 < n ∨ ticks < 1 ∨ 1048576 < ticks then ([], 1) else (firstRows n.toNat ++ lastRows ticks u.length, 0)) else ([], 190)

theorem s_units21 {n ticks : Int} : PCalls (EE w0 base) 39 [cfgAV u dr co im ro conns asks quota fuel, .int .i64 n, .int .i64 ticks] fun rv => rv = .tup [.rs (unitsR u asks fuel n ticks).1, .int .i64 (unitsR u asks fuel n ticks).2] := by
  unfold unitsR
  by_cases h : mayB u asks fuel = true
  · obtain ⟨f1, f2, f3, f4, f5, f6⟩ := may_facts21 h
    rw [if_pos h]
    refine acalls_of Tryd.func39 rfl rfl rfl (.cons (.cons (.cons .nil))) ?_
    repeat' (first|(refine k_call ?_;refine al_call rfl rfl rfl rfl s_may21 ?_;rintro _ rfl;rw [h])|(refine k_al ?_;first|(refine al_v (ov_move rfl) rfl ?_)|(refine k_g ?_;first|(refine al_gy' rfl rfl (by with_reducible rfl) ?_)|(refine al_gnf rfl rfl (by with_reducible rfl) rfl ?_)|(refine al_gsp rfl rfl (fun hc => ?_) (fun hc => ?_) <;> (try (exfalso;omega))))|(refine al_v (ov_fieldAddr rfl rfl) rfl ?_)|(refine k_load ?_;first|(refine al_v (ov_load rfl rfl) rfl ?_)|(refine al_v (ov_load_agg rfl rfl rfl) rfl ?_))|(refine k_bin ?_;first|(refine al_v (ov_cmp rfl rfl rfl) rfl ?_)|(refine al_v (ov_add rfl rfl (by (first|exact w64 (by omega) (by omega)|rfl))) rfl ?_))|(refine k_pick ?_;first|(refine al_v (ov_pick_t' rfl (by with_reducible rfl) rfl) rfl ?_)|(refine al_v (ov_pick_f' rfl (by with_reducible rfl) rfl) rfl ?_))|(refine al_v (ov_assign rfl) rfl ?_)|(refine k_call ?_;first|(refine al_v (ov_len_rs rfl) rfl ?_))|(refine al_nil ?_)|(refine al_box rfl rfl rfl (by first|exact ln0|exact ln2) (by repeat constructor) rfl ?_)|(refine al_v (ov_build rfl rfl rfl (by repeat constructor)) rfl ?_)|(refine al_buildSlice (by rfl) (by rfl) (by rfl) (by rfl) (by decide) (by decide) (by rfl) (by rfl) (by repeat constructor) (by rfl) (by repeat constructor) (by rfl) (by first|exact ln0|exact ln2) (by repeat constructor) rfl ?_)|(refine al_v (ov_not_t rfl (by with_reducible rfl)) rfl ?_)|(refine al_v (ov_not_f rfl (by with_reducible rfl)) rfl ?_))|(first|(refine thn_n ?_)|(refine k_awp ?_;first|(refine awp_seq (awp_region ?_))|(refine awp_seq ?_)|(refine awp_region ?_)|(refine k_cond ?_;first|(refine awp_cond_t' rfl (by with_reducible rfl) ?_)|(refine awp_cond_f' rfl (by with_reducible rfl) ?_)|(refine awp_cond_p rfl (fun hc => ?_) (fun hc => ?_) <;> (try (exfalso;omega))))|(refine awp_block ?_)|(refine awp_ret ?_)|(refine awp_skip ?_)|(refine awp_exit ?_))|(refine thn_ret ?_)|(refine lq_exit ?_)|(refine thn_exit ?_)|(refine inb_n ?_)|(refine inb_here ?_)))
    iterate 4
      · refine retq_wkn (.nil 6 rfl) ?_
        refine ret2 (by first | exact .inr rfl | exact .inl rfl) rfl rfl rfl ?_
        refine ⟨?_, rfl⟩
        dsimp only
        rw [if_pos (by omega)]
    rw [if_neg (by omega)]
    refine awp_adopt 8 82 4 rfl (by decide) rfl (by repeat constructor) ?_
    refine awp_loopq (fun p : Int × List (List AV) × Nat => ⟨[(2, .int .i64 ticks), (3, .op 0 0), (8, .os 1 p.2.2), (28, .int .i64 n), (29, .int .i64 p.1)], [.box (cfgAV u dr co im ro conns asks quota fuel).cells, .row 82 4 p.2.2 0 p.2.1]⟩)
      (fun p => ∃ k : Nat, p.1 = k ∧ k ≤ n.toNat ∧ p.2.1 = firstRows k) (fun p => (n - p.1).toNat) (0, [], 0) (.of (.same (by repeat constructor))) ⟨0, rfl, Nat.zero_le _, rfl⟩ ?_
    rintro ⟨i, xs, v⟩ ⟨k, h1, h2, h3⟩
    dsimp only at h1 h2 h3 ⊢
    subst h1
    repeat' (first|(refine k_al ?_;first|(refine al_v (ov_move rfl) rfl ?_)|(refine k_g ?_;first|(refine al_gy' rfl rfl (by with_reducible rfl) ?_)|(refine al_gnf rfl rfl (by with_reducible rfl) rfl ?_)|(refine al_gsp rfl rfl (fun hc => ?_) (fun hc => ?_) <;> (try (exfalso;omega))))|(refine al_v (ov_fieldAddr rfl rfl) rfl ?_)|(refine k_load ?_;first|(refine al_v (ov_load rfl rfl) rfl ?_)|(refine al_v (ov_load_agg rfl rfl rfl) rfl ?_))|(refine k_bin ?_;first|(refine al_v (ov_cmp rfl rfl rfl) rfl ?_)|(refine al_v (ov_add rfl rfl (by (first|exact w64 (by omega) (by omega)|rfl))) rfl ?_))|(refine k_pick ?_;first|(refine al_v (ov_pick_t' rfl (by with_reducible rfl) rfl) rfl ?_)|(refine al_v (ov_pick_f' rfl (by with_reducible rfl) rfl) rfl ?_))|(refine al_v (ov_assign rfl) rfl ?_)|(refine k_call ?_;first|(refine al_v (ov_len_rs rfl) rfl ?_))|(refine al_nil ?_)|(refine al_box rfl rfl rfl (by first|exact ln0|exact ln2) (by repeat constructor) rfl ?_)|(refine al_v (ov_build rfl rfl rfl (by repeat constructor)) rfl ?_)|(refine al_buildSlice (by rfl) (by rfl) (by rfl) (by rfl) (by decide) (by decide) (by rfl) (by rfl) (by repeat constructor) (by rfl) (by repeat constructor) (by rfl) (by first|exact ln0|exact ln2) (by repeat constructor) rfl ?_)|(refine al_v (ov_not_t rfl (by with_reducible rfl)) rfl ?_)|(refine al_v (ov_not_f rfl (by with_reducible rfl)) rfl ?_))|(first|(refine thn_n ?_)|(refine k_awp ?_;first|(refine awp_seq (awp_region ?_))|(refine awp_seq ?_)|(refine awp_region ?_)|(refine k_cond ?_;first|(refine awp_cond_t' rfl (by with_reducible rfl) ?_)|(refine awp_cond_f' rfl (by with_reducible rfl) ?_)|(refine awp_cond_p rfl (fun hc => ?_) (fun hc => ?_) <;> (try (exfalso;omega))))|(refine awp_block ?_)|(refine awp_ret ?_)|(refine awp_skip ?_)|(refine awp_exit ?_))|(refine thn_ret ?_)|(refine lq_exit ?_)|(refine thn_exit ?_)|(refine inb_n ?_)|(refine inb_here ?_))|fail)
    · have hl : xs.length = 2 * k := by rw [h3]; exact firstRows_len k
      refine al_append rfl rfl (by repeat constructor) (src_os rfl rfl) rfl (by decide) ?_ rfl ?_
      · simp [hl]; omega
      repeat' (first|(refine k_al ?_;first|(refine al_v (ov_move rfl) rfl ?_)|(refine k_g ?_;first|(refine al_gy' rfl rfl (by with_reducible rfl) ?_)|(refine al_gnf rfl rfl (by with_reducible rfl) rfl ?_)|(refine al_gsp rfl rfl (fun hc => ?_) (fun hc => ?_) <;> (try (exfalso;omega))))|(refine al_v (ov_fieldAddr rfl rfl) rfl ?_)|(refine k_load ?_;first|(refine al_v (ov_load rfl rfl) rfl ?_)|(refine al_v (ov_load_agg rfl rfl rfl) rfl ?_))|(refine k_bin ?_;first|(refine al_v (ov_cmp rfl rfl rfl) rfl ?_)|(refine al_v (ov_add rfl rfl (by (first|exact w64 (by omega) (by omega)|rfl))) rfl ?_))|(refine k_pick ?_;first|(refine al_v (ov_pick_t' rfl (by with_reducible rfl) rfl) rfl ?_)|(refine al_v (ov_pick_f' rfl (by with_reducible rfl) rfl) rfl ?_))|(refine al_v (ov_assign rfl) rfl ?_)|(refine k_call ?_;first|(refine al_v (ov_len_rs rfl) rfl ?_))|(refine al_nil ?_)|(refine al_box rfl rfl rfl (by first|exact ln0|exact ln2) (by repeat constructor) rfl ?_)|(refine al_v (ov_build rfl rfl rfl (by repeat constructor)) rfl ?_)|(refine al_buildSlice (by rfl) (by rfl) (by rfl) (by rfl) (by decide) (by decide) (by rfl) (by rfl) (by repeat constructor) (by rfl) (by repeat constructor) (by rfl) (by first|exact ln0|exact ln2) (by repeat constructor) rfl ?_)|(refine al_v (ov_not_t rfl (by with_reducible rfl)) rfl ?_)|(refine al_v (ov_not_f rfl (by with_reducible rfl)) rfl ?_))|(first|(refine thn_n ?_)|(refine k_awp ?_;first|(refine awp_seq (awp_region ?_))|(refine awp_seq ?_)|(refine awp_region ?_)|(refine k_cond ?_;first|(refine awp_cond_t' rfl (by with_reducible rfl) ?_)|(refine awp_cond_f' rfl (by with_reducible rfl) ?_)|(refine awp_cond_p rfl (fun hc => ?_) (fun hc => ?_) <;> (try (exfalso;omega))))|(refine awp_block ?_)|(refine awp_ret ?_)|(refine awp_skip ?_)|(refine awp_exit ?_))|(refine thn_ret ?_)|(refine lq_exit ?_)|(refine thn_exit ?_)|(refine inb_n ?_)|(refine inb_here ?_))|fail)
      first|refine lq_back (_, _, _) (.of (.same (by repeat constructor))) ?_ ?_|refine lq_back (_, _, _) (.of (wk_drop [_] rfl (by repeat constructor) rfl (by repeat constructor) rfl)) ?_ ?_|refine lq_back (_, _, _) (.of (wk_drop [_, _] rfl (by repeat constructor) rfl (by repeat constructor) rfl)) ?_ ?_|refine lq_back (_, _, _) (.of (wk_drop [_, _, _] rfl (by repeat constructor) rfl (by repeat constructor) rfl)) ?_ ?_
      · exact ⟨k + 1, by simp, by omega, by rw [firstRows_succ, h3]; rfl⟩
      · simp; omega
    obtain rfl : k = n.toNat := by omega
    subst h3
    refine awp_loopq (fun p : Int × List (List AV) × Nat => ⟨[(2, .int .i64 ticks), (8, .os 1 p.2.2), (42, .int .i64 u.length), (43, .int .i64 p.1)], [.box (cfgAV u dr co im ro conns asks quota fuel).cells, .row 82 4 p.2.2 0 p.2.1]⟩)
      (fun p => ∃ k : Nat, p.1 = k ∧ k ≤ u.length ∧ p.2.1 = firstRows n.toNat ++ lastRows ticks k) (fun p => (u.length - p.1).toNat) (0, firstRows n.toNat, v) (.of (.same (by repeat constructor))) ⟨0, rfl, Nat.zero_le _, by simp [lastRows]⟩ ?_
    rintro ⟨i, xs, v⟩ ⟨k, h1, h2, h3⟩
    dsimp only at h1 h2 h3 ⊢
    subst h1
    repeat' (first|(refine k_al ?_;first|(refine al_v (ov_move rfl) rfl ?_)|(refine k_g ?_;first|(refine al_gy' rfl rfl (by with_reducible rfl) ?_)|(refine al_gnf rfl rfl (by with_reducible rfl) rfl ?_)|(refine al_gsp rfl rfl (fun hc => ?_) (fun hc => ?_) <;> (try (exfalso;omega))))|(refine al_v (ov_fieldAddr rfl rfl) rfl ?_)|(refine k_load ?_;first|(refine al_v (ov_load rfl rfl) rfl ?_)|(refine al_v (ov_load_agg rfl rfl rfl) rfl ?_))|(refine k_bin ?_;first|(refine al_v (ov_cmp rfl rfl rfl) rfl ?_)|(refine al_v (ov_add rfl rfl (by (first|exact w64 (by omega) (by omega)|rfl))) rfl ?_))|(refine k_pick ?_;first|(refine al_v (ov_pick_t' rfl (by with_reducible rfl) rfl) rfl ?_)|(refine al_v (ov_pick_f' rfl (by with_reducible rfl) rfl) rfl ?_))|(refine al_v (ov_assign rfl) rfl ?_)|(refine k_call ?_;first|(refine al_v (ov_len_rs rfl) rfl ?_))|(refine al_nil ?_)|(refine al_box rfl rfl rfl (by first|exact ln0|exact ln2) (by repeat constructor) rfl ?_)|(refine al_v (ov_build rfl rfl rfl (by repeat constructor)) rfl ?_)|(refine al_buildSlice (by rfl) (by rfl) (by rfl) (by rfl) (by decide) (by decide) (by rfl) (by rfl) (by repeat constructor) (by rfl) (by repeat constructor) (by rfl) (by first|exact ln0|exact ln2) (by repeat constructor) rfl ?_)|(refine al_v (ov_not_t rfl (by with_reducible rfl)) rfl ?_)|(refine al_v (ov_not_f rfl (by with_reducible rfl)) rfl ?_))|(first|(refine thn_n ?_)|(refine k_awp ?_;first|(refine awp_seq (awp_region ?_))|(refine awp_seq ?_)|(refine awp_region ?_)|(refine k_cond ?_;first|(refine awp_cond_t' rfl (by with_reducible rfl) ?_)|(refine awp_cond_f' rfl (by with_reducible rfl) ?_)|(refine awp_cond_p rfl (fun hc => ?_) (fun hc => ?_) <;> (try (exfalso;omega))))|(refine awp_block ?_)|(refine awp_ret ?_)|(refine awp_skip ?_)|(refine awp_exit ?_))|(refine thn_ret ?_)|(refine lq_exit ?_)|(refine thn_exit ?_)|(refine inb_n ?_)|(refine inb_here ?_))|fail)
    · have hl : xs.length = 2 * n.toNat + 2 * k := by rw [h3, List.length_append, firstRows_len, lastRows_len]
      refine al_append rfl rfl (by repeat constructor) (src_os rfl rfl) rfl (by decide) ?_ rfl ?_
      · simp [hl]; omega
      repeat' (first|(refine k_al ?_;first|(refine al_v (ov_move rfl) rfl ?_)|(refine k_g ?_;first|(refine al_gy' rfl rfl (by with_reducible rfl) ?_)|(refine al_gnf rfl rfl (by with_reducible rfl) rfl ?_)|(refine al_gsp rfl rfl (fun hc => ?_) (fun hc => ?_) <;> (try (exfalso;omega))))|(refine al_v (ov_fieldAddr rfl rfl) rfl ?_)|(refine k_load ?_;first|(refine al_v (ov_load rfl rfl) rfl ?_)|(refine al_v (ov_load_agg rfl rfl rfl) rfl ?_))|(refine k_bin ?_;first|(refine al_v (ov_cmp rfl rfl rfl) rfl ?_)|(refine al_v (ov_add rfl rfl (by (first|exact w64 (by omega) (by omega)|rfl))) rfl ?_))|(refine k_pick ?_;first|(refine al_v (ov_pick_t' rfl (by with_reducible rfl) rfl) rfl ?_)|(refine al_v (ov_pick_f' rfl (by with_reducible rfl) rfl) rfl ?_))|(refine al_v (ov_assign rfl) rfl ?_)|(refine k_call ?_;first|(refine al_v (ov_len_rs rfl) rfl ?_))|(refine al_nil ?_)|(refine al_box rfl rfl rfl (by first|exact ln0|exact ln2) (by repeat constructor) rfl ?_)|(refine al_v (ov_build rfl rfl rfl (by repeat constructor)) rfl ?_)|(refine al_buildSlice (by rfl) (by rfl) (by rfl) (by rfl) (by decide) (by decide) (by rfl) (by rfl) (by repeat constructor) (by rfl) (by repeat constructor) (by rfl) (by first|exact ln0|exact ln2) (by repeat constructor) rfl ?_)|(refine al_v (ov_not_t rfl (by with_reducible rfl)) rfl ?_)|(refine al_v (ov_not_f rfl (by with_reducible rfl)) rfl ?_))|(first|(refine thn_n ?_)|(refine k_awp ?_;first|(refine awp_seq (awp_region ?_))|(refine awp_seq ?_)|(refine awp_region ?_)|(refine k_cond ?_;first|(refine awp_cond_t' rfl (by with_reducible rfl) ?_)|(refine awp_cond_f' rfl (by with_reducible rfl) ?_)|(refine awp_cond_p rfl (fun hc => ?_) (fun hc => ?_) <;> (try (exfalso;omega))))|(refine awp_block ?_)|(refine awp_ret ?_)|(refine awp_skip ?_)|(refine awp_exit ?_))|(refine thn_ret ?_)|(refine lq_exit ?_)|(refine thn_exit ?_)|(refine inb_n ?_)|(refine inb_here ?_))|fail)
      first|refine lq_back (_, _, _) (.of (.same (by repeat constructor))) ?_ ?_|refine lq_back (_, _, _) (.of (wk_drop [_] rfl (by repeat constructor) rfl (by repeat constructor) rfl)) ?_ ?_|refine lq_back (_, _, _) (.of (wk_drop [_, _] rfl (by repeat constructor) rfl (by repeat constructor) rfl)) ?_ ?_|refine lq_back (_, _, _) (.of (wk_drop [_, _, _] rfl (by repeat constructor) rfl (by repeat constructor) rfl)) ?_ ?_
      · exact ⟨k + 1, by simp, by omega, by rw [lastRows_succ, h3, List.append_assoc]; rfl⟩
      · simp; omega
    obtain rfl : k = u.length := by omega
    subst h3
    refine retq_wkn (.freeze 6 rfl (by repeat constructor)) ?_
    refine ret2 (by first | exact .inr rfl | exact .inl rfl) rfl rfl rfl ?_
    exact ⟨rfl, rfl⟩
  · rw [if_neg h]
    have h' : mayB u asks fuel = false := by simpa using h
    refine acalls_of Tryd.func39 rfl rfl rfl (.cons (.cons (.cons .nil))) ?_
    repeat' (first|(refine k_call ?_;refine al_call rfl rfl rfl rfl s_may21 ?_;rintro _ rfl;rw [h'])|(refine k_al ?_;first|(refine al_v (ov_move rfl) rfl ?_)|(refine k_g ?_;first|(refine al_gy' rfl rfl (by with_reducible rfl) ?_)|(refine al_gnf rfl rfl (by with_reducible rfl) rfl ?_)|(refine al_gsp rfl rfl (fun hc => ?_) (fun hc => ?_) <;> (try (exfalso;omega))))|(refine al_v (ov_fieldAddr rfl rfl) rfl ?_)|(refine k_load ?_;first|(refine al_v (ov_load rfl rfl) rfl ?_)|(refine al_v (ov_load_agg rfl rfl rfl) rfl ?_))|(refine k_bin ?_;first|(refine al_v (ov_cmp rfl rfl rfl) rfl ?_)|(refine al_v (ov_add rfl rfl (by (first|exact w64 (by omega) (by omega)|rfl))) rfl ?_))|(refine k_pick ?_;first|(refine al_v (ov_pick_t' rfl (by with_reducible rfl) rfl) rfl ?_)|(refine al_v (ov_pick_f' rfl (by with_reducible rfl) rfl) rfl ?_))|(refine al_v (ov_assign rfl) rfl ?_)|(refine k_call ?_;first|(refine al_v (ov_len_rs rfl) rfl ?_))|(refine al_nil ?_)|(refine al_box rfl rfl rfl (by first|exact ln0|exact ln2) (by repeat constructor) rfl ?_)|(refine al_v (ov_build rfl rfl rfl (by repeat constructor)) rfl ?_)|(refine al_buildSlice (by rfl) (by rfl) (by rfl) (by rfl) (by decide) (by decide) (by rfl) (by rfl) (by repeat constructor) (by rfl) (by repeat constructor) (by rfl) (by first|exact ln0|exact ln2) (by repeat constructor) rfl ?_)|(refine al_v (ov_not_t rfl (by with_reducible rfl)) rfl ?_)|(refine al_v (ov_not_f rfl (by with_reducible rfl)) rfl ?_))|(first|(refine thn_n ?_)|(refine k_awp ?_;first|(refine awp_seq (awp_region ?_))|(refine awp_seq ?_)|(refine awp_region ?_)|(refine k_cond ?_;first|(refine awp_cond_t' rfl (by with_reducible rfl) ?_)|(refine awp_cond_f' rfl (by with_reducible rfl) ?_)|(refine awp_cond_p rfl (fun hc => ?_) (fun hc => ?_) <;> (try (exfalso;omega))))|(refine awp_block ?_)|(refine awp_ret ?_)|(refine awp_skip ?_)|(refine awp_exit ?_))|(refine thn_ret ?_)|(refine lq_exit ?_)|(refine thn_exit ?_)|(refine inb_n ?_)|(refine inb_here ?_)))
    refine retq_wkn (.nil 6 rfl) ?_
    refine ret2 (by first | exact .inr rfl | exact .inl rfl) rfl rfl rfl ?_
    exact ⟨rfl, rfl⟩
def awU : List (List AV) := [[.str [], .str [], .str [], .bool false]]
theorem s_awake21 : PCalls (EE w0 base) 16 [] fun rv => rv = .bool true := by
  refine acalls_of Tryd.func16 rfl rfl rfl .nil ?_
  repeat' (first|((refine al_makeSlice (by rfl) (by rfl) (by rfl) (by rfl) (by rfl) (by rfl) (by decide) (by rfl) (by omega) (by omega) (by omega) (by omega) rfl (by first|exact ln0|exact ln1) (by repeat constructor) rfl ?_);refine al_wkn (.freeze 6 rfl (by repeat constructor)) ?_)|(refine k_al ?_;first|(refine al_v (ov_move rfl) rfl ?_)|(refine k_g ?_;first|(refine al_gy' rfl rfl (by with_reducible rfl) ?_)|(refine al_gnt rfl rfl (by with_reducible rfl) rfl ?_)|(refine al_gsp rfl rfl (fun hc => ?_) (fun hc => ?_) <;> (try (exfalso;omega))))|(refine k_load ?_;first|(refine al_v (ov_load_agg rfl rfl rfl) rfl ?_))|(refine k_bin ?_;first|(refine al_v (ov_cmp rfl rfl rfl) rfl ?_)|(refine al_v (ov_aeq rfl rfl (by repeat constructor) (by repeat constructor)) rfl ?_))|(refine k_pick ?_;first|(refine al_v (ov_pick_t' rfl (by with_reducible rfl) rfl) rfl ?_)|(refine al_v (ov_pick_f' rfl (by with_reducible rfl) rfl) rfl ?_))|(refine al_v (ov_assign rfl) rfl ?_)|(refine k_call ?_;first|(refine al_v (ov_len_rs rfl) rfl ?_))|(refine al_v (ov_extract rfl rfl) rfl ?_)|(refine al_nil ?_)|(refine al_alloc rfl rfl rfl (by first|exact ln0|exact ln1) (by repeat constructor) rfl ?_)|(refine al_store rfl rfl rfl rfl rfl (by repeat constructor) (by repeat constructor) ?_)|(refine al_v (ov_build rfl rfl rfl (by repeat constructor)) rfl ?_))|(first|(refine thn_n ?_)|(refine k_awp ?_;first|(refine awp_seq (awp_region ?_))|(refine awp_seq ?_)|(refine awp_region ?_)|(refine awp_ret ?_)))|fail)
  refine al_wkn (.le 9 (cfgAV awU [] [] [] [] 0 1 0 9) rfl (.agg (by repeat constructor))) ?_
  refine al_call rfl rfl rfl rfl s_bound21 ?_; rintro _ rfl
  rw [show boundR awU 1 9 4 0 = [.int .i64 92, .int .i64 0] from rfl]
  repeat' (first|(refine k_al ?_;first|(refine al_v (ov_move rfl) rfl ?_)|(refine k_g ?_;first|(refine al_gy' rfl rfl (by with_reducible rfl) ?_)|(refine al_gnt rfl rfl (by with_reducible rfl) rfl ?_)|(refine al_gsp rfl rfl (fun hc => ?_) (fun hc => ?_) <;> (try (exfalso;omega))))|(refine k_load ?_;first|(refine al_v (ov_load_agg rfl rfl rfl) rfl ?_))|(refine k_bin ?_;first|(refine al_v (ov_cmp rfl rfl rfl) rfl ?_)|(refine al_v (ov_aeq rfl rfl (by repeat constructor) (by repeat constructor)) rfl ?_))|(refine k_pick ?_;first|(refine al_v (ov_pick_t' rfl (by with_reducible rfl) rfl) rfl ?_)|(refine al_v (ov_pick_f' rfl (by with_reducible rfl) rfl) rfl ?_))|(refine al_v (ov_assign rfl) rfl ?_)|(refine k_call ?_;first|(refine al_v (ov_len_rs rfl) rfl ?_))|(refine al_v (ov_extract rfl rfl) rfl ?_)|(refine al_nil ?_)|(refine al_alloc rfl rfl rfl (by first|exact ln0|exact ln1) (by repeat constructor) rfl ?_)|(refine al_store rfl rfl rfl rfl rfl (by repeat constructor) (by repeat constructor) ?_)|(refine al_v (ov_build rfl rfl rfl (by repeat constructor)) rfl ?_))|(first|(refine thn_n ?_)|(refine k_awp ?_;first|(refine awp_seq (awp_region ?_))|(refine awp_seq ?_)|(refine awp_region ?_)|(refine awp_ret ?_)))|fail)
  refine al_wkn (.le 14 (cfgAV awU [] [] [] [] 0 1 0 9) rfl (.agg (by repeat constructor))) ?_
  refine al_call rfl rfl rfl rfl s_units21 ?_; rintro _ rfl
  rw [show unitsR awU 1 9 1 5 = ([stepRow 3 0 0, stepRow 4 0 0, stepRow 5 0 5, stepRow 6 0 0], 0) from rfl]
  repeat' (first|(refine al_v (ov_indexAddr rfl rfl (by omega) rfl rfl) rfl ?_)|(refine k_al ?_;first|(refine al_v (ov_move rfl) rfl ?_)|(refine k_g ?_;first|(refine al_gy' rfl rfl (by with_reducible rfl) ?_)|(refine al_gnt rfl rfl (by with_reducible rfl) rfl ?_)|(refine al_gsp rfl rfl (fun hc => ?_) (fun hc => ?_) <;> (try (exfalso;omega))))|(refine k_load ?_;first|(refine al_v (ov_load_agg rfl rfl rfl) rfl ?_))|(refine k_bin ?_;first|(refine al_v (ov_cmp rfl rfl rfl) rfl ?_)|(refine al_v (ov_aeq rfl rfl (by repeat constructor) (by repeat constructor)) rfl ?_))|(refine k_pick ?_;first|(refine al_v (ov_pick_t' rfl (by with_reducible rfl) rfl) rfl ?_)|(refine al_v (ov_pick_f' rfl (by with_reducible rfl) rfl) rfl ?_))|(refine al_v (ov_assign rfl) rfl ?_)|(refine k_call ?_;first|(refine al_v (ov_len_rs rfl) rfl ?_))|(refine al_v (ov_extract rfl rfl) rfl ?_)|(refine al_nil ?_)|(refine al_alloc rfl rfl rfl (by first|exact ln0|exact ln1) (by repeat constructor) rfl ?_)|(refine al_store rfl rfl rfl rfl rfl (by repeat constructor) (by repeat constructor) ?_)|(refine al_v (ov_build rfl rfl rfl (by repeat constructor)) rfl ?_))|(first|(refine thn_n ?_)|(refine k_awp ?_;first|(refine awp_seq (awp_region ?_))|(refine awp_seq ?_)|(refine awp_region ?_)|(refine awp_ret ?_)))|fail)
  all_goals first | (exact absurd rfl hc) | skip
  refine ret1 (by first | exact .inr rfl | exact .inl rfl) rfl rfl ?_
  exact ⟨rfl, rfl⟩

end
end Go.Proofs.YtnjolbnbpfjdiaaDoor.L
