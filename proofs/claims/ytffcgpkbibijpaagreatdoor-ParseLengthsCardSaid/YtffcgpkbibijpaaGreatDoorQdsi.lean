/- Layer 8 (parse): the law ParseLengths. -/
import Derived.Test.YtffcgpkbibijpaaGreatDoorQdse
import Derived.Test.YtffcgpkbibijpaaGreatDoorQdsb
import Derived.Test.YtffcgpkbibijpaaGreatDoorQd6
set_option linter.unusedVariables false
set_option linter.unusedSimpArgs false
namespace Go.Proofs.YtffcgpkbibijpaaGreatDoor.L
open Go Go.RowKit Go.Proofs
set_option linter.unusedVariables false
set_option linter.unusedSimpArgs false
set_option maxRecDepth 100000
attribute [local irreducible] AL QL AWp Thn InB RetQ ACalls LoopQ HL HO HW HQ NoG JmpQ MidQ HF

theorem andMask (x : Int) : ∃ m : Nat, m ≤ 32767 ∧ bits .and .i64 x 32767 = (m : Int) := by
  refine ⟨(BitVec.ofInt 64 x &&& 32767#64).toNat, ?_, ?_⟩
  · rw [BitVec.toNat_and]
    exact Nat.le_trans Nat.and_le_right (by decide)
  · have h : (BitVec.ofInt 64 x &&& 32767#64).toNat ≤ 32767 := by rw [BitVec.toNat_and]; exact Nat.le_trans Nat.and_le_right (by decide)
    have e : bits .and .i64 x 32767 = IntKind.i64.wrap ((BitVec.ofInt 64 x &&& 32767#64).toNat : Int) := rfl
    rw [e, IntKind.wrap_i64]
    omega
/-- The bytes of the body. -/
def lenB (n : Nat) : List UInt8 := (List.range n).map fun i => (i % 251).toUInt8
theorem lenB_len (n : Nat) : (lenB n).length = n := by simp [lenB]
theorem lenB_next (n : Nat) : bytesAV (lenB (n + 1)) = bytesAV (lenB n) ++ [[.int .u8 ((n % 251 : Nat) : Int)]] := by
  unfold lenB bytesAV
  rw [List.range_succ, List.map_append, List.map_append]
  have hm : n % 251 < 251 := Nat.mod_lt _ (by decide)
  have : ((n % 251).toUInt8.toNat : Int) = ((n % 251 : Nat) : Int) := by
    rw [Nat.toUInt8, UInt8.toNat_ofNat']
    omega
  rw [List.map_cons, List.map_cons, this]
  rfl
def ldB (k : Nat) : UInt8 := (48 + k).toUInt8
def ldGo : Nat → Nat → List UInt8 → List UInt8
  | 0, _, acc => acc
  | f + 1, m, acc => if m = 0 ∧ acc ≠ [] then acc else ldGo f (m / 10) (ldB (m % 10) :: acc)
def ldD (n : Nat) : List UInt8 := ldGo (n + 2) n []
def ldT : List UInt8 := [48, 49, 50, 51, 52, 53, 54, 55, 56, 57]
theorem ldB_all : ∀ k : Fin 10, ((ldB k.1).toNat = 48 + k.1 ∧ pDigit (ldB k.1) = true) ∧ (ldT.take (k.1 + 1)).drop k.1 = [ldB k.1] := by decide +kernel
theorem ldB_I {k : Nat} (h : k < 10) : (ldB k).toNat = 48 + k := (ldB_all ⟨k, h⟩).1.1
theorem ldB_dig {k : Nat} (h : k < 10) : pDigit (ldB k) = true := (ldB_all ⟨k, h⟩).1.2
theorem ldB_slice {k : Nat} (h : k < 10) : (ldT.take (k + 1)).drop k = [ldB k] := (ldB_all ⟨k, h⟩).2
def ldV (m : Int) (l : List UInt8) : Int := l.foldl (fun n b => 10 * n + ((b.toNat : Int) - 48)) m
theorem ldGo_val : ∀ (f m : Nat) (acc : List UInt8), m + (if acc = [] then 1 else 0) < f → ldV 0 (ldGo f m acc) = ldV m acc := by
  intro f
  induction f with
  | zero => intro m acc h; exact absurd h (Nat.not_lt_zero _)
  | succ f ih =>
    intro m acc h
    have hm : m % 10 < 10 := Nat.mod_lt _ (by decide)
    rw [ldGo]
    split
    · rename_i h0
      rw [h0.1]
      rfl
    · rename_i h0
      have hne : ¬ (ldB (m % 10) :: acc = []) := by simp
      rw [ih _ _ (by
        rw [if_neg hne]
        by_cases ha : acc = []
        · rw [if_pos ha] at h; omega
        · have hm0 : m ≠ 0 := fun e => h0 ⟨e, ha⟩
          omega)]
      unfold ldV
      rw [List.foldl_cons, ldB_I hm]
      congr 1
      omega
theorem ldGo_dig : ∀ (f m : Nat) (acc : List UInt8), acc.all pDigit = true → (ldGo f m acc).all pDigit = true := by
  intro f
  induction f with
  | zero => intro m acc h; exact h
  | succ f ih =>
    intro m acc h
    rw [ldGo]
    split
    · exact h
    · refine ih _ _ ?_
      rw [List.all_cons, ldB_dig (Nat.mod_lt _ (by decide)), h]
      rfl
theorem ldGo_len : ∀ (f m j : Nat) (acc : List UInt8), m < 10 ^ j → acc ≠ [] → acc.length ≤ (ldGo f m acc).length ∧ (ldGo f m acc).length ≤ acc.length + j := by
  intro f
  induction f with
  | zero => intro m j acc _ _; rw [ldGo]; omega
  | succ f ih =>
    intro m j acc h ha
    rw [ldGo]
    split
    · omega
    · rename_i h0
      have hm0 : m ≠ 0 := fun e => h0 ⟨e, ha⟩
      cases j with
      | zero => exact absurd h (by omega)
      | succ j =>
        have := ih (m / 10) j (ldB (m % 10) :: acc) (by rw [Nat.pow_succ] at h; omega) (by simp)
        simp only [List.length_cons] at this
        omega
theorem ldD_len {n : Nat} (h : n ≤ 32767) : 1 ≤ (ldD n).length ∧ (ldD n).length ≤ 5 := by
  unfold ldD
  rw [ldGo, if_neg (fun k => k.2 rfl)]
  have := ldGo_len (n + 1) (n / 10) 4 [ldB (n % 10)] (by omega) (by simp)
  simp only [List.length_cons, List.length_nil] at this
  omega
theorem ldD_dig (n : Nat) : (ldD n).all pDigit = true := ldGo_dig _ _ _ rfl
theorem ldD_val (n : Nat) : decN (ldD n) = (n : Int) := ldGo_val (n + 2) n [] (by rw [if_pos rfl]; omega)
/-! The request's head. -/
def putL : List UInt8 := "PUT /x HTTP/1.1".toUTF8.data.toList
def hostL2 : List UInt8 := "Host: a".toUTF8.data.toList
def clN : List UInt8 := "Content-Length".toUTF8.data.toList
theorem putL_ok : RLine putL := ⟨by decide +kernel, by decide +kernel, by decide +kernel⟩
theorem hostL2_ok : FLine hostL2 := ⟨by decide +kernel, by decide +kernel, by decide +kernel, by decide +kernel⟩
theorem dig_loose : ∀ b : UInt8, pDigit b = true → pLoose b = true ∧ ([32, 9] : List UInt8).contains b = false := u8_all (by decide +kernel)
theorem digs_ok {ds : List UInt8} (hd : ds.all pDigit = true) : FldOk (cleS, ds) := by
  have hb := List.all_eq_true.1 hd
  refine ⟨show cleS ≠ [] by decide, show cleS.all pToken = true by decide +kernel, show smallS cleS = cleS by decide +kernel, List.all_eq_true.2 fun b hm => (dig_loose b (hb b hm)).1, trim_fix (fun c hc => (dig_loose c (hb c ?_)).2) (fun c hc => (dig_loose c (hb c ?_)).2)⟩
  · cases ds with
    | nil => simp at hc
    | cons a l => simp at hc; simp [hc]
  · have : c ∈ ds.reverse := by
      cases hr : ds.reverse with
      | nil => rw [hr] at hc; simp at hc
      | cons a l => rw [hr] at hc; simp at hc; simp [hc]
    exact List.mem_reverse.1 this
def lenL (ds : List UInt8) : List UInt8 := clN ++ 58 :: ([32] ++ ds)
theorem lenL_ok {ds : List UInt8} (hd : ds.all pDigit = true) (hl : ds.length ≤ 5) : FLine (lenL ds) ∧ fieldOf (lenL ds) = (cleS, ds) :=
  line_of (p := (cleS, ds)) (n := clN) (bl := [32]) (digs_ok hd) (show smallS clN = cleS by decide +kernel) (by decide +kernel) (fun b hb => .inl (by simpa using hb)) (by
    have : clN.length = 14 := by decide +kernel
    simp only [List.length_append, List.length_cons, List.length_nil, this]
    omega)
def lenHdr (ds : List UInt8) : List UInt8 := textOf [putL, hostL2, lenL ds]
def lenPre : List UInt8 := "PUT /x HTTP/1.1\r\nHost: a\r\nContent-Length: ".toUTF8.data.toList
theorem lenPre_eq : lenPre = putL ++ 13 :: 10 :: (hostL2 ++ 13 :: 10 :: (clN ++ [58, 32])) := by decide +kernel
theorem lenHdr_eq (ds : List UInt8) : lenHdr ds = (lenPre ++ ds) ++ [13, 10, 13, 10] := by
  rw [lenPre_eq]
  unfold lenHdr
  rw [textOf_cons, textOf_cons, textOf_cons, textOf_nil]
  simp [lenL]
theorem lenHdr_len (ds : List UInt8) : (lenHdr ds).length = 46 + ds.length := by
  rw [lenHdr_eq, List.length_append, List.length_append]
  have : lenPre.length = 42 := by decide +kernel
  rw [this]
  simp only [List.length_cons, List.length_nil]
  omega
theorem host_name : (fieldOf hostL2).1 = hostS := by decide +kernel
theorem len_hp {ds : List UInt8} (hd : ds.all pDigit = true) (hl : ds.length ≤ 5) : headParse (lenHdr ds) = (hdOf putL [hostL2, lenL ds], 0, 0) := by
  obtain ⟨h1, h2⟩ := lenL_ok hd hl
  rw [headParse_text (s := lenHdr ds) rfl (by rw [lenHdr_len]; omega) putL_ok (fun l hm => by
    rcases List.mem_cons.1 hm with rfl | hm
    · exact hostL2_ok
    · obtain rfl : l = lenL ds := by simpa using hm
      exact h1) (by simp)]
  unfold endR
  rw [if_pos]
  left
  unfold nHost valsOf hdOf
  dsimp only
  rw [List.map_cons, List.map_cons, h2, List.map_nil, List.filter_cons, List.filter_cons, List.filter_nil, host_name]
  rfl
theorem len_body {n : Nat} {ds : List UInt8} (hd : ds.all pDigit = true) (hl : 1 ≤ ds.length ∧ ds.length ≤ 5) (hn : decN ds = (n : Int)) : bodyS (hdOf putL [hostL2, lenL ds]) = if 16384 < n then (0, 0, 413) else (1, (n : Int), 0) := by
  obtain ⟨h1, h2⟩ := lenL_ok hd hl.2
  have e1 : valsOf (hdOf putL [hostL2, lenL ds]).fs cleS = [ds] := by
    unfold valsOf hdOf
    dsimp only
    rw [List.map_cons, List.map_cons, h2, List.map_nil, List.filter_cons, List.filter_cons, List.filter_nil, host_name]
    rfl
  have e2 : valsOf (hdOf putL [hostL2, lenL ds]).fs teS = [] := by
    unfold valsOf hdOf
    dsimp only
    rw [List.map_cons, List.map_cons, h2, List.map_nil, List.filter_cons, List.filter_cons, List.filter_nil, host_name]
    rfl
  unfold bodyS
  rw [e1, e2, bodyL, if_neg (by
    rintro (k | k | k | k)
    · omega
    · omega
    · rw [hd] at k; cases k
    · simp at k), hn]
  by_cases hb : 16384 < n
  · rw [if_pos hb, if_pos (by omega)]
  · rw [if_neg hb, if_neg (by omega)]
theorem len_next {n : Nat} {ds X : List UInt8} (hd : ds.all pDigit = true) (hl : 1 ≤ ds.length ∧ ds.length ≤ 5) (hn : decN ds = (n : Int)) :
    nextL (lenHdr ds ++ X) = if 16384 < n then .bad 413 else if X.length < n then .more else .got (hdOf putL [hostL2, lenL ds]) (X.take n) ((lenHdr ds).length + n) := by
  obtain ⟨h1, h2⟩ := lenL_ok hd hl.2
  have hlen := lenHdr_len ds
  have hidx : Lib.index (lenHdr ds ++ X) crlf2 = ((lenHdr ds).length : Int) - 4 := by
    have := idx_text (r := X) (ls := [hostL2, lenL ds]) (l := putL) (fun x hx => by
      simp only [List.mem_cons, List.not_mem_nil, or_false] at hx
      rcases hx with rfl | rfl | rfl
      · exact ⟨hasBr13 putL_ok.br, by decide +kernel⟩
      · exact ⟨hasBr13 hostL2_ok.br, hostL2_ok.ne⟩
      · exact ⟨hasBr13 h1.br, h1.ne⟩)
    have e : lenHdr ds = textOf (putL :: [hostL2, lenL ds]) := rfl
    rw [e, this, textOf_length]
    omega
  unfold nextL
  have hx : (((lenHdr ds).length : Int) - 4).toNat + 4 = (lenHdr ds).length := by omega
  rw [hidx, if_neg (by omega), hx, take_app (Nat.le_refl _), List.take_length, len_hp hd hl.2]
  dsimp only
  rw [if_neg (fun k => k rfl)]
  unfold bodyAt
  rw [len_body hd hl hn]
  by_cases hb : 16384 < n
  · rw [if_pos hb, if_pos hb, if_pos (by decide)]
  · rw [if_neg hb, if_neg hb, if_neg (fun k => k rfl), if_pos rfl]
    dsimp only
    rw [Int.toNat_natCast, List.length_append]
    by_cases hm : X.length < n
    · rw [if_pos hm, if_pos (by omega)]
    · rw [if_neg hm, if_neg (by omega)]
      dsimp only
      congr 1
      rw [List.drop_take, List.drop_left]
      congr 1
      omega
section
variable {w0 : World} {base : Nat}
set_option maxHeartbeats 8000000 in
theorem s_lawLengths {x y : Int} (hG : Glob w0 base) : PCalls (EE w0 base) 9 [.int .i64 x, .int .i64 y] fun rv => rv = .bool true := by
  have hW := s_awake8 (w0 := w0) (base := base) hG
  obtain ⟨n, hn, hbn⟩ := andMask x
  obtain ⟨k, hk, hbk⟩ := andMask y
  refine acalls_of Tryz.func9 rfl rfl rfl (.cons (.cons .nil)) ?_
  repeat' (first|(first|(refine al_v (ov_bits rfl rfl (.inl rfl) hbn) rfl ?_))|(refine k_al ?_;first|(refine al_v (ov_move rfl) rfl ?_)|(refine k_g ?_;first|(refine al_gy' rfl rfl (by with_reducible rfl) ?_)|(refine al_gnt rfl rfl (by with_reducible rfl) rfl ?_)|(refine al_gnf rfl rfl (by with_reducible rfl) rfl ?_)|(refine al_gsp rfl rfl (fun hc => ?_) (fun hc => ?_) <;> (try (exfalso;omega))))|(refine al_v (ov_fieldAddr rfl rfl) rfl ?_)|(refine k_load ?_;first|(refine al_v (ov_load rfl rfl) rfl ?_))|(refine k_bin ?_;first|(refine al_v (ov_cmp rfl rfl rfl) rfl ?_)|(refine al_v (ov_cat rfl rfl (by first|omega|(simp only [List.length_append, List.length_cons, List.length_nil];omega)|(simp;omega))) rfl ?_)|(refine al_v (ov_add rfl rfl (by (first|exact w64 (by omega) (by omega)|exact w8 (by omega) (by omega)|rfl))) rfl ?_)|(refine al_v (ov_rem rfl rfl (by decide) rfl) rfl ?_)|(refine al_v (ov_seq rfl rfl) rfl ?_))|(refine k_pick ?_;first|(refine al_v (ov_pick_t' rfl (by with_reducible rfl) rfl) rfl ?_)|(refine al_v (ov_pick_f' rfl (by with_reducible rfl) rfl) rfl ?_))|(refine al_v (ov_assign rfl) rfl ?_)|(refine al_v (ov_extract rfl rfl) rfl ?_)|(refine al_nil ?_)|(refine al_alloc rfl rfl rfl (by first|exact ln1|exact ln2) (by repeat constructor) rfl ?_)|(refine al_store rfl rfl rfl rfl rfl (by repeat constructor) (by repeat constructor) ?_)|(refine al_buildSlice (by rfl) (by rfl) (by rfl) (by rfl) (by decide) (by decide) (by rfl) (by rfl) (by repeat constructor) (by rfl) (by repeat constructor) (by rfl) (by first|exact ln1|exact ln2) (by repeat constructor) rfl ?_)|(refine al_v (ov_not_f rfl (by with_reducible rfl)) rfl ?_))|(first|(refine thn_n ?_)|(refine k_awp ?_;first|(refine awp_seq (awp_region ?_))|(refine awp_seq ?_)|(refine awp_region ?_)|(refine k_cond ?_;first|(refine awp_cond_t' rfl (by with_reducible rfl) ?_)|(refine awp_cond_p rfl (fun hc => ?_) (fun hc => ?_) <;> (try (exfalso;omega))))|(refine awp_block ?_)|(refine awp_ret ?_)|(refine awp_skip ?_)|(refine awp_exit ?_))|(refine thn_ret ?_)|(refine lq_exit ?_)|(refine thn_exit ?_)|(refine inb_n ?_)|(refine inb_here ?_)))
  refine awp_adopt 6 5 1 rfl (by decide) rfl (by repeat constructor) ?_
  refine awp_loopq (fun p : Nat × Nat × List (List AV) => ⟨[(1, .int .i64 y), (5, .int .i64 n), (6, .os 0 p.2.1), (7, .int .i64 p.1)], [.row 5 1 p.2.1 0 p.2.2]⟩) (fun p => p.1 ≤ n ∧ p.2.2 = bytesAV (lenB p.1)) (fun p => n - p.1) (0, 0, []) (.of (.same (by repeat constructor))) ⟨Nat.zero_le _, rfl⟩ ?_
  rintro ⟨i, ver, xs⟩ ⟨hi, hxs⟩
  dsimp only at hi hxs ⊢
  have hxl : xs.length = i := by rw [hxs, bytesAV, List.length_map, lenB_len]
  by_cases hlt : i < n
  · have hr : (i : Int).tmod 251 = ((i % 251 : Nat) : Int) := rfl
    have hm : i % 251 < 251 := Nat.mod_lt _ (by decide)
    repeat' (first|(first|(refine k_bin ?_;refine al_v (ov_rem rfl rfl (by decide) hr) rfl ?_)|(refine al_v (ov_conv_int rfl (w8 (by omega) (by omega))) rfl ?_)|(refine k_call ?_;refine al_append rfl rfl (by repeat constructor) (src_os rfl rfl) rfl (by decide) (by simp only [List.length_cons, List.length_nil];omega) rfl ?_))|(refine k_al ?_;first|(refine al_v (ov_move rfl) rfl ?_)|(refine k_g ?_;first|(refine al_gy' rfl rfl (by with_reducible rfl) ?_)|(refine al_gnt rfl rfl (by with_reducible rfl) rfl ?_)|(refine al_gnf rfl rfl (by with_reducible rfl) rfl ?_)|(refine al_gsp rfl rfl (fun hc => ?_) (fun hc => ?_) <;> (try (exfalso;omega))))|(refine al_v (ov_fieldAddr rfl rfl) rfl ?_)|(refine k_load ?_;first|(refine al_v (ov_load rfl rfl) rfl ?_))|(refine k_bin ?_;first|(refine al_v (ov_cmp rfl rfl rfl) rfl ?_)|(refine al_v (ov_cat rfl rfl (by first|omega|(simp only [List.length_append, List.length_cons, List.length_nil];omega)|(simp;omega))) rfl ?_)|(refine al_v (ov_add rfl rfl (by (first|exact w64 (by omega) (by omega)|exact w8 (by omega) (by omega)|rfl))) rfl ?_)|(refine al_v (ov_rem rfl rfl (by decide) rfl) rfl ?_)|(refine al_v (ov_seq rfl rfl) rfl ?_))|(refine k_pick ?_;first|(refine al_v (ov_pick_t' rfl (by with_reducible rfl) rfl) rfl ?_)|(refine al_v (ov_pick_f' rfl (by with_reducible rfl) rfl) rfl ?_))|(refine al_v (ov_assign rfl) rfl ?_)|(refine al_v (ov_extract rfl rfl) rfl ?_)|(refine al_nil ?_)|(refine al_alloc rfl rfl rfl (by first|exact ln1|exact ln2) (by repeat constructor) rfl ?_)|(refine al_store rfl rfl rfl rfl rfl (by repeat constructor) (by repeat constructor) ?_)|(refine al_buildSlice (by rfl) (by rfl) (by rfl) (by rfl) (by decide) (by decide) (by rfl) (by rfl) (by repeat constructor) (by rfl) (by repeat constructor) (by rfl) (by first|exact ln1|exact ln2) (by repeat constructor) rfl ?_)|(refine al_v (ov_not_f rfl (by with_reducible rfl)) rfl ?_))|(first|(refine thn_n ?_)|(refine k_awp ?_;first|(refine awp_seq (awp_region ?_))|(refine awp_seq ?_)|(refine awp_region ?_)|(refine k_cond ?_;first|(refine awp_cond_t' rfl (by with_reducible rfl) ?_)|(refine awp_cond_p rfl (fun hc => ?_) (fun hc => ?_) <;> (try (exfalso;omega))))|(refine awp_block ?_)|(refine awp_ret ?_)|(refine awp_skip ?_)|(refine awp_exit ?_))|(refine thn_ret ?_)|(refine lq_exit ?_)|(refine thn_exit ?_)|(refine inb_n ?_)|(refine inb_here ?_)))
    first|refine lq_back (i + 1, ver + 1, _) (.of (.same (by repeat constructor))) ?_ ?_|refine lq_back (i + 1, ver + 1, _) (.of (wk_drop [_] rfl (by repeat constructor) rfl (by repeat constructor) rfl)) ?_ ?_|refine lq_back (i + 1, ver + 1, _) (.of (wk_drop [_, _] rfl (by repeat constructor) rfl (by repeat constructor) rfl)) ?_ ?_|refine lq_back (i + 1, ver + 1, _) (.of (wk_drop [_, _, _] rfl (by repeat constructor) rfl (by repeat constructor) rfl)) ?_ ?_
    · refine ⟨by dsimp only; omega, ?_⟩
      dsimp only
      rw [hxs, lenB_next]
    · dsimp only; omega
  · obtain rfl : i = n := by omega
    subst hxs
    obtain ⟨T, hT⟩ : ∃ T, T = ldD i := ⟨_, rfl⟩
    repeat' (first|(first|(refine al_v (ov_bits rfl rfl (.inl rfl) hbk) rfl ?_))|(refine k_al ?_;first|(refine al_v (ov_move rfl) rfl ?_)|(refine k_g ?_;first|(refine al_gy' rfl rfl (by with_reducible rfl) ?_)|(refine al_gnt rfl rfl (by with_reducible rfl) rfl ?_)|(refine al_gnf rfl rfl (by with_reducible rfl) rfl ?_)|(refine al_gsp rfl rfl (fun hc => ?_) (fun hc => ?_) <;> (try (exfalso;omega))))|(refine al_v (ov_fieldAddr rfl rfl) rfl ?_)|(refine k_load ?_;first|(refine al_v (ov_load rfl rfl) rfl ?_))|(refine k_bin ?_;first|(refine al_v (ov_cmp rfl rfl rfl) rfl ?_)|(refine al_v (ov_cat rfl rfl (by first|omega|(simp only [List.length_append, List.length_cons, List.length_nil];omega)|(simp;omega))) rfl ?_)|(refine al_v (ov_add rfl rfl (by (first|exact w64 (by omega) (by omega)|exact w8 (by omega) (by omega)|rfl))) rfl ?_)|(refine al_v (ov_rem rfl rfl (by decide) rfl) rfl ?_)|(refine al_v (ov_seq rfl rfl) rfl ?_))|(refine k_pick ?_;first|(refine al_v (ov_pick_t' rfl (by with_reducible rfl) rfl) rfl ?_)|(refine al_v (ov_pick_f' rfl (by with_reducible rfl) rfl) rfl ?_))|(refine al_v (ov_assign rfl) rfl ?_)|(refine al_v (ov_extract rfl rfl) rfl ?_)|(refine al_nil ?_)|(refine al_alloc rfl rfl rfl (by first|exact ln1|exact ln2) (by repeat constructor) rfl ?_)|(refine al_store rfl rfl rfl rfl rfl (by repeat constructor) (by repeat constructor) ?_)|(refine al_buildSlice (by rfl) (by rfl) (by rfl) (by rfl) (by decide) (by decide) (by rfl) (by rfl) (by repeat constructor) (by rfl) (by repeat constructor) (by rfl) (by first|exact ln1|exact ln2) (by repeat constructor) rfl ?_)|(refine al_v (ov_not_f rfl (by with_reducible rfl)) rfl ?_))|(first|(refine thn_n ?_)|(refine k_awp ?_;first|(refine awp_seq (awp_region ?_))|(refine awp_seq ?_)|(refine awp_region ?_)|(refine k_cond ?_;first|(refine awp_cond_t' rfl (by with_reducible rfl) ?_)|(refine awp_cond_p rfl (fun hc => ?_) (fun hc => ?_) <;> (try (exfalso;omega))))|(refine awp_block ?_)|(refine awp_ret ?_)|(refine awp_skip ?_)|(refine awp_exit ?_))|(refine thn_ret ?_)|(refine lq_exit ?_)|(refine thn_exit ?_)|(refine inb_n ?_)|(refine inb_here ?_)))
    refine awp_wkn (.freeze 6 rfl (by repeat constructor)) ?_
    refine awp_loopq (fun p : Nat × List UInt8 => ⟨[(5, .int .i64 i), (6, .rs (bytesAV (lenB i))), (8, .int .i64 k), (9, .str p.2), (10, .int .i64 p.1)], []⟩) (fun p => p.2.length + p.1 ≤ i + 1 ∧ ∃ f, p.1 + (if p.2 = [] then 1 else 0) < f ∧ T = ldGo f p.1 p.2) (fun p => p.1 + (if p.2 = [] then 1 else 0)) (i, []) (.of (wk_drop [_] rfl (by repeat constructor) rfl (by repeat constructor) rfl)) ⟨by simp, i + 2, by simp, hT⟩ ?_
    rintro ⟨m, acc⟩ ⟨hal, f, hf, hTf⟩
    dsimp only at hal hf hTf ⊢
    obtain ⟨f, rfl⟩ : ∃ g, f = g + 1 := ⟨f - 1, by omega⟩
    rw [ldGo] at hTf
    by_cases hgo : m = 0 ∧ acc ≠ []
    · rw [if_pos hgo] at hTf
      obtain ⟨hm0, hne⟩ := hgo
      obtain ⟨hdl1, hdl2⟩ := ldD_len hn
      have hdd := ldD_dig i
      have hdv := ldD_val i
      rw [← hT] at hdl1 hdl2 hdd hdv
      subst hTf
      subst hm0
      have hlen := lenHdr_len T
      have hF := a_feed (w0 := w0) (base := base) (s := []) (t := (lenPre ++ T) ++ [13, 10, 13, 10]) (st := 0) (by simp) (by rw [← lenHdr_eq]; omega)
      rw [← lenHdr_eq, feedS_ok (by rw [List.length_nil]; omega), List.nil_append, lenHdr_eq] at hF
      have hnx := fun X => len_next (X := X) hdd ⟨hdl1, hdl2⟩ hdv
      by_cases hbig : 16384 < i
      · have hN := a_nextB (w0 := w0) (base := base) (s := (lenPre ++ T) ++ [13, 10, 13, 10]) (st := 413) hG (by rw [← lenHdr_eq]; omega) (by have := hnx []; rw [if_pos hbig, List.append_nil] at this; rw [← lenHdr_eq]; exact this)
        repeat' (first|(first|(refine k_call ?_;refine al_acall [] rfl rfl a_new ?_ ?_ rfl rfl ?_;(focus ((repeat constructor);done));(focus ((repeat constructor);done));rintro _ _ ⟨rfl, rfl⟩;refine ⟨_, _, by repeat constructor, by repeat constructor, ?_⟩)|(refine k_call ?_;refine al_acall [0] rfl rfl hF ?_ ?_ rfl rfl ?_;(focus ((repeat constructor);done));(focus ((repeat constructor);done));rintro _ _ ⟨rfl, rfl⟩;refine ⟨_, _, by repeat constructor, by repeat constructor, ?_⟩)|(refine k_call ?_;refine al_acall [0] rfl rfl hN ?_ ?_ rfl rfl ?_;(focus ((repeat constructor);done));(focus ((repeat constructor);done));rintro _ _ ⟨rfl, rfl⟩;refine ⟨_, _, by repeat constructor, by repeat constructor, ?_⟩)|(refine k_bin ?_;refine al_v (ov_peq_pn rfl rfl rfl) rfl ?_)|(refine k_call ?_;refine al_call rfl rfl rfl rfl hW ?_;rintro _ rfl))|(refine k_al ?_;first|(refine al_v (ov_move rfl) rfl ?_)|(refine k_g ?_;first|(refine al_gy' rfl rfl (by with_reducible rfl) ?_)|(refine al_gnt rfl rfl (by with_reducible rfl) rfl ?_)|(refine al_gnf rfl rfl (by with_reducible rfl) rfl ?_)|(refine al_gsp rfl rfl (fun hc => ?_) (fun hc => ?_) <;> (try (exfalso;omega))))|(refine al_v (ov_fieldAddr rfl rfl) rfl ?_)|(refine k_load ?_;first|(refine al_v (ov_load rfl rfl) rfl ?_))|(refine k_bin ?_;first|(refine al_v (ov_cmp rfl rfl rfl) rfl ?_)|(refine al_v (ov_cat rfl rfl (by first|omega|(simp only [List.length_append, List.length_cons, List.length_nil];omega)|(simp;omega))) rfl ?_)|(refine al_v (ov_add rfl rfl (by (first|exact w64 (by omega) (by omega)|exact w8 (by omega) (by omega)|rfl))) rfl ?_)|(refine al_v (ov_rem rfl rfl (by decide) rfl) rfl ?_)|(refine al_v (ov_seq rfl rfl) rfl ?_))|(refine k_pick ?_;first|(refine al_v (ov_pick_t' rfl (by with_reducible rfl) rfl) rfl ?_)|(refine al_v (ov_pick_f' rfl (by with_reducible rfl) rfl) rfl ?_))|(refine al_v (ov_assign rfl) rfl ?_)|(refine al_v (ov_extract rfl rfl) rfl ?_)|(refine al_nil ?_)|(refine al_alloc rfl rfl rfl (by first|exact ln1|exact ln2) (by repeat constructor) rfl ?_)|(refine al_store rfl rfl rfl rfl rfl (by repeat constructor) (by repeat constructor) ?_)|(refine al_buildSlice (by rfl) (by rfl) (by rfl) (by rfl) (by decide) (by decide) (by rfl) (by rfl) (by repeat constructor) (by rfl) (by repeat constructor) (by rfl) (by first|exact ln1|exact ln2) (by repeat constructor) rfl ?_)|(refine al_v (ov_not_f rfl (by with_reducible rfl)) rfl ?_))|(first|(refine thn_n ?_)|(refine k_awp ?_;first|(refine awp_seq (awp_region ?_))|(refine awp_seq ?_)|(refine awp_region ?_)|(refine k_cond ?_;first|(refine awp_cond_t' rfl (by with_reducible rfl) ?_)|(refine awp_cond_p rfl (fun hc => ?_) (fun hc => ?_) <;> (try (exfalso;omega))))|(refine awp_block ?_)|(refine awp_ret ?_)|(refine awp_skip ?_)|(refine awp_exit ?_))|(refine thn_ret ?_)|(refine lq_exit ?_)|(refine thn_exit ?_)|(refine inb_n ?_)|(refine inb_here ?_)))
        all_goals first
          | (exact absurd (show T = [] from ‹_›) hne)
          | (refine ret1 (by first | exact .inr rfl | exact .inl rfl) rfl rfl ?_
             exact ⟨rfl, rfl⟩)
      · obtain ⟨j, hj⟩ : ∃ j, j = min k i := ⟨_, rfl⟩
        have hmin : min (k : Int) (i : Int) = (j : Int) := by omega
        have hll := lenB_len i
        have hbl : (bytesAV (lenB i)).length = i := by rw [bytesAV, List.length_map, hll]
        have he1 : ((bytesAV (lenB i)).take j).drop 0 = bytesAV ((lenB i).take j) := by rw [List.drop_zero]; unfold bytesAV; rw [List.map_take]
        have he2 : ((bytesAV (lenB i)).take i).drop j = bytesAV ((lenB i).drop j) := by rw [List.take_of_length_le (by omega)]; unfold bytesAV; rw [List.map_drop]
        have htl : ((lenB i).take j).length = j := by rw [List.length_take, hll]; omega
        have hdl : ((lenB i).drop j).length = i - j := by rw [List.length_drop, hll]
        have hF1 := a_feed (w0 := w0) (base := base) (s := (lenPre ++ T) ++ [13, 10, 13, 10]) (t := (lenB i).take j) (st := 0) (by rw [← lenHdr_eq]; omega) (by omega)
        rw [feedS_ok (by rw [← lenHdr_eq]; omega)] at hF1
        have hgot : nextL (((lenPre ++ T) ++ [13, 10, 13, 10]) ++ lenB i) = .got (hdOf putL [hostL2, lenL T]) (lenB i) ((lenHdr T).length + i) := by
          have := hnx (lenB i)
          rw [if_neg hbig, if_neg (by omega), List.take_of_length_le (by omega), lenHdr_eq] at this
          rw [this, lenHdr_eq]
        have hdrop : (((lenPre ++ T) ++ [13, 10, 13, 10]) ++ lenB i).drop ((lenHdr T).length + i) = [] := List.drop_eq_nil_of_le (by rw [List.length_append, ← lenHdr_eq]; omega)
        by_cases hji : j = i
        · have htk : (lenB i).take j = lenB i := List.take_of_length_le (by omega)
          have hdk : (lenB i).drop j = [] := List.drop_eq_nil_of_le (by omega)
          rw [htk] at hF1 he1
          rw [hdk] at he2
          have hN := a_nextG (w0 := w0) (base := base) hG (by rw [List.length_append, ← lenHdr_eq]; omega) hgot
          rw [hdrop] at hN
          unfold reqAV at hN
          have hF2 := a_feed (w0 := w0) (base := base) (s := []) (t := []) (st := 0) (by simp) (by simp)
          rw [feedS_ok (by simp), List.nil_append] at hF2
          have hM := a_nextM (w0 := w0) (base := base) (s := []) hG (by simp) rfl
          repeat' (first|(first|(refine k_call ?_;refine al_acall [] rfl rfl a_new ?_ ?_ rfl rfl ?_;(focus ((repeat constructor);done));(focus ((repeat constructor);done));rintro _ _ ⟨rfl, rfl⟩;refine ⟨_, _, by repeat constructor, by repeat constructor, ?_⟩)|(refine k_call ?_;refine al_acall [0] rfl rfl hF ?_ ?_ rfl rfl ?_;(focus ((repeat constructor);done));(focus ((repeat constructor);done));rintro _ _ ⟨rfl, rfl⟩;refine ⟨_, _, by repeat constructor, by repeat constructor, ?_⟩)|(refine k_call ?_;refine al_acall [0] rfl rfl hF1 ?_ ?_ rfl rfl ?_;(focus ((repeat constructor);done));(focus ((repeat constructor);done));rintro _ _ ⟨rfl, rfl⟩;refine ⟨_, _, by repeat constructor, by repeat constructor, ?_⟩)|(refine k_call ?_;refine al_acall [0] rfl rfl hF2 ?_ ?_ rfl rfl ?_;(focus ((repeat constructor);done));(focus ((repeat constructor);done));rintro _ _ ⟨rfl, rfl⟩;refine ⟨_, _, by repeat constructor, by repeat constructor, ?_⟩)|(refine k_call ?_;refine al_acall [0] rfl rfl hN ?_ ?_ rfl rfl ?_;(focus ((repeat constructor);done));(focus ((repeat constructor);done));rintro _ _ ⟨rfl, rfl⟩;refine ⟨_, _, by repeat constructor, by repeat constructor, ?_⟩)|(refine k_call ?_;refine al_acall [0] rfl rfl hM ?_ ?_ rfl rfl ?_;(focus ((repeat constructor);done));(focus ((repeat constructor);done));rintro _ _ ⟨rfl, rfl⟩;refine ⟨_, _, by repeat constructor, by repeat constructor, ?_⟩)|(refine k_bin ?_;refine al_v (ov_peq_pn rfl rfl rfl) rfl ?_)|(refine k_call ?_;refine al_v (ov_min rfl rfl hmin) rfl ?_)|(refine al_v (ov_slice_rs (l := 0) (h := j) rfl bytes_row (Nat.zero_le _) (by omega) (.inl ⟨rfl, rfl⟩) (.inr ⟨_, _, rfl, rfl⟩)) rfl ?_)|(refine al_v (ov_slice_rs (l := j) (h := i) rfl bytes_row (by omega) (by omega) (.inr ⟨_, _, rfl, rfl⟩) (.inl ⟨rfl, hbl.symm⟩)) rfl ?_)|(refine al_v (ov_conv_rsE rfl he1) rfl ?_)|(refine al_v (ov_conv_rsE rfl he2) rfl ?_)|(refine k_call ?_;refine al_call rfl rfl rfl rfl hW ?_;rintro _ rfl))|(refine k_al ?_;first|(refine al_v (ov_move rfl) rfl ?_)|(refine k_g ?_;first|(refine al_gy' rfl rfl (by with_reducible rfl) ?_)|(refine al_gnt rfl rfl (by with_reducible rfl) rfl ?_)|(refine al_gnf rfl rfl (by with_reducible rfl) rfl ?_)|(refine al_gsp rfl rfl (fun hc => ?_) (fun hc => ?_) <;> (try (exfalso;omega))))|(refine al_v (ov_fieldAddr rfl rfl) rfl ?_)|(refine k_load ?_;first|(refine al_v (ov_load rfl rfl) rfl ?_))|(refine k_bin ?_;first|(refine al_v (ov_cmp rfl rfl rfl) rfl ?_)|(refine al_v (ov_cat rfl rfl (by first|omega|(simp only [List.length_append, List.length_cons, List.length_nil];omega)|(simp;omega))) rfl ?_)|(refine al_v (ov_add rfl rfl (by (first|exact w64 (by omega) (by omega)|exact w8 (by omega) (by omega)|rfl))) rfl ?_)|(refine al_v (ov_rem rfl rfl (by decide) rfl) rfl ?_)|(refine al_v (ov_seq rfl rfl) rfl ?_))|(refine k_pick ?_;first|(refine al_v (ov_pick_t' rfl (by with_reducible rfl) rfl) rfl ?_)|(refine al_v (ov_pick_f' rfl (by with_reducible rfl) rfl) rfl ?_))|(refine al_v (ov_assign rfl) rfl ?_)|(refine al_v (ov_extract rfl rfl) rfl ?_)|(refine al_nil ?_)|(refine al_alloc rfl rfl rfl (by first|exact ln1|exact ln2) (by repeat constructor) rfl ?_)|(refine al_store rfl rfl rfl rfl rfl (by repeat constructor) (by repeat constructor) ?_)|(refine al_buildSlice (by rfl) (by rfl) (by rfl) (by rfl) (by decide) (by decide) (by rfl) (by rfl) (by repeat constructor) (by rfl) (by repeat constructor) (by rfl) (by first|exact ln1|exact ln2) (by repeat constructor) rfl ?_)|(refine al_v (ov_not_f rfl (by with_reducible rfl)) rfl ?_))|(first|(refine thn_n ?_)|(refine k_awp ?_;first|(refine awp_seq (awp_region ?_))|(refine awp_seq ?_)|(refine awp_region ?_)|(refine k_cond ?_;first|(refine awp_cond_t' rfl (by with_reducible rfl) ?_)|(refine awp_cond_p rfl (fun hc => ?_) (fun hc => ?_) <;> (try (exfalso;omega))))|(refine awp_block ?_)|(refine awp_ret ?_)|(refine awp_skip ?_)|(refine awp_exit ?_))|(refine thn_ret ?_)|(refine lq_exit ?_)|(refine thn_exit ?_)|(refine inb_n ?_)|(refine inb_here ?_)))
          all_goals first
            | (exact absurd (show T = [] from ‹_›) hne)
            | (refine ret1 (by first | exact .inr rfl | exact .inl rfl) rfl rfl ?_
               exact ⟨rfl, rfl⟩)
        · have hmore : nextL (((lenPre ++ T) ++ [13, 10, 13, 10]) ++ (lenB i).take j) = .more := by
            have := hnx ((lenB i).take j)
            rw [if_neg hbig, if_pos (by omega), lenHdr_eq] at this
            exact this
          have hM := a_nextM (w0 := w0) (base := base) hG (by rw [List.length_append, ← lenHdr_eq]; omega) hmore
          have hF2 := a_feed (w0 := w0) (base := base) (s := ((lenPre ++ T) ++ [13, 10, 13, 10]) ++ (lenB i).take j) (t := (lenB i).drop j) (st := 0) (by rw [List.length_append, ← lenHdr_eq]; omega) (by omega)
          have hjn : (((lenPre ++ T) ++ [13, 10, 13, 10]) ++ (lenB i).take j) ++ (lenB i).drop j = ((lenPre ++ T) ++ [13, 10, 13, 10]) ++ lenB i := by rw [List.append_assoc _ ((lenB i).take j), List.take_append_drop]
          rw [feedS_ok (by rw [List.length_append, ← lenHdr_eq]; omega), hjn] at hF2
          have hN := a_nextG (w0 := w0) (base := base) hG (by rw [List.length_append, ← lenHdr_eq]; omega) hgot
          rw [hdrop] at hN
          unfold reqAV at hN
          have hL0 := a_left0 (w0 := w0) (base := base) (st := 0)
          repeat' (first|(first|(refine k_call ?_;refine al_acall [] rfl rfl a_new ?_ ?_ rfl rfl ?_;(focus ((repeat constructor);done));(focus ((repeat constructor);done));rintro _ _ ⟨rfl, rfl⟩;refine ⟨_, _, by repeat constructor, by repeat constructor, ?_⟩)|(refine k_call ?_;refine al_acall [0] rfl rfl hF ?_ ?_ rfl rfl ?_;(focus ((repeat constructor);done));(focus ((repeat constructor);done));rintro _ _ ⟨rfl, rfl⟩;refine ⟨_, _, by repeat constructor, by repeat constructor, ?_⟩)|(refine k_call ?_;refine al_acall [0] rfl rfl hF1 ?_ ?_ rfl rfl ?_;(focus ((repeat constructor);done));(focus ((repeat constructor);done));rintro _ _ ⟨rfl, rfl⟩;refine ⟨_, _, by repeat constructor, by repeat constructor, ?_⟩)|(refine k_call ?_;refine al_acall [0] rfl rfl hF2 ?_ ?_ rfl rfl ?_;(focus ((repeat constructor);done));(focus ((repeat constructor);done));rintro _ _ ⟨rfl, rfl⟩;refine ⟨_, _, by repeat constructor, by repeat constructor, ?_⟩)|(refine k_call ?_;refine al_acall [0] rfl rfl hN ?_ ?_ rfl rfl ?_;(focus ((repeat constructor);done));(focus ((repeat constructor);done));rintro _ _ ⟨rfl, rfl⟩;refine ⟨_, _, by repeat constructor, by repeat constructor, ?_⟩)|(refine k_call ?_;refine al_acall [0] rfl rfl hM ?_ ?_ rfl rfl ?_;(focus ((repeat constructor);done));(focus ((repeat constructor);done));rintro _ _ ⟨rfl, rfl⟩;refine ⟨_, _, by repeat constructor, by repeat constructor, ?_⟩)|(refine k_call ?_;refine al_acall [0] rfl rfl hL0 ?_ ?_ rfl rfl ?_;(focus ((repeat constructor);done));(focus ((repeat constructor);done));rintro _ _ ⟨rfl, rfl⟩;refine ⟨_, _, by repeat constructor, by repeat constructor, ?_⟩)|(refine k_bin ?_;refine al_v (ov_peq_pn rfl rfl rfl) rfl ?_)|(refine k_call ?_;refine al_v (ov_min rfl rfl hmin) rfl ?_)|(refine al_v (ov_slice_rs (l := 0) (h := j) rfl bytes_row (Nat.zero_le _) (by omega) (.inl ⟨rfl, rfl⟩) (.inr ⟨_, _, rfl, rfl⟩)) rfl ?_)|(refine al_v (ov_slice_rs (l := j) (h := i) rfl bytes_row (by omega) (by omega) (.inr ⟨_, _, rfl, rfl⟩) (.inl ⟨rfl, hbl.symm⟩)) rfl ?_)|(refine al_v (ov_conv_rsE rfl he1) rfl ?_)|(refine al_v (ov_conv_rsE rfl he2) rfl ?_)|(refine al_v (ov_conv_rs rfl) rfl ?_)|(refine k_call ?_;refine al_call rfl rfl rfl rfl hW ?_;rintro _ rfl))|(refine k_al ?_;first|(refine al_v (ov_move rfl) rfl ?_)|(refine k_g ?_;first|(refine al_gy' rfl rfl (by with_reducible rfl) ?_)|(refine al_gnt rfl rfl (by with_reducible rfl) rfl ?_)|(refine al_gnf rfl rfl (by with_reducible rfl) rfl ?_)|(refine al_gsp rfl rfl (fun hc => ?_) (fun hc => ?_) <;> (try (exfalso;omega))))|(refine al_v (ov_fieldAddr rfl rfl) rfl ?_)|(refine k_load ?_;first|(refine al_v (ov_load rfl rfl) rfl ?_))|(refine k_bin ?_;first|(refine al_v (ov_cmp rfl rfl rfl) rfl ?_)|(refine al_v (ov_cat rfl rfl (by first|omega|(simp only [List.length_append, List.length_cons, List.length_nil];omega)|(simp;omega))) rfl ?_)|(refine al_v (ov_add rfl rfl (by (first|exact w64 (by omega) (by omega)|exact w8 (by omega) (by omega)|rfl))) rfl ?_)|(refine al_v (ov_rem rfl rfl (by decide) rfl) rfl ?_)|(refine al_v (ov_seq rfl rfl) rfl ?_))|(refine k_pick ?_;first|(refine al_v (ov_pick_t' rfl (by with_reducible rfl) rfl) rfl ?_)|(refine al_v (ov_pick_f' rfl (by with_reducible rfl) rfl) rfl ?_))|(refine al_v (ov_assign rfl) rfl ?_)|(refine al_v (ov_extract rfl rfl) rfl ?_)|(refine al_nil ?_)|(refine al_alloc rfl rfl rfl (by first|exact ln1|exact ln2) (by repeat constructor) rfl ?_)|(refine al_store rfl rfl rfl rfl rfl (by repeat constructor) (by repeat constructor) ?_)|(refine al_buildSlice (by rfl) (by rfl) (by rfl) (by rfl) (by decide) (by decide) (by rfl) (by rfl) (by repeat constructor) (by rfl) (by repeat constructor) (by rfl) (by first|exact ln1|exact ln2) (by repeat constructor) rfl ?_)|(refine al_v (ov_not_f rfl (by with_reducible rfl)) rfl ?_))|(first|(refine thn_n ?_)|(refine k_awp ?_;first|(refine awp_seq (awp_region ?_))|(refine awp_seq ?_)|(refine awp_region ?_)|(refine k_cond ?_;first|(refine awp_cond_t' rfl (by with_reducible rfl) ?_)|(refine awp_cond_p rfl (fun hc => ?_) (fun hc => ?_) <;> (try (exfalso;omega))))|(refine awp_block ?_)|(refine awp_ret ?_)|(refine awp_skip ?_)|(refine awp_exit ?_))|(refine thn_ret ?_)|(refine lq_exit ?_)|(refine thn_exit ?_)|(refine inb_n ?_)|(refine inb_here ?_)))
          all_goals first
            | (exact absurd (show T = [] from ‹_›) hne)
            | (refine ret1 (by first | exact .inr rfl | exact .inl rfl) rfl rfl ?_
               exact ⟨rfl, rfl⟩)
            | (exact absurd rfl (show ¬ _ from ‹¬ _›))
    · rw [if_neg hgo] at hTf
      have hr : (m : Int).tmod 10 = ((m % 10 : Nat) : Int) := rfl
      have hq : IntKind.i64.wrap ((m : Int).tdiv 10) = ((m / 10 : Nat) : Int) := by
        have : (m : Int).tdiv 10 = ((m / 10 : Nat) : Int) := rfl
        rw [this]
        exact w64 (by omega) (by omega)
      have hm : m % 10 < 10 := Nat.mod_lt _ (by decide)
      have hne : ¬ (ldB (m % 10) :: acc = []) := by simp
      by_cases hm0 : 0 < m
      · repeat' (first|(first|(refine k_bin ?_;refine al_v (ov_rem rfl rfl (by decide) hr) rfl ?_)|(refine k_bin ?_;refine al_v (ov_quo rfl rfl (by decide) hq) rfl ?_)|(refine al_v (ov_slice_eq (i := m % 10) (j := m % 10 + 1) (ldB_slice hm) rfl rfl rfl (by omega) (by omega) (by omega) (by show _ ≤ 10;omega)) rfl ?_))|(refine k_al ?_;first|(refine al_v (ov_move rfl) rfl ?_)|(refine k_g ?_;first|(refine al_gy' rfl rfl (by with_reducible rfl) ?_)|(refine al_gnt rfl rfl (by with_reducible rfl) rfl ?_)|(refine al_gnf rfl rfl (by with_reducible rfl) rfl ?_)|(refine al_gsp rfl rfl (fun hc => ?_) (fun hc => ?_) <;> (try (exfalso;omega))))|(refine al_v (ov_fieldAddr rfl rfl) rfl ?_)|(refine k_load ?_;first|(refine al_v (ov_load rfl rfl) rfl ?_))|(refine k_bin ?_;first|(refine al_v (ov_cmp rfl rfl rfl) rfl ?_)|(refine al_v (ov_cat rfl rfl (by first|omega|(simp only [List.length_append, List.length_cons, List.length_nil];omega)|(simp;omega))) rfl ?_)|(refine al_v (ov_add rfl rfl (by (first|exact w64 (by omega) (by omega)|exact w8 (by omega) (by omega)|rfl))) rfl ?_)|(refine al_v (ov_rem rfl rfl (by decide) rfl) rfl ?_)|(refine al_v (ov_seq rfl rfl) rfl ?_))|(refine k_pick ?_;first|(refine al_v (ov_pick_t' rfl (by with_reducible rfl) rfl) rfl ?_)|(refine al_v (ov_pick_f' rfl (by with_reducible rfl) rfl) rfl ?_))|(refine al_v (ov_assign rfl) rfl ?_)|(refine al_v (ov_extract rfl rfl) rfl ?_)|(refine al_nil ?_)|(refine al_alloc rfl rfl rfl (by first|exact ln1|exact ln2) (by repeat constructor) rfl ?_)|(refine al_store rfl rfl rfl rfl rfl (by repeat constructor) (by repeat constructor) ?_)|(refine al_buildSlice (by rfl) (by rfl) (by rfl) (by rfl) (by decide) (by decide) (by rfl) (by rfl) (by repeat constructor) (by rfl) (by repeat constructor) (by rfl) (by first|exact ln1|exact ln2) (by repeat constructor) rfl ?_)|(refine al_v (ov_not_f rfl (by with_reducible rfl)) rfl ?_))|(first|(refine thn_n ?_)|(refine k_awp ?_;first|(refine awp_seq (awp_region ?_))|(refine awp_seq ?_)|(refine awp_region ?_)|(refine k_cond ?_;first|(refine awp_cond_t' rfl (by with_reducible rfl) ?_)|(refine awp_cond_p rfl (fun hc => ?_) (fun hc => ?_) <;> (try (exfalso;omega))))|(refine awp_block ?_)|(refine awp_ret ?_)|(refine awp_skip ?_)|(refine awp_exit ?_))|(refine thn_ret ?_)|(refine lq_exit ?_)|(refine thn_exit ?_)|(refine inb_n ?_)|(refine inb_here ?_)))
        first|refine lq_back (m / 10, ldB (m % 10) :: acc) (.of (.same (by repeat constructor))) ?_ ?_|refine lq_back (m / 10, ldB (m % 10) :: acc) (.of (wk_drop [_] rfl (by repeat constructor) rfl (by repeat constructor) rfl)) ?_ ?_|refine lq_back (m / 10, ldB (m % 10) :: acc) (.of (wk_drop [_, _] rfl (by repeat constructor) rfl (by repeat constructor) rfl)) ?_ ?_|refine lq_back (m / 10, ldB (m % 10) :: acc) (.of (wk_drop [_, _, _] rfl (by repeat constructor) rfl (by repeat constructor) rfl)) ?_ ?_
        · refine ⟨by simp only [List.length_cons]; omega, f, ?_, hTf⟩
          dsimp only
          rw [if_neg hne]
          split at hf <;> omega
        · dsimp only
          rw [if_neg hne]
          split <;> omega
      · obtain rfl : m = 0 := by omega
        obtain rfl : acc = [] := Classical.byContradiction fun h => hgo ⟨rfl, h⟩
        repeat' (first|(first|(refine k_bin ?_;refine al_v (ov_rem rfl rfl (by decide) hr) rfl ?_)|(refine k_bin ?_;refine al_v (ov_quo rfl rfl (by decide) hq) rfl ?_)|(refine al_v (ov_slice_eq (i := 0 % 10) (j := 0 % 10 + 1) (ldB_slice hm) rfl rfl rfl (by omega) (by omega) (by omega) (by decide)) rfl ?_))|(refine k_al ?_;first|(refine al_v (ov_move rfl) rfl ?_)|(refine k_g ?_;first|(refine al_gy' rfl rfl (by with_reducible rfl) ?_)|(refine al_gnt rfl rfl (by with_reducible rfl) rfl ?_)|(refine al_gnf rfl rfl (by with_reducible rfl) rfl ?_)|(refine al_gsp rfl rfl (fun hc => ?_) (fun hc => ?_) <;> (try (exfalso;omega))))|(refine al_v (ov_fieldAddr rfl rfl) rfl ?_)|(refine k_load ?_;first|(refine al_v (ov_load rfl rfl) rfl ?_))|(refine k_bin ?_;first|(refine al_v (ov_cmp rfl rfl rfl) rfl ?_)|(refine al_v (ov_cat rfl rfl (by first|omega|(simp only [List.length_append, List.length_cons, List.length_nil];omega)|(simp;omega))) rfl ?_)|(refine al_v (ov_add rfl rfl (by (first|exact w64 (by omega) (by omega)|exact w8 (by omega) (by omega)|rfl))) rfl ?_)|(refine al_v (ov_rem rfl rfl (by decide) rfl) rfl ?_)|(refine al_v (ov_seq rfl rfl) rfl ?_))|(refine k_pick ?_;first|(refine al_v (ov_pick_t' rfl (by with_reducible rfl) rfl) rfl ?_)|(refine al_v (ov_pick_f' rfl (by with_reducible rfl) rfl) rfl ?_))|(refine al_v (ov_assign rfl) rfl ?_)|(refine al_v (ov_extract rfl rfl) rfl ?_)|(refine al_nil ?_)|(refine al_alloc rfl rfl rfl (by first|exact ln1|exact ln2) (by repeat constructor) rfl ?_)|(refine al_store rfl rfl rfl rfl rfl (by repeat constructor) (by repeat constructor) ?_)|(refine al_buildSlice (by rfl) (by rfl) (by rfl) (by rfl) (by decide) (by decide) (by rfl) (by rfl) (by repeat constructor) (by rfl) (by repeat constructor) (by rfl) (by first|exact ln1|exact ln2) (by repeat constructor) rfl ?_)|(refine al_v (ov_not_f rfl (by with_reducible rfl)) rfl ?_))|(first|(refine thn_n ?_)|(refine k_awp ?_;first|(refine awp_seq (awp_region ?_))|(refine awp_seq ?_)|(refine awp_region ?_)|(refine k_cond ?_;first|(refine awp_cond_t' rfl (by with_reducible rfl) ?_)|(refine awp_cond_p rfl (fun hc => ?_) (fun hc => ?_) <;> (try (exfalso;omega))))|(refine awp_block ?_)|(refine awp_ret ?_)|(refine awp_skip ?_)|(refine awp_exit ?_))|(refine thn_ret ?_)|(refine lq_exit ?_)|(refine thn_exit ?_)|(refine inb_n ?_)|(refine inb_here ?_)))
        all_goals first
          | (exact absurd rfl (show ¬ _ from ‹¬ _›))
          | (first|refine lq_back (0 / 10, ldB (0 % 10) :: []) (.of (.same (by repeat constructor))) ?_ ?_|refine lq_back (0 / 10, ldB (0 % 10) :: []) (.of (wk_drop [_] rfl (by repeat constructor) rfl (by repeat constructor) rfl)) ?_ ?_|refine lq_back (0 / 10, ldB (0 % 10) :: []) (.of (wk_drop [_, _] rfl (by repeat constructor) rfl (by repeat constructor) rfl)) ?_ ?_|refine lq_back (0 / 10, ldB (0 % 10) :: []) (.of (wk_drop [_, _, _] rfl (by repeat constructor) rfl (by repeat constructor) rfl)) ?_ ?_
             · refine ⟨by simp, f, ?_, hTf⟩
               dsimp only
               rw [if_neg hne]
               rw [if_pos rfl] at hf
               omega
             · dsimp only
               rw [if_neg hne, if_pos rfl]
               omega)
end
end Go.Proofs.YtffcgpkbibijpaaGreatDoor.L
