/- Layer 8 (parse): the law ParseJoined. -/
import Derived.Test.YtffcgpkbibijpaaGreatDoorQdsa
import Derived.Test.YtffcgpkbibijpaaGreatDoorQdsb
set_option linter.unusedVariables false
set_option linter.unusedSimpArgs false
namespace Go.Proofs.YtffcgpkbibijpaaGreatDoor.L
open Go Go.RowKit Go.Proofs
set_option linter.unusedVariables false
set_option linter.unusedSimpArgs false
set_option maxRecDepth 100000
attribute [local irreducible] AL QL AWp Thn InB RetQ ACalls LoopQ HL HO HW HQ NoG JmpQ MidQ HF

def hexB (k : Nat) : UInt8 := if k < 10 then (48 + k).toUInt8 else (87 + k).toUInt8
def hexGo : Nat → Nat → List UInt8 → List UInt8
  | 0, _, acc => acc
  | f + 1, n, acc => if n / 16 = 0 then hexB (n % 16) :: acc else hexGo f (n / 16) (hexB (n % 16) :: acc)
def hexD (n : Nat) : List UInt8 := hexGo (n + 1) n []
def hexT : List UInt8 := [48, 49, 50, 51, 52, 53, 54, 55, 56, 57, 97, 98, 99, 100, 101, 102]
theorem hexB_all : ∀ k : Fin 16, hexI (hexB k.1) = (k.1 : Int) ∧ (hexT.take (k.1 + 1)).drop k.1 = [hexB k.1] := by decide +kernel
theorem hexB_I {k : Nat} (h : k < 16) : hexI (hexB k) = (k : Int) := (hexB_all ⟨k, h⟩).1
theorem hexB_slice {k : Nat} (h : k < 16) : (hexT.take (k + 1)).drop k = [hexB k] := (hexB_all ⟨k, h⟩).2
def hexV (m : Nat) (l : List UInt8) : Nat := l.foldl (fun m c => 16 * m + (hexI c).toNat) m
theorem hexGo_val : ∀ (f n : Nat) (acc : List UInt8), n < f → hexV 0 (hexGo f n acc) = hexV n acc := by
  intro f
  induction f with
  | zero => intro n acc h; exact absurd h (Nat.not_lt_zero _)
  | succ f ih =>
    intro n acc h
    have hm : n % 16 < 16 := Nat.mod_lt _ (by decide)
    rw [hexGo]
    split
    · rename_i h0
      unfold hexV
      rw [List.foldl_cons, hexB_I hm]
      congr 1
      omega
    · rename_i h0
      rw [ih _ _ (by omega)]
      unfold hexV
      rw [List.foldl_cons, hexB_I hm]
      congr 1
      omega
theorem hexGo_hex : ∀ (f n : Nat) (acc : List UInt8), (∀ c ∈ acc, 0 ≤ hexI c) → ∀ c ∈ hexGo f n acc, 0 ≤ hexI c := by
  intro f
  induction f with
  | zero => intro n acc h; exact h
  | succ f ih =>
    intro n acc h
    have hm : n % 16 < 16 := Nat.mod_lt _ (by decide)
    have h2 : ∀ c ∈ hexB (n % 16) :: acc, 0 ≤ hexI c := by
      intro c hc
      rcases List.mem_cons.1 hc with rfl | hc
      · rw [hexB_I hm]; omega
      · exact h c hc
    rw [hexGo]
    split
    · exact h2
    · exact ih _ _ h2
theorem hexGo_len : ∀ (f n j : Nat) (acc : List UInt8), n < 16 ^ (j + 1) → (hexGo f n acc).length ≤ acc.length + (j + 1) := by
  intro f
  induction f with
  | zero => intro n j acc _; rw [hexGo]; omega
  | succ f ih =>
    intro n j acc h
    rw [hexGo]
    split
    · simp
    · rename_i h0
      cases j with
      | zero => exact absurd h (by omega)
      | succ j =>
        have := ih (n / 16) j (hexB (n % 16) :: acc) (by rw [Nat.pow_succ] at h; omega)
        simp only [List.length_cons] at this
        omega
theorem hexGo_grow : ∀ (f n : Nat) (acc : List UInt8), acc.length ≤ (hexGo f n acc).length := by
  intro f
  induction f with
  | zero => intro n acc; exact Nat.le_refl _
  | succ f ih =>
    intro n acc
    rw [hexGo]
    split
    · simp
    · have := ih (n / 16) (hexB (n % 16) :: acc)
      simp only [List.length_cons] at this
      omega
theorem hexD_ne (n : Nat) : 0 < (hexD n).length := by
  unfold hexD
  rw [hexGo]
  split
  · simp
  · have := hexGo_grow n (n / 16) [hexB (n % 16)]
    simp only [List.length_cons, List.length_nil] at this
    omega
theorem hexD_len {n : Nat} (h : n ≤ 65536) : (hexD n).length ≤ 5 := hexGo_len _ _ 4 [] (by omega)
theorem sizeL_digits {line : Nat} {r : List UInt8} : ∀ (ds : List UInt8) (d m k : Nat), (∀ c ∈ ds, 0 ≤ hexI c) → d + ds.length ≤ 8 → sizeL line d m k (ds ++ r) = sizeL line (d + ds.length) (hexV m ds) (k + ds.length) r := by
  intro ds
  induction ds with
  | nil => intro d m k _ _; rfl
  | cons c ds ih =>
    intro d m k h hl
    simp only [List.length_cons] at hl ⊢
    rw [List.cons_append, sizeL, if_pos (h c (by simp)), if_neg (by omega), ih _ _ _ (fun x hx => h x (by simp [hx])) (by omega)]
    have e1 : d + 1 + ds.length = d + (ds.length + 1) := by omega
    have e2 : k + 1 + ds.length = k + (ds.length + 1) := by omega
    rw [e1, e2]
    rfl
theorem sizeL_crlf {line d n k : Nat} {r : List UInt8} (hd : d ≠ 0) : sizeL line d n k (13 :: 10 :: r) = .got n (k + 2) := by
  rw [sizeL, if_neg (by decide), if_neg hd, if_neg (by decide), endL, if_pos ⟨rfl, rfl⟩]
theorem sizeL_hexD {n line k : Nat} {r : List UInt8} (h : n ≤ 65536) : sizeL line 0 0 k (hexD n ++ 13 :: 10 :: r) = .got n (k + (hexD n).length + 2) := by
  have h5 := hexD_len h
  have h0 := hexD_ne n
  have hh : ∀ c ∈ hexD n, 0 ≤ hexI c := hexGo_hex _ _ _ (fun c hc => by simp at hc)
  rw [sizeL_digits (hexD n) _ _ _ hh (by omega), sizeL_crlf (by omega)]
  have : hexV 0 (hexD n) = n := hexGo_val _ _ _ (Nat.lt_succ_self _)
  rw [this]
/-- A chunk; chunks of what is not empty; the last one. -/
def chunkS (p : List UInt8) : List UInt8 := hexD p.length ++ 13 :: 10 :: (p ++ [13, 10])
def joinS (ps : List (List UInt8)) : List UInt8 := ps.flatMap fun p => if p = [] then [] else chunkS p
def lastC : List UInt8 := [48, 13, 10, 13, 10]
theorem chunkS_len (p : List UInt8) : (chunkS p).length = (hexD p.length).length + p.length + 4 := by simp [chunkS]; omega
theorem joinS_cons (p : List UInt8) (ps : List (List UInt8)) : joinS (p :: ps) = (if p = [] then [] else chunkS p) ++ joinS ps := by simp [joinS]
theorem joinS_next {ps : List (List UInt8)} {i : Nat} {p : List UInt8} (h : ps[i]? = some p) : joinS (ps.take (i + 1)) = joinS (ps.take i) ++ (if p = [] then [] else chunkS p) := by
  rw [List.take_add_one, h]
  simp [joinS]
theorem flat_next {ps : List (List UInt8)} {i : Nat} {p : List UInt8} (h : ps[i]? = some p) : (ps.take (i + 1)).flatten = (ps.take i).flatten ++ p := by
  rw [List.take_add_one, h]
  simp
theorem flat_le (ps : List (List UInt8)) : ps.flatten.length ≤ (joinS ps).length := by
  induction ps with
  | nil => exact Nat.le_refl _
  | cons p ps ih =>
    rw [List.flatten_cons, joinS_cons, List.length_append, List.length_append]
    split
    · rename_i h; subst h; simpa using ih
    · rw [chunkS_len]; omega
theorem endL_got2 (k : Nat) (r : List UInt8) : endL 0 k (13 :: 10 :: r) = .got 0 (k + 2) := by rw [endL, if_pos ⟨rfl, rfl⟩]
theorem chunks_step {f : Nat} {pre p X acc : List UInt8} (h0 : p ≠ []) (h1 : p.length ≤ 65536) : chunksF (f + 1) (pre ++ (chunkS p ++ X)) acc pre.length =
    if 16384 < acc.length + p.length then .bad 413 else chunksF f (pre ++ (chunkS p ++ X)) (acc ++ p) (pre ++ chunkS p).length := by
  have hp : 0 < p.length := List.length_pos_iff.2 h0
  have e1 : chunkS p ++ X = hexD p.length ++ 13 :: 10 :: (p ++ 13 :: 10 :: X) := by simp [chunkS]
  have e2 : pre ++ (chunkS p ++ X) = ((pre ++ (hexD p.length ++ [13, 10])) ++ p) ++ (13 :: 10 :: X) := by simp [chunkS]
  have hk : (pre ++ (hexD p.length ++ [13, 10])).length = pre.length + (hexD p.length).length + 2 := by simp; omega
  have hkn : ((pre ++ (hexD p.length ++ [13, 10])) ++ p).length = pre.length + (hexD p.length).length + 2 + p.length := by rw [List.length_append, hk]
  have hsz : sizeL pre.length 0 0 pre.length ((pre ++ (chunkS p ++ X)).drop pre.length) = .got p.length (pre.length + (hexD p.length).length + 2) := by
    rw [List.drop_left, e1]
    exact sizeL_hexD h1
  rw [chunksF, hsz, afterL]
  by_cases hb : 16384 < acc.length + p.length
  · rw [if_pos hb, if_pos hb]
  rw [if_neg hb, if_neg hb]
  have hlen : (pre ++ (chunkS p ++ X)).length = pre.length + (hexD p.length).length + 2 + p.length + 2 + X.length := by
    rw [e2, List.length_append, hkn]; simp only [List.length_cons]; omega
  rw [if_neg (by omega)]
  have hdr : (pre ++ (chunkS p ++ X)).drop (pre.length + (hexD p.length).length + 2 + p.length) = 13 :: 10 :: X := by
    rw [e2, ← hkn, List.drop_left]
  have htk : ((pre ++ (chunkS p ++ X)).take (pre.length + (hexD p.length).length + 2 + p.length)).drop (pre.length + (hexD p.length).length + 2) = p := by
    rw [e2, ← hkn, List.take_left, ← hk, List.drop_left]
  rw [hdr, endL_got2, htk]
  dsimp only
  rw [if_neg (by omega)]
  congr 1
  rw [List.length_append, chunkS_len]
  omega
theorem chunks_last {f : Nat} {pre X acc : List UInt8} (h : acc.length ≤ 16384) : chunksF (f + 1) (pre ++ (lastC ++ X)) acc pre.length = .got acc (pre.length + 5) := by
  have e2 : pre ++ (lastC ++ X) = (pre ++ [48, 13, 10]) ++ (13 :: 10 :: X) := by simp [lastC]
  have hk : (pre ++ [48, 13, 10]).length = pre.length + 3 := by simp
  have hsz : sizeL pre.length 0 0 pre.length ((pre ++ (lastC ++ X)).drop pre.length) = .got 0 (pre.length + 3) := by
    rw [List.drop_left]
    show sizeL pre.length 0 0 pre.length (48 :: 13 :: 10 :: (13 :: 10 :: X)) = _
    rw [sizeL, if_pos (by decide), if_neg (by decide), sizeL_crlf (by decide)]
    rfl
  rw [chunksF, hsz, afterL, if_neg (by omega), if_neg (by rw [e2, List.length_append, hk]; omega)]
  have hdr : (pre ++ (lastC ++ X)).drop (pre.length + 3 + 0) = 13 :: 10 :: X := by
    rw [Nat.add_zero, e2, ← hk, List.drop_left]
  rw [hdr, endL_got2]
  dsimp only
  rw [if_pos rfl]
  have : ((pre ++ (lastC ++ X)).take (pre.length + 3 + 0)).drop (pre.length + 3) = [] := by
    rw [Nat.add_zero]
    exact List.drop_eq_nil_of_le (by rw [List.length_take]; omega)
  rw [this, List.append_nil]
theorem chunks_join : ∀ (ps : List (List UInt8)) (f : Nat) (pre acc X : List UInt8), (∀ p ∈ ps, p.length ≤ 65536) → acc.length ≤ 16384 → (joinS ps).length < f →
    chunksF f (pre ++ (joinS ps ++ (lastC ++ X))) acc pre.length = if 16384 < acc.length + ps.flatten.length then .bad 413 else .got (acc ++ ps.flatten) (pre.length + (joinS ps).length + 5) := by
  intro ps
  induction ps with
  | nil =>
    intro f pre acc X _ ha hf
    obtain ⟨f, rfl⟩ : ∃ g, f = g + 1 := ⟨f - 1, by omega⟩
    have e : pre ++ (joinS [] ++ (lastC ++ X)) = pre ++ (lastC ++ X) := by simp [joinS]
    rw [e, chunks_last ha, if_neg (by simp; omega)]
    simp [joinS]
  | cons p ps ih =>
    intro f pre acc X hp ha hf
    have hps : ∀ q ∈ ps, q.length ≤ 65536 := fun q hq => hp q (by simp [hq])
    by_cases h0 : p = []
    · subst h0
      have e : joinS ([] :: ps) = joinS ps := by simp [joinS_cons]
      rw [e] at hf ⊢
      rw [ih f pre acc X hps ha hf]
      simp
    · have e : joinS (p :: ps) = chunkS p ++ joinS ps := by rw [joinS_cons, if_neg h0]
      rw [e, List.length_append] at hf
      have hc := chunkS_len p
      obtain ⟨f, rfl⟩ : ∃ g, f = g + 1 := ⟨f - 1, by omega⟩
      have e2 : pre ++ (joinS (p :: ps) ++ (lastC ++ X)) = pre ++ (chunkS p ++ (joinS ps ++ (lastC ++ X))) := by rw [e]; simp
      have e3 : pre ++ (chunkS p ++ (joinS ps ++ (lastC ++ X))) = (pre ++ chunkS p) ++ (joinS ps ++ (lastC ++ X)) := by simp
      have hfl : (p ++ ps.flatten).length = p.length + ps.flatten.length := List.length_append
      rw [e2, chunks_step h0 (hp p (by simp)), List.flatten_cons, hfl]
      by_cases hb : 16384 < acc.length + p.length
      · rw [if_pos hb, if_pos (by omega)]
      · rw [if_neg hb, e3, ih f (pre ++ chunkS p) (acc ++ p) X hps (by rw [List.length_append]; omega) (by omega), List.length_append, e, List.length_append, List.length_append]
        by_cases hb2 : 16384 < acc.length + p.length + ps.flatten.length
        · rw [if_pos hb2, if_pos (by omega)]
        · rw [if_neg hb2, if_neg (by omega)]
          have e4 : pre.length + (chunkS p).length + (joinS ps).length + 5 = pre.length + ((chunkS p).length + (joinS ps).length) + 5 := by omega
          rw [e4, List.append_assoc]
def chHdr : List UInt8 := "PUT /x HTTP/1.1\r\nHost: a\r\nTransfer-Encoding: chunked\r\n\r\n".toUTF8.data.toList
theorem chHdr_idx : Lib.index chHdr crlf2 = 52 ∧ chHdr.length = 56 := by decide +kernel
theorem chHdr_st : (headParse chHdr).2.1 = 0 := by decide +kernel
theorem chHdr_body : bodyS (headParse chHdr).1 = (2, 0, 0) := by decide +kernel
theorem ch_next {X : List UInt8} : nextL (chHdr ++ X) = match chunksS (chHdr ++ X) chHdr.length with
    | .more => .more
    | .bad st => .bad st
    | .got b k => .got (headParse chHdr).1 b k := by
  obtain ⟨hi, hl⟩ := chHdr_idx
  unfold nextL
  rw [index_app (by rw [hi]; decide), hi, if_neg (by decide)]
  have e : (52 : Int).toNat + 4 = chHdr.length := by rw [hl]; rfl
  rw [e, take_app (Nat.le_refl _), List.take_length, if_neg (fun k => k chHdr_st)]
  unfold bodyAt
  rw [chHdr_body]
  dsimp only
  rw [if_neg (fun k => k rfl), if_neg (by decide), if_pos rfl]
  cases chunksS (chHdr ++ X) chHdr.length <;> rfl
section
variable {w0 : World} {base : Nat}
theorem s_digits {n : Nat} (hn : n ≤ 65536) : PCalls (EE w0 base) 27 [.int .i64 n] fun rv => rv = .str (hexD n) := by
  refine acalls_of Tryz.func27 rfl rfl rfl (.cons .nil) ?_
  obtain ⟨T, hT⟩ : ∃ T, T = hexD n := ⟨_, rfl⟩
  rw [← hT]
  repeat' (first|(refine k_al ?_;first|(refine al_v (ov_move rfl) rfl ?_)|(refine k_bin ?_;first|(refine al_v (ov_cmp rfl rfl rfl) rfl ?_)|(refine al_v (ov_cat rfl rfl (by first|omega|(simp only [List.length_append, List.length_cons, List.length_nil];omega)|(simp;omega))) rfl ?_)|(refine al_v (ov_add rfl rfl (by (first|exact w64 (by omega) (by omega)|rfl))) rfl ?_)|(refine al_v (ov_rem rfl rfl (by decide) rfl) rfl ?_))|(refine al_v (ov_assign rfl) rfl ?_)|(refine al_nil ?_))|(first|(refine thn_n ?_)|(refine k_awp ?_;first|(refine awp_seq (awp_region ?_))|(refine awp_seq ?_)|(refine awp_region ?_)|(refine k_cond ?_;first|(refine awp_cond_p rfl (fun hc => ?_) (fun hc => ?_) <;> (try (exfalso;omega))))|(refine awp_block ?_)|(refine awp_ret ?_)|(refine awp_skip ?_))|(refine lq_ret ?_)|(refine inb_n ?_)|(refine inb_ret ?_)))
  refine awp_loopq (fun p : Nat × List UInt8 => ⟨[(0, .int .i64 p.1), (3, .str p.2)], []⟩) (fun p => p.2.length + p.1 ≤ n ∧ ∃ f, p.1 < f ∧ T = hexGo f p.1 p.2) (fun p => p.1) (n, []) (.of (.same (by repeat constructor))) ⟨by simp, n + 1, by dsimp only; omega, hT⟩ ?_
  rintro ⟨m, acc⟩ ⟨hl, f, hf, hTf⟩
  dsimp only at hl hf hTf ⊢
  obtain ⟨f, rfl⟩ : ∃ g, f = g + 1 := ⟨f - 1, by omega⟩
  rw [hexGo] at hTf
  have hr : (m : Int).tmod 16 = ((m % 16 : Nat) : Int) := rfl
  have hq : IntKind.i64.wrap ((m : Int).tdiv 16) = ((m / 16 : Nat) : Int) := by
    have : (m : Int).tdiv 16 = ((m / 16 : Nat) : Int) := rfl
    rw [this]
    exact w64 (by omega) (by omega)
  have hm : m % 16 < 16 := Nat.mod_lt _ (by decide)
  by_cases h0 : m / 16 = 0
  · rw [if_pos h0] at hTf
    repeat' (first|(first|(refine k_bin ?_;refine al_v (ov_rem rfl rfl (by decide) hr) rfl ?_)|(refine k_bin ?_;refine al_v (ov_quo rfl rfl (by decide) hq) rfl ?_)|(refine al_v (ov_slice_eq (i := m % 16) (j := m % 16 + 1) (hexB_slice hm) rfl rfl rfl (by omega) (by omega) (by omega) (by show _ ≤ 16;omega)) rfl ?_))|(refine k_al ?_;first|(refine al_v (ov_move rfl) rfl ?_)|(refine k_bin ?_;first|(refine al_v (ov_cmp rfl rfl rfl) rfl ?_)|(refine al_v (ov_cat rfl rfl (by first|omega|(simp only [List.length_append, List.length_cons, List.length_nil];omega)|(simp;omega))) rfl ?_)|(refine al_v (ov_add rfl rfl (by (first|exact w64 (by omega) (by omega)|rfl))) rfl ?_)|(refine al_v (ov_rem rfl rfl (by decide) rfl) rfl ?_))|(refine al_v (ov_assign rfl) rfl ?_)|(refine al_nil ?_))|(first|(refine thn_n ?_)|(refine k_awp ?_;first|(refine awp_seq (awp_region ?_))|(refine awp_seq ?_)|(refine awp_region ?_)|(refine k_cond ?_;first|(refine awp_cond_p rfl (fun hc => ?_) (fun hc => ?_) <;> (try (exfalso;omega))))|(refine awp_block ?_)|(refine awp_ret ?_)|(refine awp_skip ?_))|(refine lq_ret ?_)|(refine inb_n ?_)|(refine inb_ret ?_)))
    refine ret1 (by first | exact .inr rfl | exact .inl rfl) rfl rfl ?_
    exact ⟨by rw [hTf]; rfl, rfl⟩
  · rw [if_neg h0] at hTf
    repeat' (first|(first|(refine k_bin ?_;refine al_v (ov_rem rfl rfl (by decide) hr) rfl ?_)|(refine k_bin ?_;refine al_v (ov_quo rfl rfl (by decide) hq) rfl ?_)|(refine al_v (ov_slice_eq (i := m % 16) (j := m % 16 + 1) (hexB_slice hm) rfl rfl rfl (by omega) (by omega) (by omega) (by show _ ≤ 16;omega)) rfl ?_))|(refine k_al ?_;first|(refine al_v (ov_move rfl) rfl ?_)|(refine k_bin ?_;first|(refine al_v (ov_cmp rfl rfl rfl) rfl ?_)|(refine al_v (ov_cat rfl rfl (by first|omega|(simp only [List.length_append, List.length_cons, List.length_nil];omega)|(simp;omega))) rfl ?_)|(refine al_v (ov_add rfl rfl (by (first|exact w64 (by omega) (by omega)|rfl))) rfl ?_)|(refine al_v (ov_rem rfl rfl (by decide) rfl) rfl ?_))|(refine al_v (ov_assign rfl) rfl ?_)|(refine al_nil ?_))|(first|(refine thn_n ?_)|(refine k_awp ?_;first|(refine awp_seq (awp_region ?_))|(refine awp_seq ?_)|(refine awp_region ?_)|(refine k_cond ?_;first|(refine awp_cond_p rfl (fun hc => ?_) (fun hc => ?_) <;> (try (exfalso;omega))))|(refine awp_block ?_)|(refine awp_ret ?_)|(refine awp_skip ?_))|(refine lq_ret ?_)|(refine inb_n ?_)|(refine inb_ret ?_)))
    first | refine lq_back (m / 16, hexB (m % 16) :: acc) (.of (.same (by repeat constructor))) ?_ ?_ | fail
    · exact ⟨by simp only [List.length_cons]; omega, f, by dsimp only; omega, hTf⟩
    · dsimp only; omega
set_option maxHeartbeats 8000000 in
theorem s_lawJoined {ps : List (List UInt8)} (hG : Glob w0 base) (hl : ps.length ≤ 140737488351232) (hp : ∀ p ∈ ps, p.length ≤ 140737488351232) : PCalls (EE w0 base) 7 [.rs (strAV ps)] fun rv => rv = .bool true := by
  have hW := s_awake8 (w0 := w0) (base := base) hG
  have hsl := strAV_len ps
  refine acalls_of Tryz.func7 rfl rfl rfl (.cons .nil) ?_
  repeat' (first|(refine k_al ?_;first|(refine al_v (ov_move rfl) rfl ?_)|(refine k_g ?_;first|(refine al_gy' rfl rfl (by with_reducible rfl) ?_)|(refine al_gnt rfl rfl (by with_reducible rfl) rfl ?_)|(refine al_gnf rfl rfl (by with_reducible rfl) rfl ?_)|(refine al_gsp rfl rfl (fun hc => ?_) (fun hc => ?_) <;> (try (exfalso;omega))))|(refine al_v (ov_fieldAddr rfl rfl) rfl ?_)|(refine k_load ?_;first|(refine al_v (ov_load rfl rfl) rfl ?_))|(refine k_bin ?_;first|(refine al_v (ov_cmp rfl rfl rfl) rfl ?_)|(refine al_v (ov_cat rfl rfl (by first|omega|(simp only [List.length_append, List.length_cons, List.length_nil];omega)|(simp;omega))) rfl ?_)|(refine al_v (ov_add rfl rfl (by (first|exact w64 (by omega) (by omega)|rfl))) rfl ?_)|(refine al_v (ov_seq rfl rfl) rfl ?_))|(refine k_pick ?_;first|(refine al_v (ov_pick_t' rfl (by with_reducible rfl) rfl) rfl ?_)|(refine al_v (ov_pick_f' rfl (by with_reducible rfl) rfl) rfl ?_))|(refine al_v (ov_assign rfl) rfl ?_)|(refine k_call ?_;first|(refine al_v (ov_len_rs rfl) rfl ?_)|(refine al_v (ov_len_str rfl) rfl ?_))|(refine al_v (ov_extract rfl rfl) rfl ?_)|(refine al_nil ?_)|(refine al_alloc rfl rfl rfl (by first|exact ln1|exact ln2) (by repeat constructor) rfl ?_)|(refine al_store rfl rfl rfl rfl rfl (by repeat constructor) (by repeat constructor) ?_)|(refine al_v (ov_not_f rfl (by with_reducible rfl)) rfl ?_))|(first|(refine thn_n ?_)|(refine k_awp ?_;first|(refine awp_seq (awp_region ?_))|(refine awp_seq ?_)|(refine awp_region ?_)|(refine k_cond ?_;first|(refine awp_cond_t' rfl (by with_reducible rfl) ?_)|(refine awp_cond_p rfl (fun hc => ?_) (fun hc => ?_) <;> (try (exfalso;omega))))|(refine awp_block ?_)|(refine awp_ret ?_)|(refine awp_skip ?_)|(refine awp_exit ?_))|(refine thn_ret ?_)|(refine lq_exit ?_)|(refine lq_ret ?_)|(refine thn_exit ?_)|(refine inb_n ?_)|(refine inb_ret ?_)|(refine inb_here ?_)))
  refine awp_loopq (fun i : Nat => ⟨[(0, .rs (strAV ps)), (3, .str (joinS (ps.take i))), (4, .str (ps.take i).flatten), (5, .int .i64 i)], []⟩) (fun i => i ≤ ps.length ∧ (∀ p ∈ ps.take i, p.length ≤ 65536) ∧ (joinS (ps.take i)).length ≤ 32777 + (ps.take i).flatten.length ∧ (joinS (ps.take i)).length ≤ 98313) (fun i => ps.length - i) 0 (.of (.same (by repeat constructor))) ⟨Nat.zero_le _, by simp, by simp [joinS], by simp [joinS]⟩ ?_
  rintro i ⟨hi, hall, hj, hj2⟩
  dsimp only
  have hfl := flat_le (ps.take i)
  by_cases hlt : i < ps.length
  · obtain ⟨p, hpi⟩ : ∃ p, ps[i]? = some p := ⟨_, List.getElem?_eq_getElem hlt⟩
    have hrow := strAV_row' hpi
    have hpb := hp p (List.mem_of_getElem? hpi)
    have hjn := joinS_next hpi
    have hfn := flat_next hpi
    have htk : ∀ q ∈ ps.take (i + 1), p.length ≤ 65536 → q.length ≤ 65536 := by
      intro q hq hpl
      rw [List.take_add_one, hpi] at hq
      rcases List.mem_append.1 hq with hq | hq
      · exact hall q hq
      · obtain rfl : q = p := by simpa using hq
        exact hpl
    by_cases h0 : p = []
    · have hp0 : p.length = 0 := by rw [h0]; rfl
      rw [if_pos h0, List.append_nil] at hjn
      rw [h0, List.append_nil] at hfn
      repeat' (first|(first|(refine al_v (ov_indexAddr rfl rfl (by omega) hrow rfl) rfl ?_))|(refine k_al ?_;first|(refine al_v (ov_move rfl) rfl ?_)|(refine k_g ?_;first|(refine al_gy' rfl rfl (by with_reducible rfl) ?_)|(refine al_gnt rfl rfl (by with_reducible rfl) rfl ?_)|(refine al_gnf rfl rfl (by with_reducible rfl) rfl ?_)|(refine al_gsp rfl rfl (fun hc => ?_) (fun hc => ?_) <;> (try (exfalso;omega))))|(refine al_v (ov_fieldAddr rfl rfl) rfl ?_)|(refine k_load ?_;first|(refine al_v (ov_load rfl rfl) rfl ?_))|(refine k_bin ?_;first|(refine al_v (ov_cmp rfl rfl rfl) rfl ?_)|(refine al_v (ov_cat rfl rfl (by first|omega|(simp only [List.length_append, List.length_cons, List.length_nil];omega)|(simp;omega))) rfl ?_)|(refine al_v (ov_add rfl rfl (by (first|exact w64 (by omega) (by omega)|rfl))) rfl ?_)|(refine al_v (ov_seq rfl rfl) rfl ?_))|(refine k_pick ?_;first|(refine al_v (ov_pick_t' rfl (by with_reducible rfl) rfl) rfl ?_)|(refine al_v (ov_pick_f' rfl (by with_reducible rfl) rfl) rfl ?_))|(refine al_v (ov_assign rfl) rfl ?_)|(refine k_call ?_;first|(refine al_v (ov_len_rs rfl) rfl ?_)|(refine al_v (ov_len_str rfl) rfl ?_))|(refine al_v (ov_extract rfl rfl) rfl ?_)|(refine al_nil ?_)|(refine al_alloc rfl rfl rfl (by first|exact ln1|exact ln2) (by repeat constructor) rfl ?_)|(refine al_store rfl rfl rfl rfl rfl (by repeat constructor) (by repeat constructor) ?_)|(refine al_v (ov_not_f rfl (by with_reducible rfl)) rfl ?_))|(first|(refine thn_n ?_)|(refine k_awp ?_;first|(refine awp_seq (awp_region ?_))|(refine awp_seq ?_)|(refine awp_region ?_)|(refine k_cond ?_;first|(refine awp_cond_t' rfl (by with_reducible rfl) ?_)|(refine awp_cond_p rfl (fun hc => ?_) (fun hc => ?_) <;> (try (exfalso;omega))))|(refine awp_block ?_)|(refine awp_ret ?_)|(refine awp_skip ?_)|(refine awp_exit ?_))|(refine thn_ret ?_)|(refine lq_exit ?_)|(refine lq_ret ?_)|(refine thn_exit ?_)|(refine inb_n ?_)|(refine inb_ret ?_)|(refine inb_here ?_)))
      refine lq_back (i + 1) (.of (.same (by rw [hjn, hfn]; repeat constructor))) ?_ ?_
      · rw [hjn, hfn]
        exact ⟨by omega, fun q hq => htk q hq (by omega), hj, hj2⟩
      · omega
    · have hp0 : 0 < p.length := List.length_pos_iff.2 h0
      rw [if_neg h0] at hjn
      by_cases hbig : 65536 < p.length ∨ 32768 < (joinS (ps.take i)).length
      · repeat' (first|(first|(refine al_v (ov_indexAddr rfl rfl (by omega) hrow rfl) rfl ?_)|(refine k_call ?_;refine al_call rfl rfl rfl rfl hW ?_;rintro _ rfl))|(refine k_al ?_;first|(refine al_v (ov_move rfl) rfl ?_)|(refine k_g ?_;first|(refine al_gy' rfl rfl (by with_reducible rfl) ?_)|(refine al_gnt rfl rfl (by with_reducible rfl) rfl ?_)|(refine al_gnf rfl rfl (by with_reducible rfl) rfl ?_)|(refine al_gsp rfl rfl (fun hc => ?_) (fun hc => ?_) <;> (try (exfalso;omega))))|(refine al_v (ov_fieldAddr rfl rfl) rfl ?_)|(refine k_load ?_;first|(refine al_v (ov_load rfl rfl) rfl ?_))|(refine k_bin ?_;first|(refine al_v (ov_cmp rfl rfl rfl) rfl ?_)|(refine al_v (ov_cat rfl rfl (by first|omega|(simp only [List.length_append, List.length_cons, List.length_nil];omega)|(simp;omega))) rfl ?_)|(refine al_v (ov_add rfl rfl (by (first|exact w64 (by omega) (by omega)|rfl))) rfl ?_)|(refine al_v (ov_seq rfl rfl) rfl ?_))|(refine k_pick ?_;first|(refine al_v (ov_pick_t' rfl (by with_reducible rfl) rfl) rfl ?_)|(refine al_v (ov_pick_f' rfl (by with_reducible rfl) rfl) rfl ?_))|(refine al_v (ov_assign rfl) rfl ?_)|(refine k_call ?_;first|(refine al_v (ov_len_rs rfl) rfl ?_)|(refine al_v (ov_len_str rfl) rfl ?_))|(refine al_v (ov_extract rfl rfl) rfl ?_)|(refine al_nil ?_)|(refine al_alloc rfl rfl rfl (by first|exact ln1|exact ln2) (by repeat constructor) rfl ?_)|(refine al_store rfl rfl rfl rfl rfl (by repeat constructor) (by repeat constructor) ?_)|(refine al_v (ov_not_f rfl (by with_reducible rfl)) rfl ?_))|(first|(refine thn_n ?_)|(refine k_awp ?_;first|(refine awp_seq (awp_region ?_))|(refine awp_seq ?_)|(refine awp_region ?_)|(refine k_cond ?_;first|(refine awp_cond_t' rfl (by with_reducible rfl) ?_)|(refine awp_cond_p rfl (fun hc => ?_) (fun hc => ?_) <;> (try (exfalso;omega))))|(refine awp_block ?_)|(refine awp_ret ?_)|(refine awp_skip ?_)|(refine awp_exit ?_))|(refine thn_ret ?_)|(refine lq_exit ?_)|(refine lq_ret ?_)|(refine thn_exit ?_)|(refine inb_n ?_)|(refine inb_ret ?_)|(refine inb_here ?_)))
        all_goals
          refine ret1 (by first | exact .inr rfl | exact .inl rfl) rfl rfl ?_
          exact ⟨rfl, rfl⟩
      · have hD := s_digits (w0 := w0) (base := base) (n := p.length) (by omega)
        have h5 := hexD_len (n := p.length) (by omega)
        have hcl := chunkS_len p
        have hjl : (joinS (ps.take i) ++ chunkS p).length = (joinS (ps.take i)).length + (chunkS p).length := List.length_append
        have hjf : ((ps.take i).flatten ++ p).length = (ps.take i).flatten.length + p.length := List.length_append
        have he : (((joinS (ps.take i) ++ hexD p.length) ++ [13, 10]) ++ p) ++ [13, 10] = joinS (ps.take (i + 1)) := by rw [hjn]; simp [chunkS]
        repeat' (first|(first|(refine awp_held (id := 8) [] [⟨0, true, [], bl 16 7806⟩, ⟨1, true, [], bl 16 7685⟩, ⟨2, true, [], bl 16 7683⟩, ⟨3, true, [], bl 16 7687⟩, ⟨4, true, [], bl 16 7695⟩, ⟨5, true, [], bl 16 7711⟩, ⟨9, true, [], bl 16 1535⟩, ⟨10, true, [], bl 16 1023⟩, ⟨11, true, [], bl 16 2047⟩, ⟨12, true, [], bl 16 4095⟩, ⟨6, false, [], []⟩, ⟨7, true, [], bl 16 7807⟩, ⟨8, true, [], bl 16 7935⟩, ⟨13, true, [], bl 16 8191⟩, ⟨14, true, [], bl 16 16383⟩, ⟨15, true, [], bl 16 32767⟩] (by kernel_rfl) (by kernel_rfl) rfl (by kernel_rfl) ?_)|(refine al_v (ov_indexAddr rfl rfl (by omega) hrow rfl) rfl ?_)|(refine hw_v (ov_indexAddr rfl rfl (by omega) hrow rfl) rfl ?_)|(refine k_call ?_;refine al_call rfl rfl rfl rfl hD ?_;rintro _ rfl))|(refine k_al ?_;first|(refine al_v (ov_move rfl) rfl ?_)|(refine k_g ?_;first|(refine al_gy' rfl rfl (by with_reducible rfl) ?_)|(refine al_gnt rfl rfl (by with_reducible rfl) rfl ?_)|(refine al_gnf rfl rfl (by with_reducible rfl) rfl ?_)|(refine al_gsp rfl rfl (fun hc => ?_) (fun hc => ?_) <;> (try (exfalso;omega))))|(refine al_v (ov_fieldAddr rfl rfl) rfl ?_)|(refine k_load ?_;first|(refine al_v (ov_load rfl rfl) rfl ?_))|(refine k_bin ?_;first|(refine al_v (ov_cmp rfl rfl rfl) rfl ?_)|(refine al_v (ov_cat rfl rfl (by first|omega|(simp only [List.length_append, List.length_cons, List.length_nil];omega)|(simp;omega))) rfl ?_)|(refine al_v (ov_add rfl rfl (by (first|exact w64 (by omega) (by omega)|rfl))) rfl ?_)|(refine al_v (ov_seq rfl rfl) rfl ?_))|(refine k_pick ?_;first|(refine al_v (ov_pick_t' rfl (by with_reducible rfl) rfl) rfl ?_)|(refine al_v (ov_pick_f' rfl (by with_reducible rfl) rfl) rfl ?_))|(refine al_v (ov_assign rfl) rfl ?_)|(refine k_call ?_;first|(refine al_v (ov_len_rs rfl) rfl ?_)|(refine al_v (ov_len_str rfl) rfl ?_))|(refine al_v (ov_extract rfl rfl) rfl ?_)|(refine al_nil ?_)|(refine al_alloc rfl rfl rfl (by first|exact ln1|exact ln2) (by repeat constructor) rfl ?_)|(refine al_store rfl rfl rfl rfl rfl (by repeat constructor) (by repeat constructor) ?_)|(refine al_v (ov_not_f rfl (by with_reducible rfl)) rfl ?_))|(first|(refine thn_n ?_)|(refine k_awp ?_;first|(refine awp_seq (awp_region ?_))|(refine awp_seq ?_)|(refine awp_region ?_)|(refine k_cond ?_;first|(refine awp_cond_t' rfl (by with_reducible rfl) ?_)|(refine awp_cond_p rfl (fun hc => ?_) (fun hc => ?_) <;> (try (exfalso;omega))))|(refine awp_block ?_)|(refine awp_ret ?_)|(refine awp_skip ?_)|(refine awp_exit ?_))|(refine thn_ret ?_)|(refine lq_exit ?_)|(refine lq_ret ?_)|(refine thn_exit ?_)|(refine inb_n ?_)|(refine inb_ret ?_)|(refine inb_here ?_))|(first|(refine k_hw ?_;first|(refine hw_s rfl ?_)|(refine hw_v (ov_move rfl) rfl ?_)|(refine hw_v (ov_assign rfl) rfl ?_)|(refine hw_v (ov_fieldAddr rfl rfl) rfl ?_)|(refine hw_v (ov_load rfl rfl) rfl ?_)|(refine hw_v (ov_cmp rfl rfl rfl) rfl ?_)|(refine hw_v (ov_pick_t' rfl (by with_reducible rfl) rfl) rfl ?_)|(refine hw_v (ov_pick_f' rfl (by with_reducible rfl) rfl) rfl ?_)|(refine hw_v (ov_len_rs rfl) rfl ?_)|(refine hw_v (ov_len_str rfl) rfl ?_)|(refine hw_v (ov_seq rfl rfl) rfl ?_)|(refine hw_v (ov_extract rfl rfl) rfl ?_)|(refine hw_v (ov_add rfl rfl (by (first|exact w64 (by omega) (by omega)|rfl))) rfl ?_)|(refine hw_v (ov_not_f rfl (by with_reducible rfl)) rfl ?_)|(refine hw_v (ov_cat rfl rfl (by first|omega|(simp only [List.length_append, List.length_cons, List.length_nil];omega)|(simp;omega))) rfl ?_))|(refine hl_op rfl ?_)|(refine k_ho ?_;first|(refine ho_n ?_))|(refine hl_nil ?_)|(refine hq_back ?_)))
        refine lq_back (i + 1) ((Wkn.spell 3 (.str (joinS (ps.take (i + 1)))) rfl (congrArg AV.str he)).trans ((Wkn.spell 4 (.str (ps.take (i + 1)).flatten) rfl (congrArg AV.str hfn.symm)).trans (.of (.same (by repeat constructor))))) ?_ ?_
        · refine ⟨by omega, fun q hq => htk q hq (by omega), ?_, ?_⟩
          · rw [hjn, hfn, hjl, hjf]; omega
          · rw [hjn, hjl]; omega
        · omega
  · obtain rfl : i = ps.length := by omega
    rw [List.take_length] at hall hj hj2 hfl
    rw [List.take_length]
    have hll : (joinS ps ++ lastC).length = (joinS ps).length + 5 := by rw [List.length_append]; rfl
    have hcj : chunksS (joinS ps ++ lastC) 0 = if 16384 < ps.flatten.length then .bad 413 else .got ps.flatten ((joinS ps).length + 5) := by
      have := chunks_join ps ((joinS ps ++ lastC).length + 1) [] [] [] hall (by simp) (by omega)
      simp only [List.nil_append, List.append_nil, List.length_nil, Nat.zero_add] at this
      exact this
    have hC := s_chunks (w0 := w0) (base := base) (s := joinS ps ++ lastC) (at' := 0) (Nat.zero_le _) (by omega)
    rw [hcj] at hC
    by_cases hbig : 16384 < ps.flatten.length
    · rw [if_pos hbig] at hC
      repeat' (first|(first|(refine k_call ?_;refine al_call rfl rfl rfl rfl hC ?_;rintro _ rfl)|(refine k_call ?_;refine al_call rfl rfl rfl rfl hW ?_;rintro _ rfl))|(refine k_al ?_;first|(refine al_v (ov_move rfl) rfl ?_)|(refine k_g ?_;first|(refine al_gy' rfl rfl (by with_reducible rfl) ?_)|(refine al_gnt rfl rfl (by with_reducible rfl) rfl ?_)|(refine al_gnf rfl rfl (by with_reducible rfl) rfl ?_)|(refine al_gsp rfl rfl (fun hc => ?_) (fun hc => ?_) <;> (try (exfalso;omega))))|(refine al_v (ov_fieldAddr rfl rfl) rfl ?_)|(refine k_load ?_;first|(refine al_v (ov_load rfl rfl) rfl ?_))|(refine k_bin ?_;first|(refine al_v (ov_cmp rfl rfl rfl) rfl ?_)|(refine al_v (ov_cat rfl rfl (by first|omega|(simp only [List.length_append, List.length_cons, List.length_nil];omega)|(simp;omega))) rfl ?_)|(refine al_v (ov_add rfl rfl (by (first|exact w64 (by omega) (by omega)|rfl))) rfl ?_)|(refine al_v (ov_seq rfl rfl) rfl ?_))|(refine k_pick ?_;first|(refine al_v (ov_pick_t' rfl (by with_reducible rfl) rfl) rfl ?_)|(refine al_v (ov_pick_f' rfl (by with_reducible rfl) rfl) rfl ?_))|(refine al_v (ov_assign rfl) rfl ?_)|(refine k_call ?_;first|(refine al_v (ov_len_rs rfl) rfl ?_)|(refine al_v (ov_len_str rfl) rfl ?_))|(refine al_v (ov_extract rfl rfl) rfl ?_)|(refine al_nil ?_)|(refine al_alloc rfl rfl rfl (by first|exact ln1|exact ln2) (by repeat constructor) rfl ?_)|(refine al_store rfl rfl rfl rfl rfl (by repeat constructor) (by repeat constructor) ?_)|(refine al_v (ov_not_f rfl (by with_reducible rfl)) rfl ?_))|(first|(refine thn_n ?_)|(refine k_awp ?_;first|(refine awp_seq (awp_region ?_))|(refine awp_seq ?_)|(refine awp_region ?_)|(refine k_cond ?_;first|(refine awp_cond_t' rfl (by with_reducible rfl) ?_)|(refine awp_cond_p rfl (fun hc => ?_) (fun hc => ?_) <;> (try (exfalso;omega))))|(refine awp_block ?_)|(refine awp_ret ?_)|(refine awp_skip ?_)|(refine awp_exit ?_))|(refine thn_ret ?_)|(refine lq_exit ?_)|(refine lq_ret ?_)|(refine thn_exit ?_)|(refine inb_n ?_)|(refine inb_ret ?_)|(refine inb_here ?_)))
      refine ret1 (by first | exact .inr rfl | exact .inl rfl) rfl rfl ?_
      exact ⟨rfl, rfl⟩
    · rw [if_neg hbig] at hC
      obtain ⟨hci, hcl⟩ := chHdr_idx
      have hgl : getS.length = 28 := by decide +kernel
      have hXl : ((chHdr ++ (joinS ps ++ lastC)) ++ getS).length = (joinS ps).length + 89 := by rw [List.length_append, List.length_append, hll, hcl, hgl]; omega
      have hF := a_feed (w0 := w0) (base := base) (s := []) (t := (chHdr ++ (joinS ps ++ lastC)) ++ getS) (st := 0) (by simp) (by omega)
      rw [feedS_ok (by rw [List.length_nil]; omega), List.nil_append] at hF
      have hx : nextL ((chHdr ++ (joinS ps ++ lastC)) ++ getS) = .got (headParse chHdr).1 ps.flatten (chHdr.length + (joinS ps).length + 5) := by
        have e : (chHdr ++ (joinS ps ++ lastC)) ++ getS = chHdr ++ (joinS ps ++ (lastC ++ getS)) := by simp
        have := chunks_join ps ((chHdr ++ (joinS ps ++ (lastC ++ getS))).length + 1) chHdr [] getS hall (by simp) (by rw [← e]; omega)
        rw [e, ch_next]
        unfold chunksS
        rw [this, if_neg (by simpa using hbig)]
        rfl
      have hN := a_nextG (w0 := w0) (base := base) hG (by omega) hx
      have hdr : ((chHdr ++ (joinS ps ++ lastC)) ++ getS).drop (chHdr.length + (joinS ps).length + 5) = getS := by
        have : chHdr.length + (joinS ps).length + 5 = (chHdr ++ (joinS ps ++ lastC)).length := by rw [List.length_append, hll]; omega
        rw [this, List.drop_left]
      rw [hdr] at hN
      have hg := aw_next
      obtain ⟨hd, b, k, hgt, ht⟩ : ∃ hd b k, nextL getS = .got hd b k ∧ tgtP hd.t = [47, 120] := by
        revert hg
        cases nextL getS with
        | got hd b k => intro hg; exact ⟨hd, b, k, rfl, congrArg Prod.snd hg⟩
        | more => intro hg; exact absurd (congrArg Prod.fst hg) (by decide)
        | bad st => intro hg; exact absurd (congrArg Prod.fst hg) (show ¬ (0 = 28) by decide)
      have hM := a_nextG (w0 := w0) (base := base) hG (by omega) hgt
      unfold reqAV at hN hM
      rw [ht] at hM
      repeat' (first|(first|(refine k_call ?_;refine al_call rfl rfl rfl rfl hC ?_;rintro _ rfl)|(refine k_call ?_;refine al_acall [] rfl rfl a_new ?_ ?_ rfl rfl ?_;(focus ((repeat constructor);done));(focus ((repeat constructor);done));rintro _ _ ⟨rfl, rfl⟩;refine ⟨_, _, by repeat constructor, by repeat constructor, ?_⟩)|(refine k_call ?_;refine al_acall [0] rfl rfl hF ?_ ?_ rfl rfl ?_;(focus ((repeat constructor);done));(focus ((repeat constructor);done));rintro _ _ ⟨rfl, rfl⟩;refine ⟨_, _, by repeat constructor, by repeat constructor, ?_⟩)|(refine k_call ?_;refine al_acall [0] rfl rfl hN ?_ ?_ rfl rfl ?_;(focus ((repeat constructor);done));(focus ((repeat constructor);done));rintro _ _ ⟨rfl, rfl⟩;refine ⟨_, _, by repeat constructor, by repeat constructor, ?_⟩)|(refine k_call ?_;refine al_acall [0] rfl rfl hM ?_ ?_ rfl rfl ?_;(focus ((repeat constructor);done));(focus ((repeat constructor);done));rintro _ _ ⟨rfl, rfl⟩;refine ⟨_, _, by repeat constructor, by repeat constructor, ?_⟩)|(refine k_bin ?_;refine al_v (ov_peq_pn rfl rfl rfl) rfl ?_)|(refine k_call ?_;refine al_call rfl rfl rfl rfl hW ?_;rintro _ rfl))|(refine k_al ?_;first|(refine al_v (ov_move rfl) rfl ?_)|(refine k_g ?_;first|(refine al_gy' rfl rfl (by with_reducible rfl) ?_)|(refine al_gnt rfl rfl (by with_reducible rfl) rfl ?_)|(refine al_gnf rfl rfl (by with_reducible rfl) rfl ?_)|(refine al_gsp rfl rfl (fun hc => ?_) (fun hc => ?_) <;> (try (exfalso;omega))))|(refine al_v (ov_fieldAddr rfl rfl) rfl ?_)|(refine k_load ?_;first|(refine al_v (ov_load rfl rfl) rfl ?_))|(refine k_bin ?_;first|(refine al_v (ov_cmp rfl rfl rfl) rfl ?_)|(refine al_v (ov_cat rfl rfl (by first|omega|(simp only [List.length_append, List.length_cons, List.length_nil];omega)|(simp;omega))) rfl ?_)|(refine al_v (ov_add rfl rfl (by (first|exact w64 (by omega) (by omega)|rfl))) rfl ?_)|(refine al_v (ov_seq rfl rfl) rfl ?_))|(refine k_pick ?_;first|(refine al_v (ov_pick_t' rfl (by with_reducible rfl) rfl) rfl ?_)|(refine al_v (ov_pick_f' rfl (by with_reducible rfl) rfl) rfl ?_))|(refine al_v (ov_assign rfl) rfl ?_)|(refine k_call ?_;first|(refine al_v (ov_len_rs rfl) rfl ?_)|(refine al_v (ov_len_str rfl) rfl ?_))|(refine al_v (ov_extract rfl rfl) rfl ?_)|(refine al_nil ?_)|(refine al_alloc rfl rfl rfl (by first|exact ln1|exact ln2) (by repeat constructor) rfl ?_)|(refine al_store rfl rfl rfl rfl rfl (by repeat constructor) (by repeat constructor) ?_)|(refine al_v (ov_not_f rfl (by with_reducible rfl)) rfl ?_))|(first|(refine thn_n ?_)|(refine k_awp ?_;first|(refine awp_seq (awp_region ?_))|(refine awp_seq ?_)|(refine awp_region ?_)|(refine k_cond ?_;first|(refine awp_cond_t' rfl (by with_reducible rfl) ?_)|(refine awp_cond_p rfl (fun hc => ?_) (fun hc => ?_) <;> (try (exfalso;omega))))|(refine awp_block ?_)|(refine awp_ret ?_)|(refine awp_skip ?_)|(refine awp_exit ?_))|(refine thn_ret ?_)|(refine lq_exit ?_)|(refine lq_ret ?_)|(refine thn_exit ?_)|(refine inb_n ?_)|(refine inb_ret ?_)|(refine inb_here ?_)))
      all_goals first
        | (refine ret1 (by first | exact .inr rfl | exact .inl rfl) rfl rfl ?_
           exact ⟨rfl, rfl⟩)
        | (exfalso; omega)
        | (exact absurd (show (((joinS ps).length + 5 : Nat) : Int) = ((joinS ps ++ lastC).length : Int) by rw [hll]) (by assumption))
        | (exact absurd rfl (show ¬ _ from ‹¬ _›))
end
end Go.Proofs.YtffcgpkbibijpaaGreatDoor.L
